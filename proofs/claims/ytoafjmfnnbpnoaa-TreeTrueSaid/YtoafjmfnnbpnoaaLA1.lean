/-
  What right of the tree's statements computes.
-/
import Derived.Test.YtoafjmfnnbpnoaaPL3
set_option linter.unusedVariables false
set_option linter.unusedSimpArgs false
namespace Go.Proofs.Ytoafjmfnnbpnoaa
open Go Go.RowKit

def rightU (k : Int) (u : List Int) : Bool := (checkF u k).2 == 0 && decide (u.length ≤ 12)
def rightL (xss : List (List Int)) (k : Int) : Bool := decide (xss.length ≤ 12) && xss.all (rightU k)
theorem all_drop {α : Type} (p : α → Bool) (xs : List α) (n : Nat) (hn : n < xs.length) : (xs.drop n).all p = (p xs[n] && (xs.drop (n + 1)).all p) := by
  rw [List.drop_eq_getElem_cons hn, List.all_cons]
theorem rightU_iff (k : Int) (u : List Int) : rightU k u = true ↔ ((1 ≤ k ∧ k ≤ 64) ∧ OkW k u) ∧ u.length ≤ 12 := by
  unfold rightU
  rw [Bool.and_eq_true, beq_iff_eq, decide_eq_true_eq, checkF_ok]
  constructor
  · rintro ⟨⟨a, _, b⟩, d⟩; exact ⟨⟨a, b⟩, d⟩
  · rintro ⟨⟨a, b⟩, d⟩; exact ⟨⟨a, by omega, b⟩, d⟩

set_option maxRecDepth 20000 in
theorem l14_right (v : Value) (xss : List (List Int)) (k : Int) (w : World) (ok : Nat → Prop) (hs : SL w ok v xss) :
    Calls Try.prog 37 #[v, .int .i64 k] w fun e w' => e = .returned (.bool (rightL xss k)) ∧ w = w' := by
  obtain ⟨A, c, rfl, hlc, hmx⟩ := hs.open
  have Hs := Lib.hid hs
  clear hs
  by_cases h12 : xss.length ≤ 12
  · have h0 : Hid (rightL xss k = (xss.drop 0).all (rightU k)) := by show _ = _; simp [rightL, h12]
    go_enter Try.func37, Try.ntmps37
    go_wp2_with fail
    go_loop [5] (fun i => ∃ n : Nat, n ≤ xss.length ∧ i = .int .i64 n ∧ Hid (rightL xss k = (xss.drop n).all (rightU k))) (fun i => xss.length - (intOf i).toNat)
    case atStart => exact ⟨0, Nat.zero_le _, rfl, h0.out⟩
    case round =>
      clear h0
      obtain ⟨n, hn, rfl, hF⟩ := hrel
      by_cases hlt : n < xss.length
      · obtain ⟨ad, A', c', rfl, _, hc, hsi⟩ := Hs.out.cell n hlt
        have Hsi := Lib.hid hsi
        have hstep := Lib.hid (all_drop (rightU k) xss n hlt)
        have hg := Lib.hid (gL_get xss n hlt)
        obtain ⟨u, hu⟩ : ∃ u, gL xss n = u := ⟨_, rfl⟩
        rw [hu] at hc hsi
        have Hu := Lib.hid hu
        obtain ⟨r, hr⟩ : ∃ r, checkF u k = r := ⟨_, rfl⟩
        have Hr := Lib.hid hr
        have hW := Lib.hid (W_Check (.slice A' u.length c') u k w ok hsi)
        clear hsi hu hr
        by_cases h0 : r.2 = 0
        · have hb : (r.2 != 0) = false := by simp [h0]
          by_cases h1 : u.length ≤ 12
          · go_wp2_with fail
            refine hW.out.mono ?_
            rintro e w1 ⟨he, rfl⟩
            rw [Hr.out] at he
            subst he
            unfold pairV
            go_wp2_with fail
            go_round
            case rel => exact ⟨n + 1, by omega, by go_num, by
              show _ = _
              rw [hF.out, hstep.out, ← hg.out, Hu.out]
              have : rightU k u = true := by simp [rightU, Hr.out, h0, h1]
              rw [this, Bool.true_and]⟩
            case measure => simp [intOf]; omega
          · go_wp2_with fail
            refine hW.out.mono ?_
            rintro e w1 ⟨he, rfl⟩
            rw [Hr.out] at he
            subst he
            unfold pairV
            go_wp2_with fail
            go_ret
            refine ⟨ret_bool ?_, rfl⟩
            rw [hF.out, hstep.out, ← hg.out, Hu.out]
            have : rightU k u = false := by simp [rightU, h1]
            rw [this, Bool.false_and]
        · have hb : (r.2 != 0) = true := by simp [h0]
          go_wp2_with fail
          refine hW.out.mono ?_
          rintro e w1 ⟨he, rfl⟩
          rw [Hr.out] at he
          subst he
          unfold pairV
          go_wp2_with fail
          go_ret
          refine ⟨ret_bool ?_, rfl⟩
          rw [hF.out, hstep.out, ← hg.out, Hu.out]
          have : rightU k u = false := by simp [rightU, Hr.out, h0]
          rw [this, Bool.false_and]
      · go_wp2_with fail
        go_ret
        refine ⟨ret_bool ?_, rfl⟩
        rw [hF.out, List.drop_eq_nil_of_le (by omega)]; rfl
  · have e : Hid (rightL xss k = false) := by show _ = _; simp [rightL, h12]
    go_enter Try.func37, Try.ntmps37
    go_wp2_with fail
    go_ret
    exact ⟨ret_bool e.out.symm, rfl⟩
end Go.Proofs.Ytoafjmfnnbpnoaa
