/-
  What word.Check, slices.Equal, slices.Clone, word.Join and the references' W.Check, W.Same, W.Join compute.
-/
import Derived.Test.YtoafjmfnnbpnoaaBase
set_option linter.unusedVariables false
set_option linter.unusedSimpArgs false
namespace Go.Proofs.Ytoafjmfnnbpnoaa
open Go Go.RowKit

/-! ### word.Check, W.Check -/
def badAt (k : Int) : List Int → Nat → Option Nat
  | [], _ => none
  | x :: xs, i => if x < 0 ∨ x ≥ k then some i else badAt k xs (i + 1)
def checkF (xs : List Int) (k : Int) : Int × Int :=
  if ¬ (1 ≤ k ∧ k ≤ 64) then (0, 1) else if xs.length > 4096 then (0, 2) else
  match badAt k xs 0 with
  | some i => (i, 10)
  | none => (0, 0)

theorem badAt_drop (k : Int) (xs : List Int) (n : Nat) (hn : n < xs.length) :
    badAt k (xs.drop n) n = if gI xs n < 0 ∨ gI xs n ≥ k then some n else badAt k (xs.drop (n + 1)) (n + 1) := by
  rw [List.drop_eq_getElem_cons hn, badAt]
  rw [gI_get xs n hn]

theorem alphabet (k : Int) (w : World) :
    Calls Try.prog 170 #[.int .i64 k] w fun e w' => e = .returned (.bool (decide (1 ≤ k ∧ k ≤ 64))) ∧ w = w' := by
  by_cases h1 : k ≥ 1
  · go_enter Try.func170, Try.ntmps170
    go_wp2
    go_ret
    exact ⟨ret_bool (by simp; omega), rfl⟩
  · go_enter Try.func170, Try.ntmps170
    go_wp2
    go_ret
    exact ⟨ret_bool (by simp; omega), rfl⟩

theorem word_Check (v : Value) (xs : List Int) (k : Int) (w : World) (ok : Nat → Prop) (hs : SI w ok v xs) :
    Calls Try.prog 100 #[v, .int .i64 k] w fun e w' => e = .returned (.tuple #[.int .i64 (checkF xs k).1, .int .i64 (checkF xs k).2]) ∧ w = w' := by
  obtain ⟨A, c, rfl, hlc, hmx⟩ := hs.open
  by_cases h1 : 1 ≤ k ∧ k ≤ 64
  · have ha : decide (1 ≤ k ∧ k ≤ 64) = true := by simp [h1]
    by_cases h2 : xs.length ≤ 4096
    · have hF : Hid (checkF xs k = match badAt k (xs.drop 0) 0 with | some i => ((i : Int), (10 : Int)) | none => (0, 0)) := by
        show _ = _
        unfold checkF; rw [if_neg (by simpa using h1), if_neg (by omega)]; rfl
      go_enter Try.func100, Try.ntmps100
      go_wp2_with (go_at_call 170; refine (alphabet _ _).mono ?_; rintro e w' ⟨rfl, rfl⟩)
      go_loop [17] (fun i => ∃ n : Nat, n ≤ xs.length ∧ i = .int .i64 n ∧ Hid (checkF xs k = match badAt k (xs.drop n) n with | some i => ((i : Int), (10 : Int)) | none => (0, 0))) (fun i => xs.length - (intOf i).toNat)
      case atStart => exact ⟨0, Nat.zero_le _, rfl, hF⟩
      case round =>
        clear hF
        obtain ⟨n, hn, rfl, hF⟩ := hrel
        by_cases hlt : n < xs.length
        · obtain ⟨ad, rfl, _, hc⟩ := hs.cell n hlt
          have hb := Lib.hid (badAt_drop k xs n hlt)
          obtain ⟨x, hx⟩ : ∃ x, gI xs n = x := ⟨_, rfl⟩
          rw [hx] at hc
          have Hx := Lib.hid hx
          clear hx
          by_cases hx1 : x < 0
          · go_wp2
            go_ret2
            have e : checkF xs k = ((n : Int), (10 : Int)) := by
              rw [hF.out, hb.out, Hx.out, if_pos (Or.inl hx1)]
            exact ⟨by rw [e]; rfl, rfl⟩
          · by_cases hx2 : x ≥ k
            · go_wp2
              go_ret2
              have e : checkF xs k = ((n : Int), (10 : Int)) := by
                rw [hF.out, hb.out, Hx.out, if_pos (Or.inr hx2)]
              exact ⟨by rw [e]; rfl, rfl⟩
            · go_wp2
              go_round
              case rel => exact ⟨n + 1, by omega, by go_num, by
                show _ = _
                rw [hF.out, hb.out, Hx.out, if_neg (by omega)]⟩
              case measure => simp [intOf]; omega
        · go_wp2
          go_ret2
          have e : checkF xs k = ((0 : Int), (0 : Int)) := by
            rw [hF.out, List.drop_eq_nil_of_le (by omega)]; rfl
          exact ⟨by rw [e]; rfl, rfl⟩
    · have e : checkF xs k = (0, 2) := by unfold checkF; rw [if_neg (by simpa using h1), if_pos (by omega)]
      have He := Lib.hid e
      clear e
      go_enter Try.func100, Try.ntmps100
      go_wp2_with (go_at_call 170; refine (alphabet _ _).mono ?_; rintro e w' ⟨rfl, rfl⟩)
      go_ret2
      exact ⟨by rw [He.out]; rfl, rfl⟩
  · have ha : decide (1 ≤ k ∧ k ≤ 64) = false := by simp; omega
    have e : checkF xs k = (0, 1) := by unfold checkF; rw [if_pos h1]
    have He := Lib.hid e
    clear e
    go_enter Try.func100, Try.ntmps100
    go_wp2_with (go_at_call 170; refine (alphabet _ _).mono ?_; rintro e w' ⟨rfl, rfl⟩)
    go_ret2
    exact ⟨by rw [He.out]; rfl, rfl⟩

end Go.Proofs.Ytoafjmfnnbpnoaa
