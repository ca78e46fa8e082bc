/-
  What the tree's answer computes; is a word among some words: slices.ContainsFunc with the function that Split hands over.
-/
import Derived.Test.YtoafjmfnnbpnoaaTR14
set_option linter.unusedVariables false
set_option linter.unusedSimpArgs false
namespace Go.Proofs.Ytoafjmfnnbpnoaa
open Go Go.RowKit

def AnsR (w : World) (r : Bool) (e : Ending) (w' : World) : Prop := e = .returned (.bool r) ∧ Below w.heap.size w w'

set_option maxRecDepth 20000 in
set_option maxHeartbeats 4000000 in
theorem tree_answer (w : World) (F : Nat → Prop) (T : Nat) (p : PT) (vd vo : Value) (d out : List Int) (ok1 ok2 : Nat → Prop) (ht : TreeAt w F T p) (hd : SI w ok1 vd d) (ho : SI w ok2 vo out) :
    Calls Try.prog 111 #[.pointer (some ⟨T, 0, none⟩), vd, vo] w (AnsR w (saidF p.kind p.o d.length out)) := by
  obtain ⟨vall, vacc, vplace, vword, vaccs, gall, h⟩ := ht
  have d0 := h.c0
  have d1 := h.c1
  have d2 := h.c2
  have d3 := h.c3
  have d4 := h.c4
  have d5 := h.c5
  obtain ⟨A, c, rfl, _⟩ := hd.open
  obtain ⟨Ao, co, rfl, _⟩ := ho.open
  have Ho := Lib.hid ho
  obtain ⟨r, hr⟩ : ∃ r, saidF p.kind p.o d.length out = r := ⟨_, rfl⟩
  have Hr := Lib.hid hr
  rw [hr]
  clear h hd ho hr
  go_enter Try.func111, Try.ntmps111
  go_wp2_with fail
  refine (teach_Check _ _ _ _ _ _ _ _ _ _ _ _ _ _ out _ ok2 Ho.out).mono ?_
  rintro e w2 ⟨he, hbl2⟩
  rw [Hr.out] at he
  subst he
  cases r with
  | true =>
    go_wp2_with fail
    go_ret
    exact ⟨rfl, hbl2⟩
  | false =>
    go_wp2_with fail
    go_ret
    exact ⟨rfl, hbl2⟩

theorem split_1 (w : World) (b : Nat) (vx vw : Value) (xs ws : List Int) (ok1 ok2 : Nat → Prop) (hx : SI w ok1 vx xs) (hw : SI w ok2 vw ws) (hc : w.cell? ⟨b, 0, none⟩ = some vw) :
    Calls Try.prog 114 #[vx, .pointer (some ⟨b, 0, none⟩)] w fun e w' => e = .returned (.bool (decide (xs = ws))) ∧ Quiet w w' := by
  have H := Lib.hid (slices_Equal vx vw xs ws w ok1 ok2 hx hw)
  obtain ⟨A1, c1, rfl, _⟩ := hx.open
  obtain ⟨A2, c2, rfl, _⟩ := hw.open
  obtain ⟨y, hy⟩ : ∃ y, decide (xs = ws) = y := ⟨_, rfl⟩
  have Hy := Lib.hid hy
  rw [hy]
  clear hy hx hw
  go_enter Try.func114, Try.ntmps114
  go_wp2_with fail
  refine H.out.mono ?_
  rintro e w1 ⟨he, ⟨n, rfl⟩⟩
  rw [Hy.out] at he
  subst he
  go_wp2_with fail
  go_ret
  exact ⟨rfl, n, rfl⟩
theorem call_split_1 (a : Array Value) (w : World) : (callFunc 114 a).run Try.prog w = .ok (.enter 114 a) w := by kernel_rfl

def idxL (ws : List Int) : List (List Int) → Nat → Int
  | [], _ => -1
  | x :: xs, i => if x = ws then i else idxL ws xs (i + 1)
theorem idxL_drop (ws : List Int) (xs : List (List Int)) (n : Nat) (hn : n < xs.length) : idxL ws (xs.drop n) n = if gL xs n = ws then (n : Int) else idxL ws (xs.drop (n + 1)) (n + 1) := by
  rw [List.drop_eq_getElem_cons hn, idxL, gL_get xs n hn]
theorem idxL_any (ws : List Int) (xs : List (List Int)) : ∀ i, decide (idxL ws xs i ≥ 0) = decide (ws ∈ xs) := by
  induction xs with
  | nil => intro i; rfl
  | cons x xs ih =>
    intro i
    unfold idxL
    by_cases h : x = ws
    · rw [if_pos h]; simp [h]
    · rw [if_neg h, ih]; simp [Ne.symm h]

set_option maxRecDepth 20000 in
theorem IndexFunc_list (v vw : Value) (b : Nat) (xs : List (List Int)) (ws : List Int) (w : World) (ok ok2 : Nat → Prop) (hs : SL w ok v xs) (hw : SI w ok2 vw ws) (hc : w.cell? ⟨b, 0, none⟩ = some vw) :
    Calls Try.prog 173 #[v, .func (.func 114) #[] #[.pointer (some ⟨b, 0, none⟩)]] w fun e w' => e = .returned (.int .i64 (idxL ws xs 0)) ∧ Quiet w w' := by
  obtain ⟨A, c, rfl, hlc, hmx⟩ := hs.open
  have hcf := call_split_1
  have Hw := Lib.hid hw
  have Hs := Lib.hid hs
  have Hc := Lib.hid hc
  have hF : Hid (idxL ws xs 0 = idxL ws (xs.drop 0) 0) := by show _ = _; rfl
  clear hs hw hc
  go_enter Try.func173, Try.ntmps173
  go_wp2_with fail
  go_loopw [8] (fun i wr => ∃ n m : Nat, n ≤ xs.length ∧ i = .int .i64 n ∧ Hid (wr = w.drewN m) ∧ Hid (idxL ws xs 0 = idxL ws (xs.drop n) n)) (fun i _ => xs.length - (intOf i).toNat)
  case atStart => exact ⟨0, 0, Nat.zero_le _, rfl, rfl, hF⟩
  case round =>
    clear hF
    obtain ⟨n, m, hn, rfl, hwr, hF⟩ := hrel
    have hwr' := hwr.out
    subst hwr'
    clear hwr
    by_cases hlt : n < xs.length
    · obtain ⟨ad, A', c', rfl, _, hcc, hsi⟩ := (Hs.out.below (below_drewN (Below.refl _ _) m)).cell n hlt
      have hb := idxL_drop ws xs n hlt
      obtain ⟨x, hx⟩ : ∃ x, gL xs n = x := ⟨_, rfl⟩
      rw [hx] at hcc hb hsi
      have Hb := Lib.hid hb
      have Hsi := Lib.hid hsi
      clear hx hb hsi
      go_wp2_with fail
      refine (split_1 _ b _ vw x ws _ _ Hsi.out (Hw.out.drewN m) Hc.out).mono ?_
      rintro e w1 ⟨he, ⟨m2, rfl⟩⟩
      by_cases hxw : x = ws
      · have e1 : decide (x = ws) = true := decide_eq_true hxw
        rw [e1] at he
        have e2 : Hid (idxL ws xs 0 = n) := by show _ = _; rw [hF.out, Hb.out, if_pos hxw]
        subst he
        clear hxw e1 hcc
        go_wp2_with fail
        go_ret
        exact ⟨by rw [e2.out]; rfl, m + m2, rfl⟩
      · have e1 : decide (x = ws) = false := decide_eq_false hxw
        rw [e1] at he
        have e2 : Hid (idxL ws xs 0 = idxL ws (xs.drop (n + 1)) (n + 1)) := by show _ = _; rw [hF.out, Hb.out, if_neg hxw]
        subst he
        clear hxw e1 hcc
        go_wp2_with fail
        go_roundw
        case rel => exact ⟨n + 1, m + m2, by omega, by go_num, by rfl, e2⟩
        case measure => simp [intOf]; omega
    · have e : Hid (idxL ws xs 0 = -1) := by show _ = _; rw [hF.out, List.drop_eq_nil_of_le (by omega)]; rfl
      go_wp2_with fail
      go_ret
      exact ⟨by rw [e.out]; rfl, m, rfl⟩

theorem ContainsFunc_list (v vw : Value) (b : Nat) (xs : List (List Int)) (ws : List Int) (w : World) (ok ok2 : Nat → Prop) (hs : SL w ok v xs) (hw : SI w ok2 vw ws) (hc : w.cell? ⟨b, 0, none⟩ = some vw) :
    Calls Try.prog 113 #[v, .func (.func 114) #[] #[.pointer (some ⟨b, 0, none⟩)]] w fun e w' => e = .returned (.bool (decide (ws ∈ xs))) ∧ Quiet w w' := by
  have H := Lib.hid (IndexFunc_list v vw b xs ws w ok ok2 hs hw hc)
  have Ha := Lib.hid (idxL_any ws xs 0)
  obtain ⟨A, c, rfl, hlc, hmx⟩ := hs.open
  obtain ⟨y, hy⟩ : ∃ y, decide (ws ∈ xs) = y := ⟨_, rfl⟩
  have Hy := Lib.hid hy
  rw [hy]
  clear hs hw hc hy
  go_enter Try.func113, Try.ntmps113
  go_wp2_with fail
  refine H.out.mono ?_
  rintro e w1 ⟨rfl, n, rfl⟩
  go_wp2_with fail
  go_ret
  exact ⟨ret_bool (by rw [← Hy.out, ← Ha.out]), n, rfl⟩

theorem TreeG.sl {w : World} {F : Nat → Prop} {T : Nat} {p : PT} {vall vacc vplace vword : Value} {vaccs : List Value} {gall : List GB} (h : TreeG w F T p vall vacc vplace vword vaccs gall) : SL w Any vacc p.access := by
  have h1 := (own_reads h.acc)
  rw [h.accl] at h1
  refine ⟨vaccs, h1.keep (fun _ _ _ => rfl) (fun _ _ _ => trivial), h.accl, fun i hi hi' => ?_⟩
  have := (h.accs i hi).any
  rw [gL_get _ _ hi'] at this
  exact this
end Go.Proofs.Ytoafjmfnnbpnoaa
