/-
  What teach.member, teach.Check compute where words are asked and numbers are said; slices.IndexFunc, slices.ContainsFunc over ints with a function that only reads.
-/
import Derived.Test.YtoafjmfnnbpnoaaM5
set_option linter.unusedVariables false
set_option linter.unusedSimpArgs false
namespace Go.Proofs.Ytoafjmfnnbpnoaa
open Go Go.RowKit

def idxF (p : Int → Bool) : List Int → Nat → Int
  | [], _ => -1
  | x :: xs, i => if p x then i else idxF p xs (i + 1)
theorem idxF_drop (p : Int → Bool) (xs : List Int) (n : Nat) (hn : n < xs.length) : idxF p (xs.drop n) n = if p (gI xs n) then (n : Int) else idxF p (xs.drop (n + 1)) (n + 1) := by
  rw [List.drop_eq_getElem_cons hn, idxF, gI_get xs n hn]
theorem idxF_any (p : Int → Bool) (xs : List Int) : ∀ i, decide (idxF p xs i ≥ 0) = xs.any p := by
  induction xs with
  | nil => intro i; rfl
  | cons x xs ih =>
    intro i
    unfold idxF
    by_cases h : p x
    · rw [if_pos h]; simp [h]
    · rw [if_neg h, ih]; simp [h]

set_option maxRecDepth 20000 in
theorem IndexFunc_int (F : FuncId) (cap : Value) (p : Int → Bool) (v : Value) (xs : List Int) (w : World) (ok : Nat → Prop) (hs : SI w ok v xs)
    (hcf : ∀ (x : Int) (w : World), (callFunc F #[.int .i64 x, cap]).run Try.prog w = .ok (.enter F #[.int .i64 x, cap]) w)
    (hf : ∀ x, Calls Try.prog F #[.int .i64 x, cap] w (fun e w' => e = .returned (.bool (p x)) ∧ w = w')) :
    Calls Try.prog 219 #[v, .func (.func F) #[] #[cap]] w fun e w' => e = .returned (.int .i64 (idxF p xs 0)) ∧ w = w' := by
  obtain ⟨A, c, rfl, hlc, hmx⟩ := hs.open
  have Hf := Lib.hid hf
  clear hf
  have hF : Hid (idxF p xs 0 = idxF p (xs.drop 0) 0) := by show _ = _; rfl
  go_enter Try.func219, Try.ntmps219
  go_wp2_with fail
  go_loop [8] (fun i => ∃ n : Nat, n ≤ xs.length ∧ i = .int .i64 n ∧ Hid (idxF p xs 0 = idxF p (xs.drop n) n)) (fun i => xs.length - (intOf i).toNat)
  case atStart => exact ⟨0, Nat.zero_le _, rfl, hF⟩
  case round =>
    clear hF
    obtain ⟨n, hn, rfl, hF⟩ := hrel
    by_cases hlt : n < xs.length
    · obtain ⟨ad, rfl, _, hc⟩ := hs.cell n hlt
      have hb := idxF_drop p xs n hlt
      obtain ⟨x, hx⟩ : ∃ x, gI xs n = x := ⟨_, rfl⟩
      rw [hx] at hc hb
      obtain ⟨y, hy⟩ : ∃ y, p x = y := ⟨_, rfl⟩
      rw [hy] at hb
      have Hb := Lib.hid hb; have Hy := Lib.hid hy
      clear hx hb hy
      go_wp2_with fail
      refine (Hf.out x).mono ?_
      rintro e w1 ⟨he, rfl⟩
      rw [Hy.out] at he
      subst he
      cases y with
      | true =>
        go_wp2_with fail
        go_ret
        have e : idxF p xs 0 = n := by rw [hF.out, Hb.out]; rfl
        exact ⟨by rw [e]; rfl, rfl⟩
      | false =>
        go_wp2_with fail
        go_round
        case rel => exact ⟨n + 1, by omega, by go_num, by show _ = _; rw [hF.out, Hb.out]; rfl⟩
        case measure => simp [intOf]; omega
    · go_wp2_with fail
      go_ret
      have e : idxF p xs 0 = -1 := by rw [hF.out, List.drop_eq_nil_of_le (by omega)]; rfl
      exact ⟨by rw [e]; rfl, rfl⟩

theorem ContainsFunc_int (F : FuncId) (cap : Value) (p : Int → Bool) (v : Value) (xs : List Int) (w : World) (ok : Nat → Prop) (hs : SI w ok v xs)
    (hcf : ∀ (x : Int) (w : World), (callFunc F #[.int .i64 x, cap]).run Try.prog w = .ok (.enter F #[.int .i64 x, cap]) w)
    (hf : ∀ x, Calls Try.prog F #[.int .i64 x, cap] w (fun e w' => e = .returned (.bool (p x)) ∧ w = w')) :
    Calls Try.prog 199 #[v, .func (.func F) #[] #[cap]] w fun e w' => e = .returned (.bool (xs.any p)) ∧ w = w' := by
  have H := Lib.hid (IndexFunc_int F cap p v xs w ok hs hcf hf)
  have Ha := Lib.hid (idxF_any p xs 0)
  clear hf hcf
  obtain ⟨A, c, rfl, hlc, hmx⟩ := hs.open
  go_enter Try.func199, Try.ntmps199
  go_wp2_with fail
  refine H.out.mono ?_
  rintro e w1 ⟨rfl, rfl⟩
  go_wp2_with fail
  go_ret
  exact ⟨ret_bool (by rw [← Ha.out]), rfl⟩

theorem member_1 (x most : Int) (b : Nat) (w : World) (hc : w.cell? ⟨b, 0, none⟩ = some (.int .i64 most)) :
    Calls Try.prog 200 #[.int .i64 x, .pointer (some ⟨b, 0, none⟩)] w fun e w' => e = .returned (.bool (decide (x < 0 ∨ x ≥ most))) ∧ w = w' := by
  obtain ⟨y, hy⟩ : ∃ y, decide (x < 0 ∨ x ≥ most) = y := ⟨_, rfl⟩
  have Hy := Lib.hid hy
  rw [hy]
  clear hy
  by_cases h1 : x < 0
  · have e : y = true := by rw [← Hy.out]; exact decide_eq_true (Or.inl h1)
    subst e
    go_enter Try.func200, Try.ntmps200
    go_wp2_with fail
    go_ret
    exact ⟨rfl, rfl⟩
  · by_cases h2 : x ≥ most
    · have e : y = true := by rw [← Hy.out]; exact decide_eq_true (Or.inr h2)
      subst e
      go_enter Try.func200, Try.ntmps200
      go_wp2_with fail
      go_ret
      exact ⟨rfl, rfl⟩
    · have e : y = false := by rw [← Hy.out]; exact decide_eq_false (by omega)
      subst e
      go_enter Try.func200, Try.ntmps200
      go_wp2_with fail
      go_ret
      exact ⟨ret_bool (by first | rfl | (simp; omega)), rfl⟩

/-- May so much be said of a word with n symbols? -/
def saidF (kind o : Int) (n : Nat) (out : List Int) : Bool :=
  if kind = 1 then out.length == 1 && !out.any (fun x => decide (x < 0 ∨ x ≥ 2))
  else if kind = 2 then out.length == n && !out.any (fun x => decide (x < 0 ∨ x ≥ o)) else false
theorem callFunc_member (a : Array Value) (w : World) : (callFunc 200 a).run Try.prog w = .ok (.enter 200 a) w := by kernel_rfl
end Go.Proofs.Ytoafjmfnnbpnoaa
