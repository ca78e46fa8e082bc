/-
  What teach.member, teach.Check compute where words are asked and numbers are said.
-/
import Derived.Test.YtoafjmfnnbpnoaaT1
set_option linter.unusedVariables false
set_option linter.unusedSimpArgs false
namespace Go.Proofs.Ytoafjmfnnbpnoaa
open Go Go.RowKit

def MemP (w : World) (b : Bool) (e : Ending) (w' : World) : Prop := e = .returned (.bool b) ∧ Below w.heap.size w w'

theorem contains_in (w : World) (O : Obj) (most : Int) (v : Value) (out : List Int) (ok : Nat → Prop) (hs : SI w ok v out) :
    Calls Try.prog 199 #[v, .func (.func 200) #[] #[.pointer (some ⟨w.heap.size + 1, 0, none⟩)]] ((w.alloc O).alloc (.cells #[.int .i64 most] 3)).drew
      fun e w' => e = .returned (.bool (out.any fun x => decide (x < 0 ∨ x ≥ most))) ∧ ((w.alloc O).alloc (.cells #[.int .i64 most] 3)).drew = w' := by
  have hb : Below w.heap.size w ((w.alloc O).alloc (.cells #[.int .i64 most] 3)).drew := (below_then (below_alloc ..) (below_alloc ..)).drew
  have hc : ((w.alloc O).alloc (.cells #[.int .i64 most] 3)).drew.cell? ⟨w.heap.size + 1, 0, none⟩ = some (.int .i64 most) := by
    have e : w.heap.size + 1 = (w.alloc O).heap.size := by simp
    rw [e]
    show World.cell? ((w.alloc O).alloc _) _ = _
    simp only [World.cell?, heap_alloc_new]; rfl
  exact ContainsFunc_int _ _ (fun x => decide (x < 0 ∨ x ≥ most)) v out _ ok (hs.below hb) (fun x w => callFunc_member _ w) (fun x => member_1 x most _ _ hc)

set_option maxRecDepth 20000 in
theorem member_any (Aw A1 A2 : Option Addr) (cw n1 n2 c1 c2 nw : Nat) (qk kind k o n : Int) (vo : Value) (out : List Int) (w : World) (ok : Nat → Prop) (hs : SI w ok vo out) :
    Calls Try.prog 172 #[.agg #[.int .i64 qk, .slice Aw nw cw, .int .i64 kind, .int .i64 k, .int .i64 o, .int .i64 n, .slice A1 n1 c1, .slice A2 n2 c2], vo] w (MemP w (saidF kind o nw out)) := by
  obtain ⟨A, c, rfl, hlc, hmx⟩ := hs.open
  have Hs := Lib.hid hs
  clear hs
  obtain ⟨r, hr⟩ : ∃ r, saidF kind o nw out = r := ⟨_, rfl⟩
  rw [hr]
  have Hr := Lib.hid hr
  clear hr
  by_cases h1 : kind = 1
  · subst h1
    by_cases hl : out.length = 1
    · obtain ⟨q, hq⟩ : ∃ q, out.any (fun x => decide (x < 0 ∨ x ≥ 2)) = q := ⟨_, rfl⟩
      have e : r = !q := by rw [← Hr.out]; unfold saidF; rw [if_pos rfl, hl, hq]; simp
      subst e
      have Hq := Lib.hid hq
      have hb : ((out.length : Int) == 1) = true := by rw [hl]; rfl
      clear hq Hr hl
      go_enter Try.func172, Try.ntmps172
      go_wp2_with fail
      go_region
      go_wp2_with fail
      refine (contains_in w _ 2 _ out ok Hs.out).mono ?_
      rintro e w1 ⟨he, rfl⟩
      rw [Hq.out] at he
      subst he
      go_wp2_with fail
      go_ret
      exact ⟨rfl, ((below_then (below_alloc ..) (below_alloc ..))).drew⟩
    · have e : r = false := by rw [← Hr.out]; unfold saidF; rw [if_pos rfl]; simp [hl]
      subst e
      have hb : ((out.length : Int) == 1) = false := by rw [beq_eq_false_iff_ne]; omega
      clear Hr hl
      go_enter Try.func172, Try.ntmps172
      go_wp2_with fail
      go_region
      go_wp2_with fail
      go_ret
      exact ⟨rfl, ((below_then (below_alloc ..) (below_alloc ..))).drew⟩
  · by_cases h2 : kind = 2
    · subst h2
      clear h1
      by_cases hl : out.length = nw
      · obtain ⟨q, hq⟩ : ∃ q, out.any (fun x => decide (x < 0 ∨ x ≥ o)) = q := ⟨_, rfl⟩
        have e : r = !q := by rw [← Hr.out]; unfold saidF; rw [if_neg (by decide), if_pos rfl, hl, hq]; simp
        subst e
        have Hq := Lib.hid hq
        have hb : ((out.length : Int) == (nw : Int)) = true := by rw [hl]; simp
        clear hq Hr hl
        go_enter Try.func172, Try.ntmps172
        go_wp2_with fail
        go_region
        go_wp2_with fail
        refine (contains_in w _ o _ out ok Hs.out).mono ?_
        rintro e w1 ⟨he, rfl⟩
        rw [Hq.out] at he
        subst he
        go_wp2_with fail
        go_ret
        exact ⟨rfl, ((below_then (below_alloc ..) (below_alloc ..))).drew⟩
      · have e : r = false := by rw [← Hr.out]; unfold saidF; rw [if_neg (by decide), if_pos rfl]; simp [hl]
        subst e
        have hb : ((out.length : Int) == (nw : Int)) = false := by rw [beq_eq_false_iff_ne]; omega
        clear Hr hl
        go_enter Try.func172, Try.ntmps172
        go_wp2_with fail
        go_region
        go_wp2_with fail
        go_ret
        exact ⟨rfl, ((below_then (below_alloc ..) (below_alloc ..))).drew⟩
    · have e : r = false := by rw [← Hr.out]; unfold saidF; rw [if_neg h1, if_neg h2]
      subst e
      have hb1 : (kind == 1) = false := by simpa using h1
      have hb2 : (kind == 2) = false := by simpa using h2
      clear Hr h1 h2
      go_enter Try.func172, Try.ntmps172
      go_wp2_with fail
      go_region
      go_wp2_with fail
      go_ret
      exact ⟨rfl, ((below_then (below_alloc ..) (below_alloc ..))).drew⟩
end Go.Proofs.Ytoafjmfnnbpnoaa
