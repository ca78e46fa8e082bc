/-
  What teach.Check computes where words are asked and numbers are said.
-/
import Derived.Test.YtoafjmfnnbpnoaaT2
set_option linter.unusedVariables false
set_option linter.unusedSimpArgs false
namespace Go.Proofs.Ytoafjmfnnbpnoaa
open Go Go.RowKit

theorem ta_said (A : Option Addr) (n c : Nat) (w : World) : (Instr.typeAssert (.iface 238 (.agg #[.slice A n c])) 235 238 true).run Try.prog w = .ok (.tuple #[.agg #[.slice A n c], .bool true]) w := by kernel_rfl
theorem teach_of (Ao Aw : Option Addr) (no co nw cw : Nat) (w : World) :
    Calls Try.prog 171 #[.agg #[.int .i64 1, .slice Ao no co, .slice Aw nw cw]] w fun e w' => e = .returned (.iface 238 (.agg #[.slice Ao no co])) ∧ Below w.heap.size w w' := by
  go_enter Try.func171, Try.ntmps171
  go_wp2_with fail
  go_ret
  exact ⟨rfl, below_alloc ..⟩
def TeachP (w : World) (b : Bool) (e : Ending) (w' : World) : Prop := e = .returned (.int .i64 (if b then 0 else 100)) ∧ Below w.heap.size w w'

set_option maxRecDepth 20000 in
theorem teach_Check (Aw A1 A2 : Option Addr) (cw n1 n2 c1 c2 nw : Nat) (kind k o n : Int) (vo : Value) (out : List Int) (w : World) (ok : Nat → Prop) (hs : SI w ok vo out) :
    Calls Try.prog 102 #[.agg #[.int .i64 1, .slice Aw nw cw, .int .i64 kind, .int .i64 k, .int .i64 o, .int .i64 n, .slice A1 n1 c1, .slice A2 n2 c2], .agg #[.int .i64 1, vo, .slice none 0 0]] w (TeachP w (saidF kind o nw out)) := by
  obtain ⟨A, c, rfl, hlc, hmx⟩ := hs.open
  have Hs := Lib.hid hs
  clear hs
  obtain ⟨r, hr⟩ : ∃ r, saidF kind o nw out = r := ⟨_, rfl⟩
  rw [hr]
  have Hr := Lib.hid hr
  clear hr
  have hta := ta_said
  go_enter Try.func102, Try.ntmps102
  go_wp2_with fail
  refine (teach_of _ _ _ _ _ _ _).mono ?_
  rintro e w1 ⟨rfl, hb1⟩
  have hq := block_below (block_alloc_old (block_alloc_new w _) _) hb1
  have ha := block_below (block_alloc_new (w.alloc _) _) hb1
  have e1 : (w.alloc (.cells #[.int .i64 1, .slice Aw nw cw, .int .i64 kind, .int .i64 k, .int .i64 o, .int .i64 n, .slice A1 n1 c1, .slice A2 n2 c2] 147)).heap.size = w.heap.size + 1 := by simp
  rw [e1] at ha
  have z0 := cell_of_block hq 0 rfl
  have z1 := cell_of_block hq 1 rfl
  have z2 := cell_of_block hq 2 rfl
  have z3 := cell_of_block hq 3 rfl
  have z4 := cell_of_block hq 4 rfl
  have z5 := cell_of_block hq 5 rfl
  have z6 := cell_of_block hq 6 rfl
  have z7 := cell_of_block hq 7 rfl
  have y0 := cell_of_block ha 0 rfl
  have y1 := cell_of_block ha 1 rfl
  have y2 := cell_of_block ha 2 rfl
  have Hb1 := Lib.hid (below_then (below_then (below_alloc ..) (below_alloc ..)) hb1)
  have x0 := fun o => cell_alloc z0 o
  have x1 := fun o => cell_alloc z1 o
  have x2 := fun o => cell_alloc z2 o
  have x3 := fun o => cell_alloc z3 o
  have x4 := fun o => cell_alloc z4 o
  have x5 := fun o => cell_alloc z5 o
  have x6 := fun o => cell_alloc z6 o
  have x7 := fun o => cell_alloc z7 o
  have u0 := fun o => cell_alloc y0 o
  have u1 := fun o => cell_alloc y1 o
  have u2 := fun o => cell_alloc y2 o
  have hz : w.heap.size + 1 < w1.heap.size := by have := hb1.size; simp at this; omega
  clear hq ha e1 hb1
  have Hs1 := Lib.hid (Hs.out.below Hb1.out)
  go_wp2_with fail
  refine (member_any _ _ _ _ _ _ _ _ _ _ _ _ _ _ _ out _ ok (Hs1.out.below (below_alloc ..))).mono ?_
  rintro e w2 ⟨he, hb2⟩
  rw [Hr.out] at he
  subst he
  have Hb2 := Lib.hid (below_then (below_then Hb1.out (below_alloc ..)) hb2)
  clear hb2
  cases r
  · go_wp2_with fail
    go_ret
    exact ⟨rfl, Hb2.out⟩
  · go_wp2_with fail
    go_ret
    exact ⟨rfl, Hb2.out⟩
end Go.Proofs.Ytoafjmfnnbpnoaa
