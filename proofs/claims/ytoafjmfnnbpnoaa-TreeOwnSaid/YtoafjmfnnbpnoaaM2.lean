/-
  What the reference's M.Check, M.Right, M.Go, M.Go2, M.Run compute of a machine that is handed in.
-/
import Derived.Test.YtoafjmfnnbpnoaaM1
import Derived.StillTailTactics
set_option linter.unusedVariables false
set_option linter.unusedSimpArgs false
namespace Go.Proofs.Ytoafjmfnnbpnoaa
open Go Go.RowKit

theorem M_Check (v : Value) (m : Mach) (w : World) (ok : Nat → Prop) (h : MachV w ok v m) :
    Calls Try.prog 119 #[v] w fun e w' => e = .returned (pairV (mcheckF m)) ∧ Below w.heap.size w w' := by
  obtain ⟨A1, c1, A2, c2, rfl, hs1, hs2, _, _, hm1, hm2⟩ := h.open
  obtain ⟨kind, k, o, n, next, out⟩ := m
  simp only at *
  by_cases hh : (kind = 1 ∨ kind = 2) ∧ 1 ≤ k ∧ k ≤ 64 ∧ (kind = 1 → o = 2) ∧ 1 ≤ o ∧ o ≤ 64 ∧ 1 ≤ n ∧ n ≤ 1024
  · obtain ⟨a, b, c, d, e, f, g, i⟩ := hh
    have h1 : 0 ≤ n * k := Int.mul_nonneg (by omega) (by omega)
    have h2 : n * k ≤ 1024 * 64 := Int.mul_le_mul i c (by omega) (by omega)
    exact M_Check_tail A1 A2 c1 c2 kind k o n 0 next out w ok hm1 hm2 hs1 hs2 a b c d e f g i h1 (by omega)
  · exact M_Check_head A1 A2 c1 c2 kind k o n next out w hm1 hm2 hh

def rightF (m : Mach) : Bool := (mcheckF m).2 == 0
set_option maxRecDepth 20000 in
theorem M_Right (v : Value) (m : Mach) (w : World) (ok : Nat → Prop) (h : MachV w ok v m) :
    Calls Try.prog 36 #[v] w fun e w' => e = .returned (.bool (rightF m)) ∧ Below w.heap.size w w' := by
  have H := fun w' ok h => Lib.hid (M_Check v m w' ok h)
  obtain ⟨A1, c1, A2, c2, rfl, hs1, hs2, _, _, hm1, hm2⟩ := h.open
  obtain ⟨kind, k, o, n, next, out⟩ := m
  simp only at *
  have hb := below_alloc w (.cells #[.int .i64 kind, .int .i64 k, .int .i64 o, .int .i64 n, .slice A1 next.length c1, .slice A2 out.length c2] 31)
  have Hh := Lib.hid (h.below hb)
  have Hb := Lib.hid hb
  clear h hb
  obtain ⟨p, hp⟩ : ∃ p, mcheckF ⟨kind, k, o, n, next, out⟩ = p := ⟨_, rfl⟩
  have Hr : Hid (rightF ⟨kind, k, o, n, next, out⟩ = (p.2 == 0)) := by show _ = _; unfold rightF; rw [hp]
  have Hp := Lib.hid hp
  clear hp
  go_enter Try.func36, Try.ntmps36
  go_wp2_with (go_at_call 119; refine (H _ _ Hh.out).out.mono ?_; rintro e w1 ⟨he, hb1⟩; rw [Hp.out] at he; subst he; unfold pairV; have Hb1 := Lib.hid hb1; clear hb1)
  go_ret
  exact ⟨ret_bool (by rw [Hr.out]), below_then Hb.out Hb1.out⟩
end Go.Proofs.Ytoafjmfnnbpnoaa
