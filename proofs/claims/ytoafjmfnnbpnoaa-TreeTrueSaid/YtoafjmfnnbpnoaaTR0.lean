/-
  What tree.spell computes.
-/
import Derived.Test.YtoafjmfnnbpnoaaT3
import Derived.OwnWalk
import Derived.Laws.BytesArg
set_option linter.unusedVariables false
set_option linter.unusedSimpArgs false
namespace Go.Proofs.Ytoafjmfnnbpnoaa
open Go Go.RowKit

theorem info_u8 : (Try.prog.info? 5).map (fun i => (i.zero, i.size, i.bytes)) = some (some (.int .u8 0), 1, 1) := by kernel_rfl
/-- An answer as a text. -/
def keyOf (xs : List Int) : ByteArray := strOfNums (xs.map (· % 256))
def u8s (xs : List Int) : List Value := xs.map (Value.int .u8)
/-- After j rounds. -/
def spellTo (xs : List Int) (j : Nat) : List Int := (xs.take j).map (· % 256) ++ List.replicate (xs.length - j) 0
theorem spellTo_length (xs : List Int) (j : Nat) (hj : j ≤ xs.length) : (spellTo xs j).length = xs.length := by simp [spellTo]; omega
theorem spellTo_set (xs : List Int) (j : Nat) (hj : j < xs.length) : (spellTo xs j).set j (gI xs j % 256) = spellTo xs (j + 1) := by
  unfold spellTo
  have h1 : ((xs.take j).map (· % 256)).length = j := by simp; omega
  rw [List.set_append_right _ _ (by omega), h1, Nat.sub_self]
  have h2 : xs.length - j = (xs.length - (j + 1)) + 1 := by omega
  rw [h2, List.replicate_succ, List.set_cons_zero, take_snoc xs j hj, List.map_append]
  simp
theorem spellTo_end (xs : List Int) : spellTo xs xs.length = xs.map (· % 256) := by simp [spellTo]

set_option maxRecDepth 20000 in
theorem tree_spell (v : Value) (xs : List Int) (w : World) (ok : Nat → Prop) (hs : SI w ok v xs) (hb : xs.length ≤ 100000) :
    Calls Try.prog 104 #[v] w fun e w' => e = .returned (.string (keyOf xs)) ∧ Below w.heap.size w w' := by
  obtain ⟨A, c, rfl, hlc, hmx⟩ := hs.open
  have Hs := Lib.hid hs
  obtain ⟨i8, hi, hz0, hz1, hz2⟩ := info_parts info_u8
  clear hs
  go_enter Try.func104, Try.ntmps104
  go_wp2_with (at_make; refine wpList_make_full w rfl (.tmp 7) (.tmp 7) 244 rfl w.heap.size 5 i8 (.int .u8 0) 1 Try.underlying244 hi hz0 hz1 .i64 .i64 _ _ xs.length rfl rfl rfl rfl (by rw [hz2]; omega) (by unfold maxLen; omega) (Nat.le_refl _) ?_; intro w1 hown hg; have Hown := Lib.hid hown; have Hg := Lib.hid hg; clear hown hg)
  have H0 : Hid (w1.ownsRow w.heap.size 5 1 (.slice (some ⟨w.heap.size, 0, none⟩) xs.length xs.length) xs.length (u8s (spellTo xs 0))) := by
    have := Hown.out
    have e : (madeCells (Value.int .u8 0).cells (xs.length * 1)).toList = u8s (spellTo xs 0) := by
      simp [u8s, spellTo, Value.cells, toList_madeCells_one]
    rw [e] at this
    exact this
  have Hb0 : Hid (Below w.heap.size w w1) := (Below.refl _ _).grown Hg.out (Nat.le_refl _) (fun k hk => by cases hk)
  clear Hown Hg
  go_loopw [11] (fun i wr => ∃ j : Nat, j ≤ xs.length ∧ i = .int .i64 j ∧ Hid (wr.ownsRow w.heap.size 5 1 (.slice (some ⟨w.heap.size, 0, none⟩) xs.length xs.length) xs.length (u8s (spellTo xs j))) ∧ Hid (Below w.heap.size w wr)) (fun i _ => xs.length - (intOf i).toNat)
  case atStart => exact ⟨0, Nat.zero_le _, rfl, H0.out, Hb0.out⟩
  case round =>
    clear H0 Hb0
    obtain ⟨j, hj, rfl, hO, hB⟩ := hrel
    by_cases hlt : j < xs.length
    · obtain ⟨ad, rfl, _, hc⟩ := (Hs.out.below hB.out).cell j hlt
      have hset := spellTo_set xs j hlt
      obtain ⟨x, hx⟩ : ∃ x, gI xs j = x := ⟨_, rfl⟩
      rw [hx] at hc hset
      have Hset := Lib.hid hset
      clear hx hset
      have hl := spellTo_length xs j hj
      have k1 := hO.out.cellAt j (by omega)
      have k2 := hO.out.frozenAt j
      obtain ⟨y, k3⟩ : ∃ y, wr.cell? ⟨w.heap.size, j, none⟩ = some (.int .u8 y) := ⟨(spellTo xs j)[j]'(by omega), by rw [k1]; simp [u8s, hl, hlt]⟩
      have Hst := Lib.hid (hO.out.stored j (.int .u8 (x % 256)))
      clear k1 hl
      go_wp2
      go_roundw
      case rel =>
        refine ⟨j + 1, by omega, by go_num, ?_, hB.out.grown Hst.out.2 hB.out.size (fun k hk => by cases hk; exact Nat.le_refl _)⟩
        show World.ownsRow ..
        have := Hst.out.1
        rw [show (u8s (spellTo xs j)).set j (.int .u8 (x % 256)) = u8s (spellTo xs (j + 1)) by rw [← Hset.out]; simp [u8s, List.map_set]] at this
        exact this
      case measure => simp [intOf]; omega
    · have e : Hid (j = xs.length) := by show _ = _; omega
      have hcv : (convert 244 9 (.slice (some ⟨w.heap.size, 0, none⟩) xs.length xs.length)).run Try.prog wr = .ok (.string (keyOf xs)) wr := by
        have h1 := hO.out
        rw [e.out, spellTo_end] at h1
        refine run_convert_bytes_arg wr _ _ Try.underlying244 Try.underlying5 w.heap.size 0 xs.length xs.length (xs.map (· % 256)) (by simp) (fun i hi => ?_) _ Try.underlying9
        have := h1.cellAt i (by omega)
        rw [Nat.zero_add, this]
        simp [u8s, List.getD_eq_getElem?_getD, hi]
      go_wp2
      go_ret
      exact ⟨rfl, hB.out⟩
end Go.Proofs.Ytoafjmfnnbpnoaa
