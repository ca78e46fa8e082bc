/-
  The guards of the tree's statements; what stands while a call of theirs runs.
-/
import Derived.Test.YtoafjmfnnbpnoaaLA3
set_option linter.unusedVariables false
set_option linter.unusedSimpArgs false
namespace Go.Proofs.Ytoafjmfnnbpnoaa
open Go Go.RowKit

theorem MachV.at_ {w W : World} {ok : Nat → Prop} {v : Value} {m : Mach} (h : MachV w ok v m) (hb : Below w.heap.size w W) : MachV W (fun k => k < w.heap.size) v m := h.keep (fun k _ hk => hb.block k hk) (fun k _ hk => hk)
theorem SL.at_ {w W : World} {ok : Nat → Prop} {v : Value} {xs : List (List Int)} (h : SL w ok v xs) (hb : Below w.heap.size w W) : SL W (fun k => k < w.heap.size) v xs := h.keep (fun k _ hk => hb.block k hk) (fun k _ hk => hk)
theorem SI.at_ {w W : World} {ok : Nat → Prop} {v : Value} {xs : List Int} (h : SI w ok v xs) (hb : Below w.heap.size w W) : SI W (fun k => k < w.heap.size) v xs := h.keep (fun k _ hk => hb.block k hk) (fun k _ hk => hk)
theorem SL_one (W : World) (v1 : Value) (xs : List Int) (ok1 : Nat → Prop) (h1 : SI W ok1 v1 xs) (e : TypeId) :
    SL (W.alloc (.cells #[v1] e)) Any (.slice (some ⟨W.heap.size, 0, none⟩) 1 1) [xs] := by
  refine ⟨[v1], ⟨_, 1, rfl, Nat.le_refl _, by simp, rfl, (RV.new W #[v1] e [v1] rfl).any⟩, rfl, fun i h h' => ?_⟩
  simp at h
  subst h
  exact (h1.below (below_alloc ..)).any

/-- The box of a machine that a function keeps. -/
def BoxI (w : World) (m : Mach) (A1 A2 : Option Addr) (c1 c2 : Nat) (W : World) : Prop := Below w.heap.size w W ∧ W.heap[w.heap.size]? = some (machObj m A1 A2 c1 c2)
theorem BoxI.below {w W W' : World} {m : Mach} {A1 A2 : Option Addr} {c1 c2 : Nat} (h : BoxI w m A1 A2 c1 c2 W) (hb : Below W.heap.size W W') : BoxI w m A1 A2 c1 c2 W' := ⟨below_then h.1 hb, block_below h.2 hb⟩
theorem BoxI.new (w : World) (m : Mach) (A1 A2 : Option Addr) (c1 c2 : Nat) : BoxI w m A1 A2 c1 c2 (w.alloc (machObj m A1 A2 c1 c2)) := ⟨below_alloc .., heap_alloc_new ..⟩
theorem BoxI.mod {w W W' : World} {m : Mach} {A1 A2 : Option Addr} {c1 c2 : Nat} {F : Nat → Prop} (h : BoxI w m A1 A2 c1 c2 W) (hm : Mod F W W') (hF : ∀ k, F k → w.heap.size < k) : BoxI w m A1 A2 c1 c2 W' :=
  ⟨below_mod h.1 hm (fun k hk => Nat.le_of_lt (hF k hk)), by rw [hm.block _ (Array.getElem?_eq_some_iff.1 h.2).1 (fun hf => by have := hF _ hf; omega)]; exact h.2⟩
theorem TInv.same {m : Mach} {c c' : Nat} {p p' : PT} (h : TInv m c p) (hs : Same3 p p') (h' : TInv m c' p') : TInv m c p' := { h' with acl := by rw [hs.2.1]; exact h.acl, al := by rw [hs.1]; exact h.al }
/-- A word that is told by a row of a call's own: not in the tree. -/
theorem own_mod_tree {W W' : World} {F : Nat → Prop} {T : Nat} {p : PT} {B : Nat} {v : Value} {xs : List Int} (h : W.ownsRow B 3 1 v xs.length (ints xs)) (hm : Mod F W W') (hF : ∀ k, F k → k < B) : W'.ownsRow B 3 1 v xs.length (ints xs) :=
  own_mod h hm (fun k hk hf => by have := own_ge h hk; have := hF k hf; omega)
end Go.Proofs.Ytoafjmfnnbpnoaa
