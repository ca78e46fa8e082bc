/-
  Words for TreeOwn's walk: rows that come one by one; trees that others' writes leave alone. Plain theorems.
-/
import Derived.Test.YtoafjmfnnbpnoaaLA7
import Derived.Test.YtoafjmfnnbpnoaaAP2
set_option linter.unusedVariables false
set_option linter.unusedSimpArgs false
namespace Go.Proofs.Ytoafjmfnnbpnoaa
open Go Go.RowKit

theorem SL.nil (w : World) (ok : Nat → Prop) : SL w ok (.slice none 0 0) [] := ⟨[], ⟨none, 0, rfl, by simp, by simp, rfl, fun i h => by simp at h⟩, rfl, fun i h => by simp at h⟩
theorem TreeAt.mod {w w' : World} {F G : Nat → Prop} {T : Nat} {p : PT} (h : TreeAt w F T p) (hm : Mod G w w') (hd : ∀ k, F k → ¬ G k) : TreeAt w' F T p := h.keep (fun k hf hk => hm.block k hk (hd k hf)) hm.size
theorem ARows.nil (W : World) (B : Nat) : ARows W B [] [] := ⟨rfl, fun i h => by simp at h, fun i j h => by simp at h⟩
theorem ARows.lt {W : World} {B : Nat} {vs : List Value} {yss : List (List Int)} (h : ARows W B vs yss) {k : Nat} (hk : RowBlk vs k) : B ≤ k ∧ k < W.heap.size := by
  obtain ⟨u, hu, hk⟩ := hk
  obtain ⟨i, hi, rfl⟩ := List.mem_iff_getElem.1 hu
  exact ⟨own_ge (h.own i hi) hk, own_lt (h.own i hi) hk⟩
/-- One more row, in newer memory. -/
theorem ARows.push {W : World} {B S : Nat} {vs : List Value} {yss : List (List Int)} (h : ARows W B vs yss) (hS : ∀ k, RowBlk vs k → k < S) (hB : B ≤ S) {v : Value} {u : List Int} (ho : W.ownsRow S 3 1 v u.length (ints u)) : ARows W B (vs ++ [v]) (yss ++ [u]) where
  len := by simp [h.len]
  own := fun i hi => by
    simp at hi
    by_cases e : i < vs.length
    · have h1 : (vs ++ [v])[i]'(by simp; omega) = vs[i] := List.getElem_append_left e
      have h2 : gL (yss ++ [u]) i = gL yss i := by simp [gL, List.getD_eq_getElem?_getD, List.getElem?_append_left (show i < yss.length by rw [← h.len]; exact e)]
      rw [h1, h2]; exact h.own i e
    · obtain rfl : i = vs.length := by omega
      have h1 : (vs ++ [v])[vs.length]'(by simp) = v := by simp
      have h2 : gL (yss ++ [u]) vs.length = u := by rw [h.len]; simp [gL, List.getD_eq_getElem?_getD]
      rw [h1, h2]; exact own_mono ho hB
  apart := fun i j hi hj hne k hk hk' => by
    simp at hi hj
    have hv : ∀ x (hx : x < vs.length), (vs ++ [v])[x]'(by simp; omega) = vs[x] := fun x hx => List.getElem_append_left hx
    have hl : ∀ x, x = vs.length → ∀ hx : x < (vs ++ [v]).length, (vs ++ [v])[x] = v := fun x e hx => by subst e; simp
    by_cases e1 : i < vs.length <;> by_cases e2 : j < vs.length
    · rw [hv i e1] at hk; rw [hv j e2] at hk'
      exact h.apart i j e1 e2 hne k hk hk'
    · rw [hv i e1] at hk
      rw [hl j (by omega)] at hk'
      have := hS k ⟨_, List.getElem_mem e1, hk⟩
      have := own_ge ho hk'
      omega
    · rw [hl i (by omega)] at hk
      rw [hv j e2] at hk'
      have := hS k ⟨_, List.getElem_mem e2, hk'⟩
      have := own_ge ho hk
      omega
    · omega
/-- An outer row was gone on with. -/
theorem ARows.outer {W W' : World} {B B' : Nat} {vs ws : List Value} {yss : List (List Int)} (h : ARows W B vs yss) {v : Value} {n : Nat} (ho : W.ownsRow B' 29 1 v n ws) (hg : W.grownBy W' v.ownBlock) : ARows W' B vs yss :=
  h.keep (fun k hk hl => hg.block k hl (fun e => by
    obtain ⟨u, hu, hk⟩ := hk
    obtain ⟨i, hi, rfl⟩ := List.mem_iff_getElem.1 hu
    exact own_type_ne ho (h.own i hi) (by decide) e.symm hk))
theorem ARows.outer_ne {W : World} {B B' : Nat} {vs ws : List Value} {yss : List (List Int)} (h : ARows W B vs yss) {v : Value} {n : Nat} (ho : W.ownsRow B' 29 1 v n ws) {k : Nat} (hk : v.ownBlock = some k) : ¬ RowBlk vs k := by
  rintro ⟨u, hu, hk2⟩
  obtain ⟨i, hi, rfl⟩ := List.mem_iff_getElem.1 hu
  exact own_type_ne ho (h.own i hi) (by decide) hk hk2
theorem below_grown_own {w W W' : World} {B : Nat} {e : TypeId} {n : Nat} {v : Value} {ws : List Value} (h : Below w.heap.size w W) (ho : W.ownsRow w.heap.size e 1 v n ws) (hg : W.grownBy W' v.ownBlock) : Below w.heap.size w W' :=
  h.grown hg h.size (fun k hk => own_ge ho hk)
theorem one_slices (vs : List Value) (h : ∀ v ∈ vs, ∃ A n c, v = .slice A n c) : ∀ u ∈ vs, u.oneCell' = true := fun u hu => by obtain ⟨A, n, c, rfl⟩ := h u hu; rfl

/-- The rows that TreeOwn has collected. -/
structure Coll (w6 wr : World) (vall : Value) (vs : List Value) (yss : List (List Int)) : Prop where
  below : Below w6.heap.size w6 wr
  own : wr.ownsRow w6.heap.size 29 1 vall vs.length vs
  rows : ARows wr w6.heap.size vs yss
  short : ∀ u ∈ yss, u.length ≤ 100000
theorem Coll.keep {w6 wr wr' : World} {vall : Value} {vs : List Value} {yss : List (List Int)} (h : Coll w6 wr vall vs yss) (hb : Below wr.heap.size wr wr') : Coll w6 wr' vall vs yss :=
  ⟨below_then h.below hb, own_below h.own hb, h.rows.below hb, h.short⟩
/-- One row more. -/
theorem Coll.push {w6 wr w1 w2 w3 : World} {vall vall' v : Value} {vs : List Value} {yss : List (List Int)} {u : List Int} (h : Coll w6 wr vall vs yss) (hb : Below wr.heap.size wr w1) (ho : w1.ownsRow wr.heap.size 3 1 v u.length (ints u)) (hb2 : Below w1.heap.size w1 w2) (hu : u.length ≤ 100000)
    (hown : w3.ownsRow w6.heap.size 29 1 vall' (vs.length + 1) (vs ++ [v])) (hg : w2.grownBy w3 vall.ownBlock) : Coll w6 w3 vall' (vs ++ [v]) (yss ++ [u]) := by
  have h2 := h.keep (below_then hb hb2)
  have hne : ∀ k, vall.ownBlock = some k → v.ownBlock ≠ some k := fun k hk => own_type_ne h2.own (own_below ho hb2) (by decide) hk
  have ho3 : w3.ownsRow wr.heap.size 3 1 v u.length (ints u) := (own_below ho hb2).kept hg (by
    by_cases e : vall.ownBlock = none
    · cases hv : v.ownBlock with
      | none => exact .inl rfl
      | some b => right; rw [e]; simp
    · obtain ⟨b, hb⟩ := Option.ne_none_iff_exists'.1 e
      right; rw [hb]; exact hne b hb)
  refine ⟨below_grown_own (B := 0) h2.below h2.own hg, by simpa using hown, (h2.rows.outer h2.own hg).push (S := wr.heap.size) (fun k hk => (h.rows.lt hk).2) h.below.size ho3, ?_⟩
  intro x hx
  rcases List.mem_append.1 hx with hx | hx
  · exact h.short x hx
  · simp at hx; subst hx; exact hu
/-- Two rows more. -/
theorem Coll.push2 {w6 wr w1 w2 w3 w4 : World} {vall vall' v v' : Value} {vs : List Value} {yss : List (List Int)} {u u' : List Int} (h : Coll w6 wr vall vs yss) (hb : Below wr.heap.size wr w1) (ho : w1.ownsRow wr.heap.size 3 1 v u.length (ints u)) (hb2 : Below w1.heap.size w1 w2)
    (ho2 : w2.ownsRow w1.heap.size 3 1 v' u'.length (ints u')) (hb3 : Below w2.heap.size w2 w3) (hu : u.length ≤ 100000) (hu' : u'.length ≤ 100000)
    (hown : w4.ownsRow w6.heap.size 29 1 vall' (vs.length + 2) (vs ++ [v, v'])) (hg : w3.grownBy w4 vall.ownBlock) : Coll w6 w4 vall' (vs ++ [v, v']) (yss ++ [u, u']) := by
  have h3 := h.keep (below_then (below_then hb hb2) hb3)
  have key : ∀ {x : Value} {y : List Int} {S : Nat}, w3.ownsRow S 3 1 x y.length (ints y) → w4.ownsRow S 3 1 x y.length (ints y) := fun {x y S} ho => ho.kept hg (by
    by_cases e : vall.ownBlock = none
    · cases hv : x.ownBlock with
      | none => exact .inl rfl
      | some b => right; rw [e]; simp
    · obtain ⟨b, hb⟩ := Option.ne_none_iff_exists'.1 e
      right; rw [hb]; exact own_type_ne h3.own ho (by decide) hb)
  have r1 := (h3.rows.outer h3.own hg).push (S := wr.heap.size) (fun k hk => (h.rows.lt hk).2) h.below.size (key (own_below (own_below ho hb2) hb3))
  have r2 := r1.push (S := w1.heap.size) (fun k hk => by
    obtain ⟨x, hx, hk⟩ := hk
    rcases List.mem_append.1 hx with hx | hx
    · have := (h.rows.lt ⟨x, hx, hk⟩).2; have := hb.size; omega
    · simp at hx; subst hx; exact own_lt ho hk) (Nat.le_trans h.below.size hb.size) (key (own_below ho2 hb3))
  refine ⟨below_grown_own (B := 0) h3.below h3.own hg, by simpa using hown, by simpa using r2, ?_⟩
  intro x hx
  rcases List.mem_append.1 hx with hx | hx
  · exact h.short x hx
  · simp at hx; rcases hx with rfl | rfl
    · exact hu
    · exact hu'
theorem Coll.len {w6 wr : World} {vall : Value} {vs : List Value} {yss : List (List Int)} (h : Coll w6 wr vall vs yss) : ∀ j, (gL yss j).length ≤ 100000 := fun j => by
  by_cases e : j < yss.length
  · exact h.short _ (by rw [gL_get _ _ e]; exact List.getElem_mem e)
  · simp [gL, List.getD_eq_getElem?_getD, List.getElem?_eq_none (show yss.length ≤ j by omega)]
end Go.Proofs.Ytoafjmfnnbpnoaa
