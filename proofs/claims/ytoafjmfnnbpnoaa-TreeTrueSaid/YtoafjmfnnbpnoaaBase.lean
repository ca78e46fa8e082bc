/-
  Shared words of the proofs over this seat: rows of cells that are read, rows that a call owns, worlds that differ in some blocks. Plain theorems.
-/
import Derived.Test.YtoafjmfnnbpnoaaProg
import Derived.WalkKit
import Derived.Lib.Hide
import Derived.BigQuiet
import Derived.Deep.QuietTactic
import Derived.Deep.RegionHeld3
import Derived.Deep.RegionLaw
import Derived.Deep.AppendLies
import Derived.Deep.LoopGhost
import Derived.Deep.DeepCutAuto
import Derived.Deep.Draws
import Derived.Maps.AppendAt
import Derived.WalkSpells
import Derived.WalkLawsBesides
import Derived.KernelRfl
set_option linter.unusedVariables false
set_option linter.unusedSimpArgs false
namespace Go.Proofs.Ytoafjmfnnbpnoaa
open Go Go.RowKit

/-! ### Worlds -/
/-- w' is w, but for new blocks and the blocks in F. -/
structure Mod (F : Nat → Prop) (w w' : World) : Prop where
  os : w'.os = w.os
  tape : w'.tape = w.tape
  output : w'.output = w.output
  size : w.heap.size ≤ w'.heap.size
  block : ∀ k, k < w.heap.size → ¬ F k → w'.heap[k]? = w.heap[k]?

theorem Mod.refl (F : Nat → Prop) (w : World) : Mod F w w := ⟨rfl, rfl, rfl, Nat.le_refl _, fun _ _ _ => rfl⟩
theorem Mod.trans {F G : Nat → Prop} {a b c : World} (h : Mod F a b) (k : Mod G b c) (hG : ∀ i, i < a.heap.size → G i → F i) : Mod F a c :=
  ⟨k.os.trans h.os, k.tape.trans h.tape, k.output.trans h.output, Nat.le_trans h.size k.size, fun i hi hn => (k.block i (Nat.lt_of_lt_of_le hi h.size) (fun g => hn (hG i hi g))).trans (h.block i hi hn)⟩
theorem Mod.mono {F G : Nat → Prop} {a b : World} (h : Mod F a b) (hG : ∀ i, i < a.heap.size → F i → G i) : Mod G a b :=
  ⟨h.os, h.tape, h.output, h.size, fun i hi hn => h.block i hi (fun f => hn (hG i hi f))⟩
theorem Mod.of_below {w w' : World} (F : Nat → Prop) (h : Below w.heap.size w w') : Mod F w w' := ⟨h.os, h.tape, h.output, h.size, fun i hi _ => h.block i hi⟩
theorem Mod.below {w w' : World} (h : Mod (fun _ => False) w w') : Below w.heap.size w w' := ⟨h.os, h.tape, h.output, h.size, fun i hi => h.block i hi id⟩
theorem Mod.then_below {F : Nat → Prop} {a b c : World} (h : Mod F a b) (k : Below b.heap.size b c) : Mod F a c := h.trans (Mod.of_below (fun _ => False) k) (fun _ _ f => f.elim)
theorem Mod.drew {F : Nat → Prop} {a b : World} (h : Mod F a b) : Mod F a b.drew := ⟨h.os, h.tape, h.output, h.size, h.block⟩
theorem Mod.drewN {F : Nat → Prop} {a b : World} (h : Mod F a b) (n : Nat) : Mod F a (b.drewN n) := ⟨h.os, h.tape, h.output, h.size, h.block⟩
theorem Mod.alloc {F : Nat → Prop} {a b : World} (h : Mod F a b) (o : Obj) : Mod F a (b.alloc o) := h.then_below ((Below.refl _ _).alloc (Nat.le_refl _) o)
theorem Mod.setCell {F : Nat → Prop} {a b : World} (h : Mod F a b) {p : Addr} (hp : p.block < a.heap.size → F p.block) (u : Value) : Mod F a (b.setCell p u) :=
  h.trans (F := F) (G := fun k => k = p.block) ⟨rfl, rfl, rfl, by simp [World.setCell], fun k _ hk => Below.heap_setCell _ _ _ _ hk⟩ (fun i hi e => by subst e; exact hp hi)
theorem Mod.grown {F : Nat → Prop} {a b c : World} (h : Mod F a b) {row : Option Nat} (g : b.grownBy c row) (hr : ∀ k, row = some k → k < a.heap.size → F k) : Mod F a c :=
  h.trans (F := F) (G := fun k => row = some k) ⟨g.os, g.tape, g.output, g.size, fun k hk hn => g.block k hk (fun e => hn e.symm)⟩ (fun i hi e => hr i e hi)

theorem below_then {w a b : World} (h : Below w.heap.size w a) (k : Below a.heap.size a b) : Below w.heap.size w b := h.trans (k.mono h.size)
theorem below_drewN {B : Nat} {w W : World} (h : Below B w W) (n : Nat) : Below B w (W.drewN n) := ⟨h.os, h.tape, h.output, h.size, h.block⟩

/-! ### Rows of cells that are read -/
/-- The cells from A on hold ys, one value a cell; all in blocks that are ok. -/
def RV (w : World) (ok : Nat → Prop) (A : Option Addr) (ys : List Value) : Prop :=
  ∀ i (h : i < ys.length), ∃ ad, A = some ad ∧ ok ad.block ∧ w.cell? (ad.add i) = some ys[i]

/-- A slice of n elements of sz cells each that reads as ys. -/
def SVs (w : World) (ok : Nat → Prop) (sz : Nat) (v : Value) (n : Nat) (ys : List Value) : Prop :=
  ∃ A c, v = .slice A n c ∧ n ≤ c ∧ n ≤ 9223372036854775807 ∧ ys.length = n * sz ∧ RV w ok A ys
def SV (w : World) (ok : Nat → Prop) (v : Value) (ys : List Value) : Prop := SVs w ok 1 v ys.length ys

def ints (xs : List Int) : List Value := xs.map (Value.int .i64)
theorem ints_length (xs : List Int) : (ints xs).length = xs.length := by simp [ints]
theorem ints_append (xs ys : List Int) : ints (xs ++ ys) = ints xs ++ ints ys := by simp [ints]
/-- What stands at a place of a list (closed to simp). -/
def gI (xs : List Int) (i : Nat) : Int := xs.getD i 0
theorem gI_get (xs : List Int) (i : Nat) (h : i < xs.length) : gI xs i = xs[i] := by simp [gI, List.getD_eq_getElem?_getD, List.getElem?_eq_getElem h]
theorem gI_mem (xs : List Int) (i : Nat) (h : i < xs.length) : gI xs i ∈ xs := by rw [gI_get xs i h]; exact List.getElem_mem h
theorem ints_get (xs : List Int) (i : Nat) (h : i < xs.length) : (ints xs)[i]'(by simpa [ints] using h) = .int .i64 (gI xs i) := by
  rw [gI_get xs i h]; simp [ints]
theorem ints_take (xs : List Int) (n : Nat) : ints (xs.take n) = (ints xs).take n := by simp [ints, List.map_take]
theorem ints_inj {xs ys : List Int} (h : ints xs = ints ys) : xs = ys := by
  have : Function.Injective (Value.int .i64) := fun a b e => by injection e
  exact (List.map_inj_right (fun a b e => this e)).1 h

/-- A slice of whole numbers that reads as xs. -/
def SI (w : World) (ok : Nat → Prop) (v : Value) (xs : List Int) : Prop := SVs w ok 1 v xs.length (ints xs)
/-- A slice of slices of whole numbers that reads as xss. -/
def SL (w : World) (ok : Nat → Prop) (v : Value) (xss : List (List Int)) : Prop :=
  ∃ vs, SVs w ok 1 v xss.length vs ∧ vs.length = xss.length ∧ ∀ i (h : i < vs.length) (h' : i < xss.length), SI w ok vs[i] xss[i]

abbrev Any : Nat → Prop := fun _ => True

theorem RV.keep {w w' : World} {ok ok' : Nat → Prop} {A : Option Addr} {ys : List Value} (h : RV w ok A ys)
    (hb : ∀ k, ok k → k < w.heap.size → w'.heap[k]? = w.heap[k]?) (ho : ∀ k, ok k → k < w.heap.size → ok' k) : RV w' ok' A ys := by
  intro i hi
  obtain ⟨ad, e, ho1, hc⟩ := h i hi
  have hl : ad.block < w.heap.size := by
    have := World.block_lt_of_cell? w _ hc
    unfold Addr.add at this; split at this <;> exact this
  refine ⟨ad, e, ho _ ho1 hl, ?_⟩
  have : (ad.add i).block = ad.block := by unfold Addr.add; split <;> rfl
  rw [← hc]
  exact World.cell?_of_block (by rw [this]; exact hb _ ho1 hl)
theorem SVs.keep {w w' : World} {ok ok' : Nat → Prop} {sz n : Nat} {v : Value} {ys : List Value} (h : SVs w ok sz v n ys)
    (hb : ∀ k, ok k → k < w.heap.size → w'.heap[k]? = w.heap[k]?) (ho : ∀ k, ok k → k < w.heap.size → ok' k) : SVs w' ok' sz v n ys := by
  obtain ⟨A, c, e, h1, h2, h3, h4⟩ := h
  exact ⟨A, c, e, h1, h2, h3, h4.keep hb ho⟩
theorem SI.keep {w w' : World} {ok ok' : Nat → Prop} {v : Value} {xs : List Int} (h : SI w ok v xs)
    (hb : ∀ k, ok k → k < w.heap.size → w'.heap[k]? = w.heap[k]?) (ho : ∀ k, ok k → k < w.heap.size → ok' k) : SI w' ok' v xs := SVs.keep h hb ho
theorem SL.keep {w w' : World} {ok ok' : Nat → Prop} {v : Value} {xss : List (List Int)} (h : SL w ok v xss)
    (hb : ∀ k, ok k → k < w.heap.size → w'.heap[k]? = w.heap[k]?) (ho : ∀ k, ok k → k < w.heap.size → ok' k) : SL w' ok' v xss := by
  obtain ⟨vs, h1, h2, h3⟩ := h
  exact ⟨vs, h1.keep hb ho, h2, fun i a b => (h3 i a b).keep hb ho⟩

theorem SI.below {w w' : World} {ok : Nat → Prop} {v : Value} {xs : List Int} (h : SI w ok v xs) (hb : Below w.heap.size w w') : SI w' ok v xs :=
  h.keep (fun k _ hk => hb.block k hk) (fun _ h _ => h)
theorem SL.below {w w' : World} {ok : Nat → Prop} {v : Value} {xs : List (List Int)} (h : SL w ok v xs) (hb : Below w.heap.size w w') : SL w' ok v xs :=
  h.keep (fun k _ hk => hb.block k hk) (fun _ h _ => h)
theorem SVs.below {w w' : World} {ok : Nat → Prop} {sz n : Nat} {v : Value} {ys : List Value} (h : SVs w ok sz v n ys) (hb : Below w.heap.size w w') : SVs w' ok sz v n ys :=
  h.keep (fun k _ hk => hb.block k hk) (fun _ h _ => h)
theorem SI.any {w : World} {ok : Nat → Prop} {v : Value} {xs : List Int} (h : SI w ok v xs) : SI w Any v xs := h.keep (fun _ _ _ => rfl) (fun _ _ _ => trivial)
theorem SL.any {w : World} {ok : Nat → Prop} {v : Value} {xs : List (List Int)} (h : SL w ok v xs) : SL w Any v xs := h.keep (fun _ _ _ => rfl) (fun _ _ _ => trivial)
theorem SI.mod {w w' : World} {F ok ok' : Nat → Prop} {v : Value} {xs : List Int} (h : SI w ok v xs) (hm : Mod F w w') (hn : ∀ k, ok k → k < w.heap.size → ¬ F k ∧ ok' k) : SI w' ok' v xs :=
  h.keep (fun k ho hk => hm.block k hk (hn k ho hk).1) (fun k ho hk => (hn k ho hk).2)
theorem SL.mod {w w' : World} {F ok ok' : Nat → Prop} {v : Value} {xs : List (List Int)} (h : SL w ok v xs) (hm : Mod F w w') (hn : ∀ k, ok k → k < w.heap.size → ¬ F k ∧ ok' k) : SL w' ok' v xs :=
  h.keep (fun k ho hk => hm.block k hk (hn k ho hk).1) (fun k ho hk => (hn k ho hk).2)

theorem SI.nil (w : World) (ok : Nat → Prop) : SI w ok (.slice none 0 0) [] := ⟨none, 0, rfl, by simp, by simp, rfl, fun i h => by simp [ints] at h⟩

/-! ### Rows that are owned -/
theorem add_plain (g j : Nat) : (⟨g, 0, none⟩ : Addr).add j = ⟨g, j, none⟩ := by unfold Addr.add; split <;> simp_all
/-- The row v of ints, from block B on, is the call's own. -/
def OI (w : World) (B : Nat) (v : Value) (xs : List Int) : Prop := w.ownsRow B 3 1 v xs.length (ints xs)

theorem own_reads {w : World} {B : Nat} {e : TypeId} {sz n : Nat} {v : Value} {ys : List Value} (h : w.ownsRow B e sz v n ys) : SVs w (fun k => v.ownBlock = some k ∧ B ≤ k) sz v n ys := by
  rcases h.2 with ⟨rfl, rfl⟩ | ⟨g, cap, cur, rfl, hb, hh, h1, h2, h3, h4⟩
  · refine ⟨none, 0, rfl, Nat.le_refl _, by omega, h.1, fun i hi => ?_⟩
    have := h.1; simp at this; subst this; simp at hi
  · refine ⟨_, cap, rfl, h1, by simp only [maxLen] at h2; omega, h.1, fun i hi => ⟨_, rfl, ⟨rfl, hb⟩, ?_⟩⟩
    rw [add_plain]
    have hl : i < cur.size := by rw [h3]; have := h.1; have := Nat.mul_le_mul_right sz h1; omega
    simp only [World.cell?, hh]
    have : ys[i] = cur[i] := by
      have : (cur.toList.take (n * sz))[i]'(by rw [h4]; exact hi) = cur[i] := by simp
      rw [← this]; congr 1; exact h4.symm
    simp [hl, this]
theorem OI.reads {w : World} {B : Nat} {v : Value} {xs : List Int} (h : OI w B v xs) : SI w (fun k => v.ownBlock = some k ∧ B ≤ k) v xs := own_reads h
theorem OI.si {w : World} {B : Nat} {v : Value} {xs : List Int} (h : OI w B v xs) : SI w (fun k => B ≤ k) v xs := h.reads.keep (fun _ _ _ => rfl) (fun _ h _ => h.2)
theorem own_mono {w : World} {B B' : Nat} {e : TypeId} {sz n : Nat} {v : Value} {ys : List Value} (h : w.ownsRow B e sz v n ys) (hB : B' ≤ B) : w.ownsRow B' e sz v n ys := by
  refine ⟨h.1, ?_⟩
  rcases h.2 with h2 | ⟨g, cap, cur, hv, hb, r⟩
  · exact .inl h2
  · exact .inr ⟨g, cap, cur, hv, Nat.le_trans hB hb, r⟩
theorem own_below {w w' : World} {B : Nat} {e : TypeId} {sz n : Nat} {v : Value} {ys : List Value} (h : w.ownsRow B e sz v n ys) (hb : Below w.heap.size w w') : w'.ownsRow B e sz v n ys :=
  h.kept (row := none) ⟨hb.os, hb.tape, hb.output, hb.size, fun i hi _ => hb.block i hi⟩ (by cases v.ownBlock <;> simp)
theorem own_mod {w w' : World} {F : Nat → Prop} {B : Nat} {e : TypeId} {sz n : Nat} {v : Value} {ys : List Value} (h : w.ownsRow B e sz v n ys) (hm : Mod F w w') (hn : ∀ k, v.ownBlock = some k → ¬ F k) : w'.ownsRow B e sz v n ys := by
  refine ⟨h.1, ?_⟩
  rcases h.2 with h2 | ⟨g, cap, cur, hv, hb, hh, r⟩
  · exact .inl h2
  · refine .inr ⟨g, cap, cur, hv, hb, ?_, r⟩
    rw [hm.block g (Array.getElem?_eq_some_iff.1 hh).1 (hn g (by rw [hv]; rfl))]
    exact hh
theorem own_slice {w : World} {B : Nat} {e : TypeId} {sz n : Nat} {v : Value} {ys : List Value} (h : w.ownsRow B e sz v n ys) : ∃ A c, v = .slice A n c := by
  rcases h.2 with ⟨rfl, rfl⟩ | ⟨g, cap, cur, rfl, _⟩
  · exact ⟨none, 0, rfl⟩
  · exact ⟨_, cap, rfl⟩

theorem own_form {w : World} {B : Nat} {e : TypeId} {sz n : Nat} {v : Value} {ys : List Value} (h : w.ownsRow B e sz v n ys) (h0 : 0 < n) : ∃ g cap, v = .slice (some ⟨g, 0, none⟩) n cap ∧ B ≤ g ∧ g < w.heap.size ∧ n ≤ cap ∧ cap ≤ 9223372036854775807 := by
  rcases h.2 with ⟨rfl, rfl⟩ | ⟨g, cap, cur, rfl, hb, hh, h1, h2, _⟩
  · omega
  · exact ⟨g, cap, rfl, hb, (Array.getElem?_eq_some_iff.1 hh).1, h1, by simp only [maxLen] at h2; omega⟩

/-- append(v, x...): v a row of the call's own, x a slice that is read (nil let in). -/
theorem run_append_read {P : Program} (w : World) (B : Nat) (t ty e : TypeId) (z : Value) (sz bytes : Nat) (ht : P.underlying t = some (.slice e))
    (hinfo : (P.info? e).map (fun i => (i.zero, i.size, i.bytes)) = some (some z, sz, bytes)) (hzs : z.cells.size = sz) (hsz : 0 < sz) (hb0 : 0 < bytes)
    (v : Value) (n : Nat) (xs : List Value) (hown : w.ownsRow B e sz v n xs)
    (A : Option Addr) (m c : Nat) (ys : List Value) (hl : ys.length = m * sz) (hr : RV w Any A ys) (h1 : ∀ u ∈ ys, u.oneCell' = true)
    (hbytes : (n + m) * bytes ≤ 140737488355328) (hB : B ≤ w.heap.size) :
    ∃ v' w', (Builtin.append_ #[t, t] ty #[v, .slice A m c]).run P w = .ok v' w' ∧ w'.ownsRow B e sz v' (n + m) (xs ++ ys) ∧ w.grownBy w' v.ownBlock ∧
      (v'.ownBlock = v.ownBlock ∨ v'.ownBlock = some w.heap.size) := by
  obtain ⟨i0, hi, hzz⟩ := Option.map_eq_some_iff.1 hinfo
  simp only [Prod.mk.injEq] at hzz
  obtain ⟨hz0, hz1, hz2⟩ := hzz
  have hlen : n + m ≤ 140737488355328 := Nat.le_trans (Nat.le_mul_of_pos_right _ hb0) hbytes
  rcases Nat.eq_zero_or_pos m with h0 | h0
  · subst h0
    obtain rfl : ys = [] := List.eq_nil_of_length_eq_zero (by simpa using hl)
    rcases A with _ | ad
    · refine ⟨v, w, ?_, by simpa using hown, World.grownBy.refl w _, .inl rfl⟩
      rcases hown.2 with ⟨rfl, hn⟩ | ⟨g, cap, cur, rfl, _, _, hnc, _⟩
      · simp [Builtin.append_, run_underlying ht, sizeOf, typeInfo, hi, Builtin.lenOf, Builtin.firstCells]
      · simp [Builtin.append_, run_underlying ht, sizeOf, typeInfo, hi, Builtin.lenOf, Builtin.firstCells, hnc, storeCells]
    · obtain ⟨v', w', a, b, c1, d, e1⟩ := run_append_own_at (P := P) w B t ty e i0 z sz bytes ht hi hz0 hz1 hz2 hzs hsz v n xs hown ad 0 c [] (by simp) (by simp) (by simp) (by simp only [maxLen]; omega) hbytes hB
      exact ⟨v', w', a, b, c1, e1⟩
  · have hpos : 0 < ys.length := by rw [hl]; exact Nat.mul_pos h0 hsz
    obtain ⟨ad, rfl, _, _⟩ := hr 0 hpos
    obtain ⟨v', w', a, b, c1, d, e1⟩ := run_append_own_at (P := P) w B t ty e i0 z sz bytes ht hi hz0 hz1 hz2 hzs hsz v n xs hown ad m c ys hl (fun j u hu => by
      obtain ⟨hj, rfl⟩ := List.getElem?_eq_some_iff.1 hu
      obtain ⟨ad', e, _, hc⟩ := hr j hj
      cases e
      exact hc) h1 (by simp only [maxLen]; omega) hbytes hB
    exact ⟨v', w', a, b, c1, e1⟩

/-- At the operation, for the walk. -/
theorem wpl_append {P : Program} {ops : Array Oper} {rest : List Oper} {o : Oper} {a : Act} {Q : Exit → Act → World → Prop} {w : World} (hgd : o.guard = none) (s x : Operand) (t : TypeId)
    (ho : o.op = .call { callee := .builtin .append, args := #[s, x], argTypes := #[t, t] })
    (B : Nat) (e : TypeId) (z : Value) (sz bytes : Nat) (ht : P.underlying t = some (.slice e))
    (hinfo : (P.info? e).map (fun i => (i.zero, i.size, i.bytes)) = some (some z, sz, bytes)) (hzs : z.cells.size = sz) (hsz : 0 < sz) (hb0 : 0 < bytes)
    (v : Value) (n : Nat) (xs : List Value) (hs : a.eval s = v) (hown : w.ownsRow B e sz v n xs)
    (A : Option Addr) (m c : Nat) (ys : List Value) (hx : a.eval x = .slice A m c) (hl : ys.length = m * sz) (hr : RV w Any A ys) (h1 : ∀ u ∈ ys, u.oneCell' = true)
    (hbytes : (n + m) * bytes ≤ 140737488355328) (hB : B ≤ w.heap.size)
    (h : ∀ v' w', w'.ownsRow B e sz v' (n + m) (xs ++ ys) → w.grownBy w' v.ownBlock → (v'.ownBlock = v.ownBlock ∨ v'.ownBlock = some w.heap.size) → wpList P ops Q rest (a.put o.dst v') w') :
    wpList P ops Q (o :: rest) a w := by
  refine wpList_plain hgd fun K hK => ?_
  obtain ⟨v', w', hr, h2, h3, h5⟩ := run_append_read (P := P) w B t o.type e z sz bytes ht hinfo hzs hsz hb0 v n xs hown A m c ys hl hr h1 hbytes hB
  unfold Oper.wp execOp
  simp only [ho, resolve, invoke, builtin, Sem.run_bind, Sem.run_pure, Result.andThen_ok, List.map_toArray, List.map_cons, List.map_nil, hs, hx, hr]
  exact hK _ _ (h v' w' h2 h3 h5)

/-- A block just laid reads as what was laid into it. -/
theorem RV.new (w : World) (cs : Array Value) (e : TypeId) (ys : List Value) (h : ys = cs.toList) : RV (w.alloc (.cells cs e)) (fun k => k = w.heap.size) (some ⟨w.heap.size, 0, none⟩) ys := by
  subst h
  intro i hi
  refine ⟨_, rfl, rfl, ?_⟩
  rw [add_plain]
  simp only [World.cell?, heap_alloc_new]
  simp at hi
  simp [hi]
theorem RV.any {w : World} {ok : Nat → Prop} {A : Option Addr} {ys : List Value} (h : RV w ok A ys) : RV w Any A ys := h.keep (fun _ _ _ => rfl) (fun _ _ _ => trivial)
theorem ints_one (xs : List Int) : ∀ u ∈ ints xs, u.oneCell' = true := by
  intro u hu; simp only [ints, List.mem_map] at hu; obtain ⟨x, _, rfl⟩ := hu; rfl
theorem ret_bool {a b : Bool} (h : a = b) : Ending.returned (.bool a) = .returned (.bool b) := by rw [h]
theorem ret_int {a b : Int} (h : a = b) : Ending.returned (.int .i64 a) = .returned (.int .i64 b) := by rw [h]

theorem info_int : (Try.prog.info? 3).map (fun i => (i.zero, i.size, i.bytes)) = some (some (.int .i64 0), 1, 8) := by kernel_rfl
theorem info_ints : (Try.prog.info? 29).map (fun i => (i.zero, i.size, i.bytes)) = some (some (.slice none 0 0), 1, 24) := by kernel_rfl

/-- A cell of a slice of ints, at a place. -/
theorem SI.cell {w : World} {ok : Nat → Prop} {A : Option Addr} {n c : Nat} {xs : List Int} (h : SI w ok (.slice A n c) xs) (i : Nat) (hi : i < xs.length) :
    ∃ ad, A = some ad ∧ ok ad.block ∧ w.cell? (ad.add i) = some (.int .i64 (gI xs i)) := by
  obtain ⟨A', c', e, _, _, _, hr⟩ := h
  injection e with e1 e2 e3
  subst e1
  obtain ⟨ad, e, ho, hc⟩ := hr i (by simpa [ints] using hi)
  exact ⟨ad, e, ho, by rw [hc, ints_get xs i hi]⟩
theorem SI.open {w : World} {ok : Nat → Prop} {v : Value} {xs : List Int} (h : SI w ok v xs) : ∃ A c, v = .slice A xs.length c ∧ xs.length ≤ c ∧ xs.length ≤ 9223372036854775807 := by
  obtain ⟨A, c, e, h1, h2, _⟩ := h
  exact ⟨A, c, e, h1, h2⟩
/-- What stands at a place of a list of lists (closed to simp). -/
def gL (xss : List (List Int)) (i : Nat) : List Int := xss.getD i []
theorem gL_get (xss : List (List Int)) (i : Nat) (h : i < xss.length) : gL xss i = xss[i] := by simp [gL, List.getD_eq_getElem?_getD, List.getElem?_eq_getElem h]
theorem SL.open {w : World} {ok : Nat → Prop} {v : Value} {xss : List (List Int)} (h : SL w ok v xss) : ∃ A c, v = .slice A xss.length c ∧ xss.length ≤ c ∧ xss.length ≤ 9223372036854775807 := by
  obtain ⟨vs, ⟨A, c, e, h1, h2, _⟩, _⟩ := h
  exact ⟨A, c, e, h1, h2⟩
theorem SL.cell {w : World} {ok : Nat → Prop} {A : Option Addr} {n c : Nat} {xss : List (List Int)} (h : SL w ok (.slice A n c) xss) (i : Nat) (hi : i < xss.length) :
    ∃ ad A' c', A = some ad ∧ ok ad.block ∧ w.cell? (ad.add i) = some (.slice A' (gL xss i).length c') ∧ SI w ok (.slice A' (gL xss i).length c') (gL xss i) := by
  obtain ⟨vs, ⟨A', c', e, _, _, _, hr⟩, hl, hs⟩ := h
  injection e with e1 e2 e3
  subst e1
  obtain ⟨ad, e, ho, hc⟩ := hr i (by omega)
  have hsi := hs i (by omega) hi
  obtain ⟨A2, c2, e2, _⟩ := hsi.open
  rw [e2] at hsi hc
  rw [gL_get xss i hi]
  exact ⟨ad, A2, c2, e, ho, hc, hsi⟩
theorem SI.rv {w : World} {ok : Nat → Prop} {A : Option Addr} {n c : Nat} {xs : List Int} (h : SI w ok (.slice A n c) xs) : RV w Any A (ints xs) := by
  obtain ⟨A', c', e, _, _, _, hr⟩ := h
  injection e with e1 e2 e3
  subst e1
  exact hr.keep (fun _ _ _ => rfl) (fun _ _ _ => trivial)
/-- A literal row of ints. -/
theorem own_lit (W : World) (B g : Nat) (cs : Array Value) (xs : List Int) (h : cs.toList = ints xs) (hB : B ≤ W.heap.size) (hl : xs.length ≤ 9223372036854775807) (hg : W.heap.size = g) :
    OI (W.alloc (.cells cs 3)) B (.slice (some ⟨g, 0, none⟩) xs.length xs.length) xs := by
  subst hg
  have h1 := World.ownsRow_lit (base := B) (e := 3) (size := 1) W cs xs.length hB (by simp only [maxLen]; omega) (by rw [← Array.length_toList, h]; simp [ints])
  rwa [h] at h1
end Go.Proofs.Ytoafjmfnnbpnoaa
