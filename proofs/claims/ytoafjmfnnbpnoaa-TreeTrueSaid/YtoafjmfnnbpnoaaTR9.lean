/-
  Look-ups and stores in a node's map; how the tree's object is told again where a node's map was written.
-/
import Derived.Test.YtoafjmfnnbpnoaaTR8
import Derived.MapKept
set_option linter.unusedVariables false
set_option linter.unusedSimpArgs false
namespace Go.Proofs.Ytoafjmfnnbpnoaa
open Go Go.RowKit

/-- Where a key is first, by its text. -/
def lookB : List (List Int × Nat) → ByteArray → Nat → Option (Nat × Value)
  | [], _, _ => none
  | (a, c) :: r, s, i => if s = keyOf a then some (i, .int .i64 c) else lookB r s (i + 1)
theorem findNow_ents (s : ByteArray) : ∀ (ch : List (List Int × Nat)) (k i : Nat), Instr.findNow .string (.string s) (ents ch k) i = some (lookB ch s i) := by
  intro ch
  induction ch with
  | nil => intro k i; rfl
  | cons q r ih =>
    intro k i
    obtain ⟨a, c⟩ := q
    simp only [ents, Instr.findNow, Instr.sameNow, lookB]
    by_cases h : s = keyOf a
    · rw [if_pos h, (MapKept.bytes_beq s (keyOf a)).2 h]
    · rw [if_neg h]
      have : (s == keyOf a) = false := by
        cases e : s == keyOf a with
        | false => rfl
        | true => exact absurd ((MapKept.bytes_beq _ _).1 e) h
      rw [this]
      exact ih _ _
def lookA (ch : List (List Int × Nat)) (a : List Int) : Option Nat := (ch.find? (fun q => decide (q.1 = a))).map (·.2)

/-- Numbers of a byte. -/
def OkB (a : List Int) : Prop := ∀ x ∈ a, 0 ≤ x ∧ x < 256
theorem keyOf_inj {a b : List Int} (ha : OkB a) (hb : OkB b) (h : keyOf a = keyOf b) : a = b := by
  unfold keyOf strOfNums at h
  have h1 : (a.map (· % 256)).map (fun n => UInt8.ofNat n.toNat) = (b.map (· % 256)).map (fun n => UInt8.ofNat n.toNat) := by
    have := congrArg (fun s : ByteArray => s.data.toList) h
    simpa using this
  rw [List.map_map, List.map_map] at h1
  have hl : a.length = b.length := by simpa using congrArg List.length h1
  apply List.ext_getElem hl
  intro i h2 h3
  have h4 := congrArg (fun l : List UInt8 => l[i]?) h1
  simp only [List.getElem?_map, List.getElem?_eq_getElem h2, List.getElem?_eq_getElem h3, Option.map_some, Option.some.injEq, Function.comp] at h4
  have ra := ha _ (List.getElem_mem h2)
  have rb := hb _ (List.getElem_mem h3)
  have h5 := congrArg UInt8.toNat h4
  have ea : a[i] % 256 = a[i] := by omega
  have eb : b[i] % 256 = b[i] := by omega
  rw [ea, eb] at h5
  simp only [UInt8.toNat_ofNat'] at h5
  omega
theorem lookB_none {ch : List (List Int × Nat)} {a : List Int} (hc : ∀ q ∈ ch, OkB q.1) (ha : OkB a) (h : lookA ch a = none) : ∀ i, lookB ch (keyOf a) i = none := by
  induction ch with
  | nil => intro i; rfl
  | cons q r ih =>
    intro i
    obtain ⟨b, c⟩ := q
    unfold lookA at h
    rw [List.find?_cons] at h
    by_cases e : b = a
    · simp [e] at h
    · simp only [e, decide_false] at h
      unfold lookB
      rw [if_neg (fun e' => e (keyOf_inj (hc (b, _) (List.mem_cons_self ..)) ha e'.symm))]
      exact ih (fun q hq => hc q (by simp [hq])) h _
theorem lookB_some {ch : List (List Int × Nat)} {a : List Int} {c : Nat} (hc : ∀ q ∈ ch, OkB q.1) (ha : OkB a) (h : lookA ch a = some c) : ∀ i, ∃ j, lookB ch (keyOf a) i = some (j, .int .i64 c) := by
  induction ch with
  | nil => cases h
  | cons q r ih =>
    intro i
    obtain ⟨b, c'⟩ := q
    unfold lookA at h
    rw [List.find?_cons] at h
    by_cases e : b = a
    · simp [e] at h
      subst h e
      exact ⟨i, by unfold lookB; rw [if_pos rfl]⟩
    · simp only [e, decide_false] at h
      unfold lookB
      rw [if_neg (fun e' => e (keyOf_inj (hc (b, _) (List.mem_cons_self ..)) ha e'.symm))]
      exact ih (fun q hq => hc q (by simp [hq])) h _

theorem zero_int (w : World) : (zeroValue 3).run Try.prog w = .ok (.int .i64 0) w := by kernel_rfl
theorem run_lookup_node (w : World) (mb clock : Nat) (ch : List (List Int × Nat)) (s : ByteArray) (hb : w.heap[mb]? = some (.map (ents ch 0).toArray clock)) :
    (Instr.lookup 152 (.map (some mb)) (.string s) true).run Try.prog w = .ok (.tuple (match lookB ch s 0 with | some (_, v) => #[v, .bool true] | none => #[.int .i64 0, .bool false])) w := by
  have h1 : (Instr.findKey 9 (.string s) (ents ch 0)).run Try.prog w = .ok (lookB ch s 0) w := MapKept.run_findKey Try.underlying9 (findNow_ents s ch 0 0)
  have h2 := fun e => MapKept.run_checkKey (P := Try.prog) (w := w) (kt := 9) (k := .string s) Try.underlying9 (by trivial) e 9999
  have h3 := MapKept.run_getObj_map (P := Try.prog) hb
  unfold Instr.lookup
  simp only [Sem.run_bind, run_underlying Try.underlying152, Result.andThen_ok, h3, Sem.run_pure, h2, h1]
  cases lookB ch s 0 with
  | none => simp [zero_int, Result.andThen]
  | some q => obtain ⟨j, v⟩ := q; simp [Result.andThen]

theorem ents_append (ch : List (List Int × Nat)) (a : List Int) (c : Nat) : ∀ i, ents (ch ++ [(a, c)]) i = ents ch i ++ [{ key := .string (keyOf a), val := .int .i64 c, born := i + ch.length }] := by
  induction ch with
  | nil => intro i; rfl
  | cons q r ih =>
    intro i
    obtain ⟨b, d⟩ := q
    simp only [List.cons_append, ents, ih, List.length_cons]
    rw [Nat.add_assoc, Nat.add_comm 1]
/-- The world in which a block was written over. -/
def setBlk (w : World) (b : Nat) (o : Obj) : World := { w with heap := w.heap.setIfInBounds b o }
theorem setBlk_same {w : World} {b : Nat} (o : Obj) (h : b < w.heap.size) : (setBlk w b o).heap[b]? = some o := by simp [setBlk, h]
theorem setBlk_other {w : World} {b k : Nat} (o : Obj) (h : k ≠ b) : (setBlk w b o).heap[k]? = w.heap[k]? := by simp [setBlk, Ne.symm h]
theorem size_setBlk (w : World) (b : Nat) (o : Obj) : (setBlk w b o).heap.size = w.heap.size := by simp [setBlk]
theorem run_mapUpdate_node (w : World) (mb : Nat) (ch : List (List Int × Nat)) (a : List Int) (c : Nat) (hb : w.heap[mb]? = some (.map (ents ch 0).toArray ch.length)) (hn : lookB ch (keyOf a) 0 = none) :
    (Instr.mapUpdate 152 (.map (some mb)) (.string (keyOf a)) (.int .i64 c)).run Try.prog w = .ok () (setBlk w mb (.map (ents (ch ++ [(a, c)]) 0).toArray (ch ++ [(a, c)]).length)) := by
  have h1 : (Instr.findKey 9 (.string (keyOf a)) (ents ch 0)).run Try.prog w = .ok none w := by
    rw [← hn]; exact MapKept.run_findKey Try.underlying9 (findNow_ents (keyOf a) ch 0 0)
  have h2 := fun e => MapKept.run_checkKey (P := Try.prog) (w := w) (kt := 9) (k := .string (keyOf a)) Try.underlying9 (by trivial) e 9999
  have h3 := MapKept.run_getObj_map (P := Try.prog) hb
  have h4 := fun o => MapKept.run_setObj_map (P := Try.prog) o hb
  unfold Instr.mapUpdate
  simp only [Sem.run_bind, run_underlying Try.underlying152, Result.andThen_ok, h3, h2, h1, h4]
  rw [ents_append]
  simp [setBlk, List.push_toArray]

section
variable {w : World} {F : Nat → Prop} {T : Nat} {p : PT} {vall vacc vplace vword : Value} {vaccs : List Value} {gall : List GB}
def setCh (all : List PB) (i : Nat) (b : List Int) (ch : List (List Int × Nat)) : List PB := all.set i (.node b ch)

theorem nodup_filterMap_at {gall : List GB} {i j : Nat} {g g' : GB} {m : Nat} (hn : (gall.filterMap GB.mb?).Nodup) (hi : gall[i]? = some g) (hj : gall[j]? = some g') (h1 : g.mb? = some m) (h2 : g'.mb? = some m) : i = j := by
  induction gall generalizing i j with
  | nil => simp at hi
  | cons x r ih =>
    rw [List.filterMap_cons] at hn
    have hmem : ∀ {k : Nat} {y : GB}, r[k]? = some y → y.mb? = some m → m ∈ r.filterMap GB.mb? := fun {k y} hk hy => List.mem_filterMap.2 ⟨y, List.mem_of_getElem? hk, hy⟩
    cases i with
    | zero =>
      cases j with
      | zero => rfl
      | succ j =>
        simp at hi hj
        subst hi
        rw [h1] at hn
        simp only [List.nodup_cons] at hn
        exact absurd (hmem hj h2) hn.1
    | succ i =>
      cases j with
      | zero =>
        simp at hi hj
        subst hj
        rw [h2] at hn
        simp only [List.nodup_cons] at hn
        exact absurd (hmem hi h1) hn.1
      | succ j =>
        simp at hi hj
        have hn' : (r.filterMap GB.mb?).Nodup := by
          cases hx : x.mb? with
          | none => rw [hx] at hn; exact hn
          | some y => rw [hx] at hn; exact (List.nodup_cons.1 hn).2
        rw [ih hn' hi hj]

/-- A node's map was gone on with. -/
theorem TreeG.updMap (h : TreeG w F T p vall vacc vplace vword vaccs gall) {q nb mb : Nat} {vby : Value} {b : List Int} {ch ch' : List (List Int × Nat)} (hq : gall[q]? = some (.node nb mb vby b ch)) :
    TreeG (setBlk w mb (.map (ents ch' 0).toArray ch'.length)) F T { p with all := p.all.set q (.node b ch') } vall vacc vplace vword vaccs (gall.set q (.node nb mb vby b ch')) ∧ Mod F w (setBlk w mb (.map (ents ch' 0).toArray ch'.length)) := by
  have hm := List.mem_of_getElem? hq
  have hql := (List.getElem?_eq_some_iff.1 hq).1
  obtain ⟨n1, n2, n3, n4, n5⟩ := h.nodes _ _ _ _ _ hm
  have hmlt := (Array.getElem?_eq_some_iff.1 n2).1
  have hoth : ∀ k, k ≠ mb → (setBlk w mb (.map (ents ch' 0).toArray ch'.length)).heap[k]? = w.heap[k]? := fun k hk => setBlk_other _ hk
  have hval : (gall.set q (.node nb mb vby b ch')).map GB.val = gall.map GB.val := by
    rw [List.map_set]
    apply List.ext_getElem? ; intro i
    rw [List.getElem?_set]
    split
    · rename_i e; subst e
      simp [hql, hq, GB.val]
      rw [List.getElem?_eq_getElem hql] at hq
      injection hq with hq
      rw [hq]
    · rfl
  have hmbs : (gall.set q (.node nb mb vby b ch')).filterMap GB.mb? = gall.filterMap GB.mb? := by
    have e1 : gall = gall.take q ++ GB.node nb mb vby b ch :: gall.drop (q + 1) := by
      rw [List.getElem?_eq_getElem hql] at hq
      injection hq with hq
      conv => lhs; rw [← List.take_append_drop q gall, List.drop_eq_getElem_cons hql, hq]
    rw [List.set_eq_take_append_cons_drop, if_pos hql, List.filterMap_append, List.filterMap_cons]
    conv => rhs; rw [e1]
    rw [List.filterMap_append, List.filterMap_cons]
    rfl
  have hM : ∀ k, MutB T vall vacc vplace (gall.set q (.node nb mb vby b ch')) k ↔ MutB T vall vacc vplace gall k := by
    intro k
    have e : ∀ G : List GB, (∃ g ∈ G, g.mb? = some k) ↔ k ∈ G.filterMap GB.mb? := fun G => (List.mem_filterMap).symm
    unfold MutB
    rw [e, e, hmbs]
  have hro : ∀ {v : Value} {xs : List Int}, SI w (fun k => F k ∧ ¬ MutB T vall vacc vplace gall k) v xs → SI (setBlk w mb (.map (ents ch' 0).toArray ch'.length)) (fun k => F k ∧ ¬ MutB T vall vacc vplace (gall.set q (.node nb mb vby b ch')) k) v xs := fun hsi =>
    hsi.keep (fun k ho _ => hoth k (fun e => ho.2 (.inr (.inr (.inr (.inr ⟨_, hm, by rw [e]; rfl⟩)))))) (fun k ho _ => ⟨ho.1, fun m => ho.2 ((hM k).1 m)⟩)
  have hneT := h.ne_node hm
  refine ⟨?_, ?_⟩
  · exact {
      blk := blk_keep h.blk (fun _ => hoth _ (Ne.symm hneT.2))
      all := by rw [hval, List.length_set]; exact own_keep h.all fun k e _ => hoth k (fun e' => h.map_ne hm h.all (e' ▸ e))
      pall := by rw [List.map_set, h.pall]; rfl
      acc := own_keep h.acc fun k e _ => hoth k (fun e' => h.map_ne hm h.acc (e' ▸ e))
      accl := h.accl
      accs := fun i hi => hro (h.accs i hi)
      place := own_keep h.place fun k e _ => hoth k (fun e' => h.map_ne hm h.place (e' ▸ e))
      word := hro h.word
      nodes := fun nb' mb' vby' b' c' hm' => by
        obtain ⟨i, hi⟩ := List.getElem?_of_mem hm'
        rw [List.getElem?_set] at hi
        by_cases e : q = i
        · subst e
          simp [hql] at hi
          obtain ⟨rfl, rfl, rfl, rfl, rfl⟩ := hi
          exact ⟨blk_keep n1 (fun _ => hoth _ (fun e => by subst e; rw [n1] at n2; cases n2)), setBlk_same _ hmlt, hro n3, n4, n5⟩
        · rw [if_neg e] at hi
          have hmem := List.mem_of_getElem? hi
          obtain ⟨k1, k2, k3, k4, k5⟩ := h.nodes _ _ _ _ _ hmem
          have hne : mb' ≠ mb := fun e' => e (nodup_filterMap_at h.mbs hq hi (m := mb) rfl (by rw [e'.symm]; rfl))
          exact ⟨blk_keep k1 (fun _ => hoth _ (fun e => by subst e; rw [k1] at n2; cases n2)), blk_keep k2 (fun _ => hoth _ hne), hro k3, k4, k5⟩
      mbs := by rw [hmbs]; exact h.mbs
      fmut := fun k hk => h.fmut k ((hM k).1 hk)
      flt := fun k hk => by rw [size_setBlk]; exact h.flt k hk }
  · exact ⟨rfl, rfl, rfl, by rw [size_setBlk]; exact Nat.le_refl _, fun k _ hF => hoth k (fun e => hF (e ▸ n5))⟩
end
end Go.Proofs.Ytoafjmfnnbpnoaa
