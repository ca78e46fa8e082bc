/-
  A range over a node's map; what the tree's under computes.
-/
import Derived.Test.YtoafjmfnnbpnoaaTR11
import Derived.Maps.RangeRun
set_option linter.unusedVariables false
set_option linter.unusedSimpArgs false
namespace Go.Proofs.Ytoafjmfnnbpnoaa
open Go Go.RowKit

theorem below_same {B : Nat} {a b c : World} (h1 : Below B a b) (h2 : Below B b c) : Below B a c := ⟨h2.os.trans h1.os, h2.tape.trans h1.tape, h2.output.trans h1.output, Nat.le_trans h1.size h2.size, fun k hk => (h2.block k hk).trans (h1.block k hk)⟩
theorem ents_born : ∀ (ch : List (List Int × Nat)) (k : Nat) (i : Nat), (ents ch k)[i]? = ch[i]?.map (fun q => ({ key := .string (keyOf q.1), val := .int .i64 q.2, born := k + i } : MapEntry)) := by
  intro ch
  induction ch with
  | nil => intro k i; simp [ents]
  | cons q r ih =>
    intro k i
    obtain ⟨a, c⟩ := q
    cases i with
    | zero => simp [ents]
    | succ i => simp only [ents, List.getElem?_cons_succ, ih]; congr 1; funext q; congr 1; omega
theorem ents_length (ch : List (List Int × Nat)) (k : Nat) : (ents ch k).length = ch.length := by
  induction ch generalizing k with
  | nil => rfl
  | cons q r ih => obtain ⟨a, c⟩ := q; simp [ents, ih]
theorem ents_mem {ch : List (List Int × Nat)} {e : MapEntry} (h : e ∈ ents ch 0) : ∃ i q, ch[i]? = some q ∧ e = { key := .string (keyOf q.1), val := .int .i64 q.2, born := i } := by
  obtain ⟨i, hi⟩ := List.getElem?_of_mem h
  rw [ents_born] at hi
  cases hq : ch[i]? with
  | none => rw [hq] at hi; cases hi
  | some q => rw [hq] at hi; injection hi with hi; exact ⟨i, q, hq, by rw [← hi, Nat.zero_add]⟩
theorem ents_borns (ch : List (List Int × Nat)) : ∀ k, (ents ch k).map (·.born) = List.range' k ch.length := by
  induction ch with
  | nil => intro k; rfl
  | cons q r ih => intro k; obtain ⟨a, c⟩ := q; simp only [ents, List.map_cons, ih, List.length_cons, List.range'_succ]
theorem ents_nodup (ch : List (List Int × Nat)) : ((ents ch 0).map (·.born)).Nodup := by
  rw [ents_borns]; exact List.nodup_range'

/-- A range over a node's map under way. -/
structure IterAt (w : World) (r mb : Nat) (ch : List (List Int × Nat)) (seen : Array Nat) : Prop where
  map : w.heap[mb]? = some (.map (ents ch 0).toArray ch.length)
  it : ∃ c0, ch.length ≤ c0 ∧ w.heap[r]? = some (.mapIter (some mb) ch.length seen c0)
theorem IterAt.keep {w w' : World} {r mb : Nat} {ch : List (List Int × Nat)} {seen : Array Nat} (h : IterAt w r mb ch seen) (hb : Below w.heap.size w w') : IterAt w' r mb ch seen := by
  obtain ⟨h1, c0, h2, h3⟩ := h
  exact ⟨blk_keep h1 (fun hk => hb.block _ hk), c0, h2, blk_keep h3 (fun hk => hb.block _ hk)⟩
/-- How many entries are still to come. -/
def leftN (w : World) (r : Nat) (ch : List (List Int × Nat)) : Nat := (leftOf (ents ch 0).toArray (w.iterSeen r)).size
theorem IterAt.leftN {w : World} {r mb : Nat} {ch : List (List Int × Nat)} {seen : Array Nat} (h : IterAt w r mb ch seen) : leftN w r ch = (leftOf (ents ch 0).toArray seen).size := by
  obtain ⟨_, c0, _, h3⟩ := h
  unfold Proofs.Ytoafjmfnnbpnoaa.leftN World.iterSeen
  rw [h3]
theorem IterAt.start {w : World} {mb : Nat} {ch : List (List Int × Nat)} (hb : w.heap[mb]? = some (.map (ents ch 0).toArray ch.length)) :
    (Instr.range 152 (.map (some mb))).run Try.prog w = .ok (.pointer (some ⟨w.heap.size, 0, none⟩)) (w.alloc (.mapIter (some mb) ch.length #[] ch.length)) ∧ IterAt (w.alloc (.mapIter (some mb) ch.length #[] ch.length)) w.heap.size mb ch #[] := by
  refine ⟨run_range_map w _ _ _ mb _ _ Try.underlying152 hb, ?_, _, Nat.le_refl _, heap_alloc_new _ _⟩
  rw [heap_alloc_old _ _ (Array.getElem?_eq_some_iff.1 hb).1, hb]
/-- The step: no entry is left, or one that has not been handed out. -/
theorem IterAt.next {w : World} {r mb : Nat} {ch : List (List Int × Nat)} {seen : Array Nat} (h : IterAt w r mb ch seen) (ty : TypeId) :
    ((∀ i, i < ch.length → seen.contains i = true) ∧ (Instr.next (.pointer (some ⟨r, 0, none⟩)) false ty).run Try.prog w = .ok (.tuple #[.bool false]) w) ∨
    ∃ (i : Nat) (k : List Int) (c : Nat) (w' : World), ch[i]? = some (k, c) ∧ seen.contains i = false ∧ (Instr.next (.pointer (some ⟨r, 0, none⟩)) false ty).run Try.prog w = .ok (.tuple #[.bool true, .string (keyOf k), .int .i64 c]) w' ∧
      IterAt w' r mb ch (seen.push i) ∧ Below r w w' ∧ Proofs.Ytoafjmfnnbpnoaa.leftN w' r ch < Proofs.Ytoafjmfnnbpnoaa.leftN w r ch ∧ (Instr.entry (.pointer (some ⟨r, 0, none⟩))).run Try.prog w' = .ok (.tuple #[.string (keyOf k), .int .i64 c]) w' := by
  have hl := h.leftN
  obtain ⟨h1, c0, h2, h3⟩ := h
  have hborn : ∀ x ∈ (ents ch 0).toArray.toList, x.born < ch.length := by
    intro x hx
    obtain ⟨i, q, hq, rfl⟩ := ents_mem (by simpa using hx)
    exact (List.getElem?_eq_some_iff.1 hq).1
  have hne : mb ≠ r := by intro e; subst e; rw [h1] at h3; cases h3
  rcases run_next_at (P := Try.prog) w ty r mb ch.length c0 seen _ _ h3 h1 hborn h2 with ⟨h0, hr⟩ | ⟨e, he, w1, hw, hr⟩
  · left
    refine ⟨fun i hi => ?_, hr⟩
    have := Go.all_seen _ seen h0 { key := .string (keyOf ch[i].1), val := .int .i64 ch[i].2, born := i } (by
      show _ ∈ ents ch 0
      refine List.mem_of_getElem? (i := i) ?_
      rw [ents_born, List.getElem?_eq_getElem hi]; simp)
    exact this
  · right
    obtain ⟨hem, hes⟩ := mem_left he
    obtain ⟨i, ⟨k, c⟩, hq, rfl⟩ := ents_mem (by simpa using hem)
    have hr1 : w1.heap[r]? = some (.mapIter (some mb) ch.length seen c0) := by rcases hw with rfl | rfl <;> exact h3
    have hb1 : w1.heap[mb]? = some (.map (ents ch 0).toArray ch.length) := by rcases hw with rfl | rfl <;> exact h1
    have hset := MapKept.heap_set (o' := .mapIter (some mb) ch.length (seen.push i) ch.length) hr1
    have hb' : (ChangeMaps.setBlock w1 r (.mapIter (some mb) ch.length (seen.push i) ch.length)).heap[mb]? = some (.map (ents ch 0).toArray ch.length) := (hset.2 mb hne).trans hb1
    have hI : IterAt (ChangeMaps.setBlock w1 r (.mapIter (some mb) ch.length (seen.push i) ch.length)) r mb ch (seen.push i) := ⟨hb', ch.length, Nat.le_refl _, hset.1⟩
    refine ⟨i, k, c, _, hq, hes, hr, hI, ?_, ?_, ?_⟩
    · have hx : ∀ k, k < r → (w1.heap.setIfInBounds r (.mapIter (some mb) ch.length (seen.push i) ch.length))[k]? = w1.heap[k]? := fun k hk => hset.2 k (by omega)
      rcases hw with rfl | rfl <;> exact ⟨rfl, rfl, rfl, by show _ ≤ (Array.setIfInBounds _ _ _).size; rw [Array.size_setIfInBounds]; exact Nat.le_refl _, fun k hk => hx k hk⟩
    · rw [hI.leftN, hl]
      exact left_shrinks _ seen _ he
    · exact run_entry_at _ r mb ch.length seen _ _ _ hset.1 hb' hem (by simpa using ents_nodup ch)

/-- Does a place, or one below it, hold a state? -/
def underF (all : List PB) (s : Int) : Nat → Nat → Bool
  | 0, _ => false
  | n + 1, i => match all[i]? with
    | some (.leaf t) => (t : Int) == s
    | some (.node _ ch) => ch.any (fun q => underF all s n q.2)
    | none => false
theorem underF_node {all : List PB} {s : Int} {n i : Nat} {b : List Int} {ch : List (List Int × Nat)} (h : all[i]? = some (PB.node b ch)) : underF all s (n + 1) i = ch.any (fun q => underF all s n q.2) := by
  rw [underF, h]
/-- Children stand behind their parents. -/
def Sane (all : List PB) : Prop := ∀ (i : Nat) (b : List Int) (ch : List (List Int × Nat)), all[i]? = some (PB.node b ch) → ∀ q ∈ ch, i < q.2 ∧ q.2 < all.length
theorem underF_fuel {all : List PB} {s : Int} (hs : Sane all) : ∀ n m i, all.length - i ≤ n → all.length - i ≤ m → i < all.length → underF all s n i = underF all s m i := by
  intro n
  induction n with
  | zero => intro m i h1 h2 h3; omega
  | succ n ih =>
    intro m i h1 h2 h3
    cases m with
    | zero => omega
    | succ m =>
      unfold underF
      cases h : all[i]? with
      | none => rfl
      | some g =>
        cases g with
        | leaf t => rfl
        | node b ch =>
          simp only
          apply Bool.eq_iff_iff.2
          simp only [List.any_eq_true]
          constructor
          · rintro ⟨q, hq, hu⟩
            have := hs i b ch h q hq
            exact ⟨q, hq, by rw [← ih m q.2 (by omega) (by omega) (by omega)]; exact hu⟩
          · rintro ⟨q, hq, hu⟩
            have := hs i b ch h q hq
            exact ⟨q, hq, by rw [ih m q.2 (by omega) (by omega) (by omega)]; exact hu⟩
def underP (all : List PB) (s : Int) (i : Nat) : Bool := underF all s all.length i
def UnderR (w : World) (r : Bool) (e : Ending) (w' : World) : Prop := e = .returned (.bool r) ∧ Below w.heap.size w w'

set_option maxRecDepth 20000 in
set_option maxHeartbeats 4000000 in
theorem tree_under (F : Nat → Prop) (T : Nat) (p : PT) (s : Int) (hsane : Sane p.all) : ∀ (n : Nat) (w : World) (i : Nat), p.all.length - i ≤ n → i < p.all.length → TreeAt w F T p →
    Calls Try.prog 118 #[.pointer (some ⟨T, 0, none⟩), .int .i64 i, .int .i64 s] w (UnderR w (underF p.all s n i)) := by
  intro n
  induction n with
  | zero => intro w i h1 h2 ht; omega
  | succ n ih =>
  intro w i hn hi ht
  have HT := Lib.hid ht
  obtain ⟨vall, vacc, vplace, vword, vaccs, gall, h⟩ := ht
  have hp' : i < gall.length := by rw [← h.pall] at hi; simpa using hi
  have hlen := h.lall
  have c6 := h.c6
  obtain ⟨r, hr⟩ : ∃ r, underF p.all s (n + 1) i = r := ⟨_, rfl⟩
  rw [hr]
  have Hr := Lib.hid hr
  clear hr
  obtain ⟨Aa, ca, rfl⟩ := own_slice h.all
  obtain ⟨g, hg⟩ : ∃ g, gall[i]? = some g := ⟨_, List.getElem?_eq_getElem hp'⟩
  have hpb : p.all[i]? = some g.pb := by rw [← h.pall, List.getElem?_map, hg]; rfl
  obtain ⟨ga, rfl, hcell, _⟩ := own_cell h.all i (v := g.val) (by simp [hg])
  have Hih := Lib.hid ih
  have Hsane := Lib.hid hsane
  have hi63 : i ≤ 9223372036854775807 := by omega
  clear ih hsane
  cases g with
  | leaf t =>
    have e : r = ((t : Int) == s) := by rw [← Hr.out]; unfold underF; rw [hpb]; rfl
    subst e
    have hta := ta_leaf t
    simp only [GB.val] at hcell
    clear h hg Hr hpb
    go_enter Try.func118, Try.ntmps118
    go_wp2_with fail
    go_ret
    exact ⟨rfl, below_alloc ..⟩
  | node nb mb vby b ch =>
    have e : r = ch.any (fun q => underF p.all s n q.2) := by rw [← Hr.out]; exact underF_node hpb
    have He := Lib.hid e
    have hmem := List.mem_of_getElem? hg
    obtain ⟨n1, n2, n3, n4, n5⟩ := h.nodes _ _ _ _ _ hmem
    have y1 := cell_of_block n1 1 rfl
    have hta := ta_leaf_node ⟨nb, 0, none⟩
    have htb := ta_node ⟨nb, 0, none⟩
    obtain ⟨hra, hit⟩ := IterAt.start n2
    have Hit := Lib.hid hit
    have Hn2 := Lib.hid n2
    simp only [GB.val] at hcell
    clear h hg Hr n1 n2 n3 n4 n5 e hmem hit
    go_enter Try.func118, Try.ntmps118
    go_wp2_with fail
    have Hx := Lib.hid hpb
    have Hi := Lib.hid hi
    have HN := Lib.hid hn
    clear hpb hi hn
    go_loopw [10] (fun _ wr => ∃ seen : Array Nat, Hid (IterAt wr w.heap.size mb ch seen) ∧ Hid (Below w.heap.size w wr) ∧ Hid (∀ (i : Nat) (k : List Int) (c : Nat), seen.contains i = true → ch[i]? = some (k, c) → underF p.all s n c = false)) (fun _ wr => leftN wr w.heap.size ch)
    case atStart => exact ⟨#[], Hit, below_alloc .., fun i k c e => by simp at e⟩
    case round =>
      obtain ⟨seen, HI, HB, HS⟩ := hrel
      rcases HI.out.next 0 with ⟨hall, hnx⟩ | ⟨j, k, c, wn, hq, hns, hnx, hI2, hB2, hlt, hen⟩
      · have e : r = false := by
          rw [He.out]
          apply Bool.eq_false_iff.2
          rw [ne_eq, List.any_eq_true]
          rintro ⟨q, hq, hu⟩
          obtain ⟨i, hi⟩ := List.getElem?_of_mem hq
          rw [HS.out i q.1 q.2 (hall i (List.getElem?_eq_some_iff.1 hi).1) hi] at hu
          cases hu
        subst e
        clear hall
        go_wp2_with fail
        go_ret
        exact ⟨rfl, HB.out⟩
      · have Hq := Lib.hid hq
        have Hlt := Lib.hid hlt
        have HI2 := Lib.hid hI2
        have HB2 := Lib.hid hB2
        clear hq hns hlt hI2 hB2
        go_wp2_with fail
        have hsn := Hsane.out i b ch Hx.out (k, c) (List.mem_of_getElem? Hq.out)
        have hbn : Below w.heap.size w wn := below_same HB.out HB2.out
        have hN := HN.out
        refine (Hih.out wn c (by simp only at hsn; omega) hsn.2 (HT.out.below hbn)).mono ?_
        rintro e w2 ⟨rfl, hb2⟩
        cases hu : underF p.all s n c with
        | true =>
          have e : r = true := by
            rw [He.out, List.any_eq_true]
            exact ⟨(k, c), List.mem_of_getElem? Hq.out, hu⟩
          subst e
          clear hN hsn hu hnx hen
          go_wp2_with fail
          go_ret
          exact ⟨rfl, below_then hbn hb2⟩
        | false =>
          have Hu := Lib.hid hu
          clear hN hsn hu hnx hen
          go_wp2_with fail
          go_roundw
          case rel =>
            refine ⟨seen.push j, HI2.out.keep hb2, below_then hbn hb2, fun i' k' c' hc hq' => ?_⟩
            rw [contains_push] at hc
            cases hh : seen.contains i' with
            | true => exact HS.out i' k' c' hh hq'
            | false =>
              rw [hh, Bool.false_or, beq_iff_eq] at hc
              subst hc
              rw [Hq.out] at hq'
              injection hq' with hq'
              injection hq' with _ e2
              rw [← e2]; exact Hu.out
          case measure =>
            rw [(HI2.out.keep hb2).leftN, ← HI2.out.leftN]
            exact Hlt.out
end Go.Proofs.Ytoafjmfnnbpnoaa
