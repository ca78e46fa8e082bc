/-
  What the tree's Sift computes; how the tree's object is told again where some of its blocks were written.
-/
import Derived.Test.YtoafjmfnnbpnoaaTR3
set_option linter.unusedVariables false
set_option linter.unusedSimpArgs false
namespace Go.Proofs.Ytoafjmfnnbpnoaa
open Go Go.RowKit

theorem heap_setCell_same {w : World} {b i : Nat} {cs : Array Value} {e : TypeId} {fr : Nat × Nat} (h : w.heap[b]? = some (.cells cs e fr)) (v : Value) :
    (w.setCell ⟨b, i, none⟩ v).heap[b]? = some (.cells (cs.setIfInBounds i v) e fr) := by
  simp only [World.setCell, Array.getElem?_modify, h]
  simp
theorem heap_setCell_other {w : World} {a : Addr} (v : Value) {k : Nat} (h : k ≠ a.block) : (w.setCell a v).heap[k]? = w.heap[k]? := Below.heap_setCell w a v k h
theorem size_setCell (w : World) (a : Addr) (v : Value) : (w.setCell a v).heap.size = w.heap.size := by simp [World.setCell]

section
variable {w : World} {F : Nat → Prop} {T : Nat} {p : PT} {vall vacc vplace vword : Value} {vaccs : List Value} {gall : List GB}
theorem own_block_lt {B : Nat} {e : TypeId} {sz n : Nat} {v : Value} {ys : List Value} (h : w.ownsRow B e sz v n ys) {k : Nat} (hk : v.ownBlock = some k) : ∃ cur, w.heap[k]? = some (.cells cur e (0, 0)) := by
  rcases h.2 with ⟨rfl, _⟩ | ⟨g, cap, cur, rfl, hb, hh, _⟩
  · cases hk
  · injection hk with hk; subst hk; exact ⟨cur, hh⟩

/-- More blocks are let in. -/
theorem TreeG.grow (h : TreeG w F T p vall vacc vplace vword vaccs gall) {F' : Nat → Prop} (hF : ∀ k, F k → F' k) (hl : ∀ k, F' k → k < w.heap.size) : TreeG w F' T p vall vacc vplace vword vaccs gall where
  blk := h.blk
  all := h.all
  pall := h.pall
  acc := h.acc
  accl := h.accl
  accs := fun i hi => (h.accs i hi).keep (fun _ _ _ => rfl) (fun k ho _ => ⟨hF k ho.1, ho.2⟩)
  place := h.place
  word := h.word.keep (fun _ _ _ => rfl) (fun k ho _ => ⟨hF k ho.1, ho.2⟩)
  nodes := fun nb mb vby b c hm => by
    obtain ⟨h1, h2, h3, h4, h5⟩ := h.nodes nb mb vby b c hm
    exact ⟨h1, h2, h3.keep (fun _ _ _ => rfl) (fun k ho _ => ⟨hF k ho.1, ho.2⟩), hF _ h4, hF _ h5⟩
  mbs := h.mbs
  fmut := fun k hk => hF k (h.fmut k hk)
  flt := hl

theorem TreeG.ne_all (h : TreeG w F T p vall vacc vplace vword vaccs gall) {k : Nat} (hk : vall.ownBlock = some k) : k ≠ T := by
  rintro rfl
  obtain ⟨cur, e⟩ := own_block_lt h.all hk
  rw [h.blk] at e; simp at e
theorem TreeG.ne_acc (h : TreeG w F T p vall vacc vplace vword vaccs gall) {k : Nat} (hk : vacc.ownBlock = some k) : k ≠ T := by
  rintro rfl
  obtain ⟨cur, e⟩ := own_block_lt h.acc hk
  rw [h.blk] at e; simp at e
theorem TreeG.ne_place (h : TreeG w F T p vall vacc vplace vword vaccs gall) {k : Nat} (hk : vplace.ownBlock = some k) : k ≠ T := by
  rintro rfl
  obtain ⟨cur, e⟩ := own_block_lt h.place hk
  rw [h.blk] at e; simp at e
theorem TreeG.ne_node (h : TreeG w F T p vall vacc vplace vword vaccs gall) {nb mb : Nat} {vby : Value} {b : List Int} {c : List (List Int × Nat)} (hm : GB.node nb mb vby b c ∈ gall) : nb ≠ T ∧ mb ≠ T := by
  obtain ⟨h1, h2, _⟩ := h.nodes nb mb vby b c hm
  constructor
  · rintro rfl; rw [h.blk] at h1; simp at h1
  · rintro rfl; rw [h.blk] at h2; cases h2

/-- The tree's own block was written, nothing else of it. -/
theorem TreeG.reT (h : TreeG w F T p vall vacc vplace vword vaccs gall) {w' : World} {p' : PT} {vword' : Value}
    (hT : w'.heap[T]? = some (.cells (treeCells p' vall vacc vplace vword') 143 (0, 0))) (hk : ∀ k, k < w.heap.size → k ≠ T → w'.heap[k]? = w.heap[k]?) (hsz : w.heap.size ≤ w'.heap.size)
    (h1 : p'.all = p.all) (h2 : p'.access = p.access) (h3 : p'.place = p.place) (hw : SI w' (fun k => F k ∧ ¬ MutB T vall vacc vplace gall k) vword' p'.word) : TreeG w' F T p' vall vacc vplace vword' vaccs gall where
  blk := hT
  all := own_keep h.all fun k e hl => hk k hl (h.ne_all e)
  pall := by rw [h1, h.pall]
  acc := own_keep h.acc fun k e hl => hk k hl (h.ne_acc e)
  accl := by rw [h2, h.accl]
  accs := fun i hi => by rw [h2]; exact (h.accs i hi).keep (fun k ho hl => hk k hl (fun e => ho.2 (.inl e))) (fun _ h _ => h)
  place := by rw [h3]; exact own_keep h.place fun k e hl => hk k hl (h.ne_place e)
  word := hw
  nodes := fun nb mb vby b c hm => by
    obtain ⟨h1, h2, h3, h4, h5⟩ := h.nodes nb mb vby b c hm
    have hn := h.ne_node hm
    exact ⟨blk_keep h1 (fun hl => hk _ hl hn.1), blk_keep h2 (fun hl => hk _ hl hn.2), h3.keep (fun k ho hl => hk k hl (fun e => ho.2 (.inl e))) (fun _ h _ => h), h4, h5⟩
  mbs := h.mbs
  fmut := h.fmut
  flt := fun k hf => Nat.lt_of_lt_of_le (h.flt k hf) hsz
end

/-- What Sift does. -/
def siftP (p : PT) (u : List Int) : PT × Int := if (checkF u p.k).2 ≠ 0 then (p, (checkF u p.k).2) else ({ p with busy := true, word := u, pos := 0 }, 0)
def StepR (w : World) (F : Nat → Prop) (T : Nat) (r : PT × Int) (e : Ending) (w' : World) : Prop :=
  e = .returned (.int .i64 r.2) ∧ Mod F w w' ∧ ∃ F', (∀ k, F' k → F k ∨ w.heap.size ≤ k) ∧ (∀ k, F k → F' k) ∧ TreeAt w' F' T r.1

set_option maxRecDepth 20000 in
theorem tree_Sift (w : World) (F : Nat → Prop) (T : Nat) (p : PT) (v : Value) (u : List Int) (ok : Nat → Prop) (ht : TreeAt w F T p) (hu : SI w ok v u) (hul : u.length ≤ 100000) :
    Calls Try.prog 23 #[.pointer (some ⟨T, 0, none⟩), v] w (StepR w F T (siftP p u)) := by
  obtain ⟨vall, vacc, vplace, vword, vaccs, gall, h⟩ := ht
  have c1 := h.c1
  have Hu := Lib.hid hu
  obtain ⟨A, c, rfl, _, _⟩ := hu.open
  obtain ⟨r, hr⟩ : ∃ r, siftP p u = r := ⟨_, rfl⟩
  rw [hr]
  have Hr := Lib.hid hr
  obtain ⟨pu, hpu⟩ : ∃ q, checkF u p.k = q := ⟨_, rfl⟩
  have Hpu := Lib.hid hpu
  have HT := Lib.hid h
  clear hr hpu hu
  by_cases h1 : pu.2 = 0
  · have hb1 : (pu.2 != 0) = false := by simp [h1]
    have e : r = ({ p with busy := true, word := u, pos := 0 }, 0) := by rw [← Hr.out]; unfold siftP; rw [Hpu.out, if_neg (by simp [h1])]
    subst e
    have c9 := h.c9
    have c10 := h.c10
    have c11 := h.c11
    have f9 := h.fz 9
    have f10 := h.fz 10
    have f11 := h.fz 11
    clear Hr h h1
    go_enter Try.func23, Try.ntmps23
    go_wp2_with fail
    refine (word_Check _ u p.k _ _ Hu.out).mono ?_
    rintro e w1 ⟨he, rfl⟩
    rw [Hpu.out] at he
    subst he
    go_wp2_with fail
    refine (slices_Clone _ u _ _ Hu.out (by omega)).mono ?_
    rintro e w1 ⟨v1, rfl, ho, hb⟩
    obtain ⟨A5, c5, rfl⟩ := own_slice ho
    have h1 := HT.out.below hb
    have H1 := Lib.hid h1
    have Ho := Lib.hid ho
    have Hb := Lib.hid hb
    have d9 := h1.c9
    have d10 := h1.c10
    have d11 := h1.c11
    have g9 := h1.fz 9
    have g10 := h1.fz 10
    have g11 := h1.fz 11
    clear h1 ho hb c9 c10 c11 f9 f10 f11 c1
    go_wp2_with fail
    go_ret
    refine ⟨rfl, ?_, ?_⟩
    · have fT := HT.out.fmut T (.inl rfl)
      exact (((Mod.of_below F Hb.out).setCell (fun _ => fT) _).setCell (fun _ => fT) _).setCell (fun _ => fT) _
    · have fT := HT.out.flt _ (HT.out.fmut T (.inl rfl))
      have hsz := Hb.out.size
      refine ⟨fun k => F k ∨ (w.heap.size ≤ k ∧ k < w1.heap.size), fun k hk => hk.imp id (·.1), fun k hk => .inl hk, vall, vacc, vplace, .slice A5 u.length c5, vaccs, gall, ?_⟩
      have hg := H1.out.grow (F' := fun k => F k ∨ (w.heap.size ≤ k ∧ k < w1.heap.size)) (fun k hk => .inl hk) (fun k hk => hk.elim (H1.out.flt k) (·.2))
      have b1 := heap_setCell_same (i := 9) H1.out.blk (.bool true)
      have b2 := heap_setCell_same (i := 10) b1 (.slice A5 u.length c5)
      have b3 := heap_setCell_same (i := 11) b2 (.int .i64 0)
      refine hg.reT (p' := { p with busy := true, word := u, pos := 0 }) b3 (fun k _ hk => ?_) ?_ rfl rfl rfl ?_
      · rw [heap_setCell_other _ hk, heap_setCell_other _ hk, heap_setCell_other _ hk]
      · rw [size_setCell, size_setCell, size_setCell]; exact Nat.le_refl _
      · refine Ho.out.reads.keep (fun k ho _ => ?_) (fun k ho hl => ⟨.inr ⟨ho.2, hl⟩, fun hm => ?_⟩)
        · have hk : k ≠ T := by have := ho.2; omega
          rw [heap_setCell_other _ hk, heap_setCell_other _ hk, heap_setCell_other _ hk]
        · have := HT.out.flt k (HT.out.fmut k hm)
          have := ho.2
          omega
  · have hb1 : (pu.2 != 0) = true := by simp [h1]
    have e : r = (p, pu.2) := by rw [← Hr.out]; unfold siftP; rw [Hpu.out, if_pos h1]
    subst e
    clear Hr h h1
    go_enter Try.func23, Try.ntmps23
    go_wp2_with fail
    refine (word_Check _ u p.k _ _ Hu.out).mono ?_
    rintro e w1 ⟨he, rfl⟩
    rw [Hpu.out] at he
    subst he
    go_wp2_with fail
    go_ret
    exact ⟨rfl, Mod.refl _ _, F, fun _ => .inl, fun _ h => h, ⟨_, _, _, _, _, _, HT.out⟩⟩
end Go.Proofs.Ytoafjmfnnbpnoaa
