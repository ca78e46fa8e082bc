/-
  How the tree's object is told again where a list of it was gone on with.
-/
import Derived.Test.YtoafjmfnnbpnoaaTR5
set_option linter.unusedVariables false
set_option linter.unusedSimpArgs false
namespace Go.Proofs.Ytoafjmfnnbpnoaa
open Go Go.RowKit

theorem own_type_ne {w : World} {B B' : Nat} {e e' : TypeId} {s s' n n' : Nat} {v v' : Value} {xs xs' : List Value} (h : w.ownsRow B e s v n xs) (h' : w.ownsRow B' e' s' v' n' xs') (hne : e ≠ e') {k : Nat} (hk : v.ownBlock = some k) : v'.ownBlock ≠ some k := by
  intro hk'
  obtain ⟨c1, h1⟩ := own_block_lt h hk
  obtain ⟨c2, h2⟩ := own_block_lt h' hk'
  rw [h1] at h2
  injection h2 with h2
  injection h2 with _ h2
  exact hne h2

/-- What only is read stays: what has turned are lists, maps and the tree's own block; what is a list now was one or is new. -/
theorem SI.ro {w w' : World} {F F' M M' : Nat → Prop} {v : Value} {xs : List Int} (h : SI w (fun k => F k ∧ ¬ M k) v xs) (hk : ∀ k, k < w.heap.size → ¬ M k → w'.heap[k]? = w.heap[k]?)
    (hF : ∀ k, F k → F' k) (hM : ∀ k, M' k → M k ∨ w.heap.size ≤ k) : SI w' (fun k => F' k ∧ ¬ M' k) v xs :=
  h.keep (fun k ho hl => hk k hl ho.2) (fun k ho hl => ⟨hF k ho.1, fun m => (hM k m).elim ho.2 (fun h => by omega)⟩)

section
variable {w : World} {F : Nat → Prop} {T : Nat} {p : PT} {vall vacc vplace vword : Value} {vaccs : List Value} {gall : List GB}

theorem TreeG.map_ne (h : TreeG w F T p vall vacc vplace vword vaccs gall) {nb mb : Nat} {vby : Value} {b : List Int} {c : List (List Int × Nat)} (hm : GB.node nb mb vby b c ∈ gall) {B : Nat} {e : TypeId} {sz n : Nat} {v : Value} {ys : List Value} (ho : w.ownsRow B e sz v n ys) : v.ownBlock ≠ some mb := by
  intro hk
  obtain ⟨cur, e⟩ := own_block_lt ho hk
  rw [(h.nodes _ _ _ _ _ hm).map] at e; cases e
theorem TreeG.nb_ne (h : TreeG w F T p vall vacc vplace vword vaccs gall) {nb mb : Nat} {vby : Value} {b : List Int} {c : List (List Int × Nat)} (hm : GB.node nb mb vby b c ∈ gall) {B : Nat} {e : TypeId} {sz n : Nat} {v : Value} {ys : List Value} (ho : w.ownsRow B e sz v n ys) (he : e ≠ 154) : v.ownBlock ≠ some nb := by
  intro hk
  obtain ⟨cur, e'⟩ := own_block_lt ho hk
  rw [(h.nodes _ _ _ _ _ hm).blk] at e'
  injection e' with e'
  injection e' with _ e'
  exact he e'.symm

/-- 'access' was gone on with. -/
theorem TreeG.pushAcc (h : TreeG w F T p vall vacc vplace vword vaccs gall) {w1 w2 : World} {vu vacc' : Value} {u : List Int} (hb : Below w.heap.size w w1) (hu : SI w1 (fun k => w.heap.size ≤ k ∧ k < w1.heap.size) vu u)
    (hg : w1.grownBy w2 vacc.ownBlock) (hown : w2.ownsRow 0 29 1 vacc' (vaccs.length + 1) (vaccs ++ [vu])) (hloc : vacc'.ownBlock = vacc.ownBlock ∨ ∃ k, vacc'.ownBlock = some k ∧ w1.heap.size ≤ k) :
    TreeG (w2.setCell ⟨T, 7, none⟩ vacc') (fun k => F k ∨ (w.heap.size ≤ k ∧ k < w2.heap.size)) T { p with access := p.access ++ [u] } vall vacc' vplace vword (vaccs ++ [vu]) gall ∧ Mod F w (w2.setCell ⟨T, 7, none⟩ vacc') := by
  have hTlt := h.flt T (h.fmut T (.inl rfl))
  have hs1 := hb.size
  have hs2 := hg.size
  have hw2 : ∀ k, k < w.heap.size → vacc.ownBlock ≠ some k → w2.heap[k]? = w.heap[k]? := fun k hk hn => (hg.block k (by omega) (fun e => hn e.symm)).trans (hb.block k hk)
  have hw3 : ∀ k, k < w.heap.size → vacc.ownBlock ≠ some k → k ≠ T → (w2.setCell ⟨T, 7, none⟩ vacc').heap[k]? = w.heap[k]? := fun k hk hn hT => (heap_setCell_other _ hT).trans (hw2 k hk hn)
  have hTne : vacc.ownBlock ≠ some T := fun e => h.ne_acc e rfl
  have hMM : ∀ k, MutB T vall vacc' vplace gall k → MutB T vall vacc vplace gall k ∨ w.heap.size ≤ k := by
    rintro k (hk | hk | hk | hk | hk)
    · exact .inl (.inl hk)
    · exact .inl (.inr (.inl hk))
    · rcases hloc with e | ⟨k', e, hl⟩
      · exact .inl (.inr (.inr (.inl (e ▸ hk))))
      · rw [hk] at e; injection e with e; exact .inr (by omega)
    · exact .inl (.inr (.inr (.inr (.inl hk))))
    · exact .inl (.inr (.inr (.inr (.inr hk))))
  have hro : ∀ {v : Value} {xs : List Int}, SI w (fun k => F k ∧ ¬ MutB T vall vacc vplace gall k) v xs → SI (w2.setCell ⟨T, 7, none⟩ vacc') (fun k => (F k ∨ (w.heap.size ≤ k ∧ k < w2.heap.size)) ∧ ¬ MutB T vall vacc' vplace gall k) v xs := fun hsi =>
    hsi.ro (F' := fun k => F k ∨ (w.heap.size ≤ k ∧ k < w2.heap.size)) (fun k hk hm => hw3 k hk (fun e => hm (.inr (.inr (.inl e)))) (fun e => hm (.inl e))) (fun k hk => .inl hk) hMM
  refine ⟨?_, ?_⟩
  · exact {
      blk := by
        have := heap_setCell_same (i := 7) ((hw2 T hTlt hTne).trans h.blk) vacc'
        exact this
      all := own_keep h.all fun k e hl => hw3 k hl (own_type_ne h.all h.acc (by decide) e) (h.ne_all e)
      pall := h.pall
      acc := by
        simp only [List.length_append, List.length_singleton]
        refine own_keep hown fun k e hl => heap_setCell_other _ ?_
        rcases hloc with e' | ⟨k', e', hl'⟩
        · rw [e'] at e; exact h.ne_acc e
        · rw [e] at e'; injection e' with e'; show k ≠ T; omega
      accl := by simp [h.accl]
      accs := fun i hi => by
        by_cases hi' : i < vaccs.length
        · rw [List.getElem_append_left hi']
          have : gL (p.access ++ [u]) i = gL p.access i := by
            have := h.accl
            rw [gL_get _ _ (by simp; omega), gL_get _ _ (by omega), List.getElem_append_left (by omega)]
          show SI _ _ _ (gL (p.access ++ [u]) i)
          rw [this]
          exact hro (h.accs i hi')
        · have hi2 : i = vaccs.length := by simp at hi; omega
          subst hi2
          have : gL (p.access ++ [u]) vaccs.length = u := by
            have := h.accl
            rw [gL_get _ _ (by simp; omega)]
            simp [this]
          show SI _ _ _ (gL (p.access ++ [u]) vaccs.length)
          rw [this]
          simp only [List.getElem_append_right (Nat.le_refl _), Nat.sub_self, List.getElem_singleton]
          refine hu.keep (fun k ho hl => ?_) (fun k ho hl => ⟨.inr ⟨ho.1, by omega⟩, fun hm => ?_⟩)
          all_goals have ho1 : w.heap.size ≤ k := ho.1
          · have hkT : k ≠ T := by omega
            rw [heap_setCell_other _ hkT]
            refine hg.block k hl (fun e => ?_)
            have := h.flt k (h.fmut k (.inr (.inr (.inl e.symm))))
            omega
          · rcases hm with hk | hk | hk | hk | hk
            · omega
            · have := h.flt k (h.fmut k (.inr (.inl hk))); omega
            · rcases hloc with e | ⟨k', e, hl'⟩
              · have := h.flt k (h.fmut k (.inr (.inr (.inl (e ▸ hk))))); omega
              · rw [hk] at e; injection e with e; omega
            · have := h.flt k (h.fmut k (.inr (.inr (.inr (.inl hk))))); omega
            · have := h.flt k (h.fmut k (.inr (.inr (.inr (.inr hk))))); omega
      place := own_keep h.place fun k e hl => hw3 k hl (own_type_ne h.place h.acc (by decide) e) (h.ne_place e)
      word := hro h.word
      nodes := fun nb mb vby b c hm => by
        have hn := h.ne_node hm
        obtain ⟨h1, h2, h3, h4, h5⟩ := h.nodes nb mb vby b c hm
        exact ⟨blk_keep h1 (fun hl => hw3 _ hl (h.nb_ne hm h.acc (by decide)) hn.1), blk_keep h2 (fun hl => hw3 _ hl (h.map_ne hm h.acc) hn.2), hro h3, .inl h4, .inl h5⟩
      mbs := h.mbs
      fmut := fun k hk => by
        rcases hk with hk | hk | hk | hk | hk
        · exact .inl (h.fmut k (.inl hk))
        · exact .inl (h.fmut k (.inr (.inl hk)))
        · rcases hloc with e | ⟨k', e, hl'⟩
          · exact .inl (h.fmut k (.inr (.inr (.inl (e ▸ hk)))))
          · obtain ⟨cur, hc⟩ := own_block_lt hown hk
            have := (Array.getElem?_eq_some_iff.1 hc).1
            rw [hk] at e; injection e with e
            exact .inr ⟨by omega, this⟩
        · exact .inl (h.fmut k (.inr (.inr (.inr (.inl hk)))))
        · exact .inl (h.fmut k (.inr (.inr (.inr (.inr hk)))))
      flt := fun k hk => by
        rw [size_setCell]
        rcases hk with hk | hk
        · have := h.flt k hk; omega
        · exact hk.2 }
  · refine ⟨hg.os.trans hb.os, hg.tape.trans hb.tape, hg.output.trans hb.output, by rw [size_setCell]; omega, fun k hk hF => hw3 k hk (fun e => hF (h.fmut k (.inr (.inr (.inl e))))) (fun e => hF (e ▸ h.fmut T (.inl rfl)))⟩
end
end Go.Proofs.Ytoafjmfnnbpnoaa
