/-
  How the tree's object is told again where a list of it was gone on with (the places, the nodes).
-/
import Derived.Test.YtoafjmfnnbpnoaaTR6
set_option linter.unusedVariables false
set_option linter.unusedSimpArgs false
namespace Go.Proofs.Ytoafjmfnnbpnoaa
open Go Go.RowKit
section
variable {w : World} {F : Nat → Prop} {T : Nat} {p : PT} {vall vacc vplace vword : Value} {vaccs : List Value} {gall : List GB}

/-- 'place' was gone on with. -/
theorem TreeG.pushPlace (h : TreeG w F T p vall vacc vplace vword vaccs gall) {w1 w2 : World} {vplace' : Value} {n : Nat} (hb : Below w.heap.size w w1)
    (hg : w1.grownBy w2 vplace.ownBlock) (hown : w2.ownsRow 0 3 1 vplace' (p.place.length + 1) (ints (p.place.map Int.ofNat) ++ [.int .i64 n])) (hloc : vplace'.ownBlock = vplace.ownBlock ∨ ∃ k, vplace'.ownBlock = some k ∧ w1.heap.size ≤ k) :
    TreeG (w2.setCell ⟨T, 8, none⟩ vplace') (fun k => F k ∨ (w.heap.size ≤ k ∧ k < w2.heap.size)) T { p with place := p.place ++ [n] } vall vacc vplace' vword vaccs gall ∧ Mod F w (w2.setCell ⟨T, 8, none⟩ vplace') := by
  have hTlt := h.flt T (h.fmut T (.inl rfl))
  have hs1 := hb.size
  have hs2 := hg.size
  have hw2 : ∀ k, k < w.heap.size → vplace.ownBlock ≠ some k → w2.heap[k]? = w.heap[k]? := fun k hk hn => (hg.block k (by omega) (fun e => hn e.symm)).trans (hb.block k hk)
  have hw3 : ∀ k, k < w.heap.size → vplace.ownBlock ≠ some k → k ≠ T → (w2.setCell ⟨T, 8, none⟩ vplace').heap[k]? = w.heap[k]? := fun k hk hn hT => (heap_setCell_other _ hT).trans (hw2 k hk hn)
  have hTne : vplace.ownBlock ≠ some T := fun e => h.ne_place e rfl
  have hMM : ∀ k, MutB T vall vacc vplace' gall k → MutB T vall vacc vplace gall k ∨ w.heap.size ≤ k := by
    rintro k (hk | hk | hk | hk | hk)
    · exact .inl (.inl hk)
    · exact .inl (.inr (.inl hk))
    · exact .inl (.inr (.inr (.inl hk)))
    · rcases hloc with e | ⟨k', e, hl⟩
      · exact .inl (.inr (.inr (.inr (.inl (e ▸ hk)))))
      · rw [hk] at e; injection e with e; exact .inr (by omega)
    · exact .inl (.inr (.inr (.inr (.inr hk))))
  have hro : ∀ {v : Value} {xs : List Int}, SI w (fun k => F k ∧ ¬ MutB T vall vacc vplace gall k) v xs → SI (w2.setCell ⟨T, 8, none⟩ vplace') (fun k => (F k ∨ (w.heap.size ≤ k ∧ k < w2.heap.size)) ∧ ¬ MutB T vall vacc vplace' gall k) v xs := fun hsi =>
    hsi.ro (F' := fun k => F k ∨ (w.heap.size ≤ k ∧ k < w2.heap.size)) (fun k hk hm => hw3 k hk (fun e => hm (.inr (.inr (.inr (.inl e))))) (fun e => hm (.inl e))) (fun k hk => .inl hk) hMM
  refine ⟨?_, ?_⟩
  · exact {
      blk := heap_setCell_same (i := 8) ((hw2 T hTlt hTne).trans h.blk) vplace'
      all := own_keep h.all fun k e hl => hw3 k hl (own_type_ne h.all h.place (by decide) e) (h.ne_all e)
      pall := h.pall
      acc := own_keep h.acc fun k e hl => hw3 k hl (own_type_ne h.acc h.place (by decide) e) (h.ne_acc e)
      accl := h.accl
      accs := fun i hi => hro (h.accs i hi)
      place := by
        have : ints ((p.place ++ [n]).map Int.ofNat) = ints (p.place.map Int.ofNat) ++ [.int .i64 n] := by simp [ints]
        show World.ownsRow _ _ _ _ _ (p.place ++ [n]).length (ints ((p.place ++ [n]).map Int.ofNat))
        rw [this, List.length_append, List.length_singleton]
        refine own_keep hown fun k e hl => heap_setCell_other _ ?_
        rcases hloc with e' | ⟨k', e', hl'⟩
        · rw [e'] at e; exact h.ne_place e
        · rw [e] at e'; injection e' with e'; show k ≠ T; omega
      word := hro h.word
      nodes := fun nb mb vby b c hm => by
        have hn := h.ne_node hm
        obtain ⟨h1, h2, h3, h4, h5⟩ := h.nodes nb mb vby b c hm
        exact ⟨blk_keep h1 (fun hl => hw3 _ hl (h.nb_ne hm h.place (by decide)) hn.1), blk_keep h2 (fun hl => hw3 _ hl (h.map_ne hm h.place) hn.2), hro h3, .inl h4, .inl h5⟩
      mbs := h.mbs
      fmut := fun k hk => by
        rcases hk with hk | hk | hk | hk | hk
        · exact .inl (h.fmut k (.inl hk))
        · exact .inl (h.fmut k (.inr (.inl hk)))
        · exact .inl (h.fmut k (.inr (.inr (.inl hk))))
        · rcases hloc with e | ⟨k', e, hl'⟩
          · exact .inl (h.fmut k (.inr (.inr (.inr (.inl (e ▸ hk))))))
          · obtain ⟨cur, hc⟩ := own_block_lt hown hk
            have := (Array.getElem?_eq_some_iff.1 hc).1
            rw [hk] at e; injection e with e
            exact .inr ⟨by omega, this⟩
        · exact .inl (h.fmut k (.inr (.inr (.inr (.inr hk)))))
      flt := fun k hk => by
        rw [size_setCell]
        rcases hk with hk | hk
        · have := h.flt k hk; omega
        · exact hk.2 }
  · refine ⟨hg.os.trans hb.os, hg.tape.trans hb.tape, hg.output.trans hb.output, by rw [size_setCell]; omega, fun k hk hF => hw3 k hk (fun e => hF (h.fmut k (.inr (.inr (.inr (.inl e)))))) (fun e => hF (e ▸ h.fmut T (.inl rfl)))⟩

/-- 'all' was gone on with by a leaf. -/
theorem TreeG.pushAll (h : TreeG w F T p vall vacc vplace vword vaccs gall) {w1 w2 : World} {vall' : Value} {s : Nat} (hb : Below w.heap.size w w1)
    (hg : w1.grownBy w2 vall.ownBlock) (hown : w2.ownsRow 0 165 1 vall' (gall.length + 1) (gall.map GB.val ++ [(GB.leaf s).val])) (hloc : vall'.ownBlock = vall.ownBlock ∨ ∃ k, vall'.ownBlock = some k ∧ w1.heap.size ≤ k) :
    TreeG (w2.setCell ⟨T, 6, none⟩ vall') (fun k => F k ∨ (w.heap.size ≤ k ∧ k < w2.heap.size)) T { p with all := p.all ++ [.leaf s] } vall' vacc vplace vword vaccs (gall ++ [.leaf s]) ∧ Mod F w (w2.setCell ⟨T, 6, none⟩ vall') := by
  have hTlt := h.flt T (h.fmut T (.inl rfl))
  have hs1 := hb.size
  have hs2 := hg.size
  have hw2 : ∀ k, k < w.heap.size → vall.ownBlock ≠ some k → w2.heap[k]? = w.heap[k]? := fun k hk hn => (hg.block k (by omega) (fun e => hn e.symm)).trans (hb.block k hk)
  have hw3 : ∀ k, k < w.heap.size → vall.ownBlock ≠ some k → k ≠ T → (w2.setCell ⟨T, 6, none⟩ vall').heap[k]? = w.heap[k]? := fun k hk hn hT => (heap_setCell_other _ hT).trans (hw2 k hk hn)
  have hTne : vall.ownBlock ≠ some T := fun e => h.ne_all e rfl
  have hmem : ∀ g, g ∈ gall ++ [GB.leaf s] → g ∈ gall ∨ g = .leaf s := fun g hg => by simpa using hg
  have hgm : ∀ k, (∃ g ∈ gall ++ [GB.leaf s], g.mb? = some k) → ∃ g ∈ gall, g.mb? = some k := by
    rintro k ⟨g, hg, e⟩
    rcases hmem g hg with hg | rfl
    · exact ⟨g, hg, e⟩
    · cases e
  have hMM : ∀ k, MutB T vall' vacc vplace (gall ++ [.leaf s]) k → MutB T vall vacc vplace gall k ∨ w.heap.size ≤ k := by
    rintro k (hk | hk | hk | hk | hk)
    · exact .inl (.inl hk)
    · rcases hloc with e | ⟨k', e, hl⟩
      · exact .inl (.inr (.inl (e ▸ hk)))
      · rw [hk] at e; injection e with e; exact .inr (by omega)
    · exact .inl (.inr (.inr (.inl hk)))
    · exact .inl (.inr (.inr (.inr (.inl hk))))
    · exact .inl (.inr (.inr (.inr (.inr (hgm k hk)))))
  have hro : ∀ {v : Value} {xs : List Int}, SI w (fun k => F k ∧ ¬ MutB T vall vacc vplace gall k) v xs → SI (w2.setCell ⟨T, 6, none⟩ vall') (fun k => (F k ∨ (w.heap.size ≤ k ∧ k < w2.heap.size)) ∧ ¬ MutB T vall' vacc vplace (gall ++ [.leaf s]) k) v xs := fun hsi =>
    hsi.ro (F' := fun k => F k ∨ (w.heap.size ≤ k ∧ k < w2.heap.size)) (fun k hk hm => hw3 k hk (fun e => hm (.inr (.inl e))) (fun e => hm (.inl e))) (fun k hk => .inl hk) hMM
  refine ⟨?_, ?_⟩
  · exact {
      blk := heap_setCell_same (i := 6) ((hw2 T hTlt hTne).trans h.blk) vall'
      all := by
        have : (gall ++ [GB.leaf s]).map GB.val = gall.map GB.val ++ [(GB.leaf s).val] := by simp
        rw [this, List.length_append, List.length_singleton]
        refine own_keep hown fun k e hl => heap_setCell_other _ ?_
        rcases hloc with e' | ⟨k', e', hl'⟩
        · rw [e'] at e; exact h.ne_all e
        · rw [e] at e'; injection e' with e'; show k ≠ T; omega
      pall := by simp [h.pall, GB.pb]
      acc := own_keep h.acc fun k e hl => hw3 k hl (own_type_ne h.acc h.all (by decide) e) (h.ne_acc e)
      accl := h.accl
      accs := fun i hi => hro (h.accs i hi)
      place := own_keep h.place fun k e hl => hw3 k hl (own_type_ne h.place h.all (by decide) e) (h.ne_place e)
      word := hro h.word
      nodes := fun nb mb vby b c hm => by
        rcases hmem _ hm with hm | hm
        · have hn := h.ne_node hm
          obtain ⟨h1, h2, h3, h4, h5⟩ := h.nodes nb mb vby b c hm
          exact ⟨blk_keep h1 (fun hl => hw3 _ hl (h.nb_ne hm h.all (by decide)) hn.1), blk_keep h2 (fun hl => hw3 _ hl (h.map_ne hm h.all) hn.2), hro h3, .inl h4, .inl h5⟩
        · cases hm
      mbs := by rw [List.filterMap_append]; show (_ ++ []).Nodup; rw [List.append_nil]; exact h.mbs
      fmut := fun k hk => by
        rcases hk with hk | hk | hk | hk | hk
        · exact .inl (h.fmut k (.inl hk))
        · rcases hloc with e | ⟨k', e, hl'⟩
          · exact .inl (h.fmut k (.inr (.inl (e ▸ hk))))
          · obtain ⟨cur, hc⟩ := own_block_lt hown hk
            have := (Array.getElem?_eq_some_iff.1 hc).1
            rw [hk] at e; injection e with e
            exact .inr ⟨by omega, this⟩
        · exact .inl (h.fmut k (.inr (.inr (.inl hk))))
        · exact .inl (h.fmut k (.inr (.inr (.inr (.inl hk)))))
        · exact .inl (h.fmut k (.inr (.inr (.inr (.inr (hgm k hk))))))
      flt := fun k hk => by
        rw [size_setCell]
        rcases hk with hk | hk
        · have := h.flt k hk; omega
        · exact hk.2 }
  · refine ⟨hg.os.trans hb.os, hg.tape.trans hb.tape, hg.output.trans hb.output, by rw [size_setCell]; omega, fun k hk hF => hw3 k hk (fun e => hF (h.fmut k (.inr (.inl e)))) (fun e => hF (e ▸ h.fmut T (.inl rfl)))⟩
end
end Go.Proofs.Ytoafjmfnnbpnoaa
