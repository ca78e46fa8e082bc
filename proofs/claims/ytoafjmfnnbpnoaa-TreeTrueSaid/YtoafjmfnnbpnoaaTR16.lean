/-
  How the tree's object is told again where a leaf gave way to a node, where a state's place was written.
-/
import Derived.Test.YtoafjmfnnbpnoaaTR15
set_option linter.unusedVariables false
set_option linter.unusedSimpArgs false
namespace Go.Proofs.Ytoafjmfnnbpnoaa
open Go Go.RowKit
section
variable {w : World} {F : Nat → Prop} {T : Nat} {p : PT} {vall vacc vplace vword : Value} {vaccs : List Value} {gall : List GB}

theorem filterMap_set_leaf {gall : List GB} {j t nb mb : Nat} {vby : Value} {d : List Int} {c : List (List Int × Nat)} (hj : gall[j]? = some (.leaf t)) (hn : (gall.filterMap GB.mb?).Nodup) (hm : mb ∉ gall.filterMap GB.mb?) :
    ((gall.set j (.node nb mb vby d c)).filterMap GB.mb?).Nodup ∧ ∀ k, k ∈ (gall.set j (.node nb mb vby d c)).filterMap GB.mb? → k ∈ gall.filterMap GB.mb? ∨ k = mb := by
  have hjl := (List.getElem?_eq_some_iff.1 hj).1
  have e1 : gall = gall.take j ++ GB.leaf t :: gall.drop (j + 1) := by
    rw [List.getElem?_eq_getElem hjl] at hj
    injection hj with hj
    conv => lhs; rw [← List.take_append_drop j gall, List.drop_eq_getElem_cons hjl, hj]
  have e2 : gall.filterMap GB.mb? = (gall.take j).filterMap GB.mb? ++ (gall.drop (j + 1)).filterMap GB.mb? := by
    conv => lhs; rw [e1]
    rw [List.filterMap_append, List.filterMap_cons]
    rfl
  have e3 : (gall.set j (.node nb mb vby d c)).filterMap GB.mb? = (gall.take j).filterMap GB.mb? ++ mb :: (gall.drop (j + 1)).filterMap GB.mb? := by
    rw [List.set_eq_take_append_cons_drop, if_pos hjl, List.filterMap_append, List.filterMap_cons]
    rfl
  rw [e2] at hn hm ⊢
  rw [e3]
  refine ⟨(List.perm_middle.nodup_iff).2 (List.nodup_cons.2 ⟨hm, hn⟩), fun k hk => ?_⟩
  have := (List.perm_middle.mem_iff).1 hk
  rcases List.mem_cons.1 this with h | h
  · exact .inr h
  · exact .inl h

theorem TreeG.mem_mb (h : TreeG w F T p vall vacc vplace vword vaccs gall) {k : Nat} : (∃ g ∈ gall, g.mb? = some k) ↔ k ∈ gall.filterMap GB.mb? := (List.mem_filterMap).symm

/-- A leaf gave way to a new node with no child. -/
theorem TreeG.setNode {ga ca : Nat} (h : TreeG w F T p (.slice (some ⟨ga, 0, none⟩) gall.length ca) vacc vplace vword vaccs gall) {w2 : World} {j t nb mb : Nat} {vby : Value} {d : List Int} (hb : Below w.heap.size w w2) {F' : Nat → Prop} (hF : ∀ k, F k → F' k) (hF2 : ∀ k, F' k → k < w2.heap.size) (hFn : F' nb) (hFm : F' mb)
    (hj : gall[j]? = some (.leaf t)) (hnb : w.heap.size ≤ nb) (hmb : w.heap.size ≤ mb)
    (h1 : w2.heap[nb]? = some (.cells #[vby, .map (some mb), .pointer (some ⟨T, 0, none⟩)] 154 (0, 0))) (h2 : w2.heap[mb]? = some (.map #[] 0)) (h3 : SI w2 (fun k => F' k ∧ w.heap.size ≤ k ∧ k ≠ mb) vby d) :
    TreeG (w2.setCell ⟨ga, j, none⟩ (.iface 150 (.pointer (some ⟨nb, 0, none⟩)))) F' T { p with all := p.all.set j (.node d []) } (.slice (some ⟨ga, 0, none⟩) gall.length ca) vacc vplace vword vaccs (gall.set j (.node nb mb vby d [])) ∧
      Mod F w (w2.setCell ⟨ga, j, none⟩ (.iface 150 (.pointer (some ⟨nb, 0, none⟩)))) := by
  have hga : F ga := h.fmut ga (.inr (.inl rfl))
  have hgalt := h.flt ga hga
  have hs := hb.size
  have hTg : T ≠ ga := fun e => h.ne_all (k := ga) rfl e.symm
  have hw3 : ∀ k, k < w.heap.size → k ≠ ga → (w2.setCell ⟨ga, j, none⟩ (.iface 150 (.pointer (some ⟨nb, 0, none⟩)))).heap[k]? = w.heap[k]? := fun k hk hn => (heap_setCell_other _ hn).trans (hb.block k hk)
  have hoth : ∀ k, k ≠ ga → (w2.setCell ⟨ga, j, none⟩ (.iface 150 (.pointer (some ⟨nb, 0, none⟩)))).heap[k]? = w2.heap[k]? := fun k hn => heap_setCell_other _ hn
  have hmbn : mb ∉ gall.filterMap GB.mb? := by
    intro hm
    obtain ⟨g, hg, e⟩ := List.mem_filterMap.1 hm
    have := h.flt mb (h.fmut mb (.inr (.inr (.inr (.inr ⟨g, hg, e⟩)))))
    omega
  obtain ⟨hnd, hfm⟩ := filterMap_set_leaf (nb := nb) (mb := mb) (vby := vby) (d := d) (c := []) hj h.mbs hmbn
  have hMM : ∀ k, MutB T (.slice (some ⟨ga, 0, none⟩) gall.length ca) vacc vplace (gall.set j (.node nb mb vby d [])) k → MutB T (.slice (some ⟨ga, 0, none⟩) gall.length ca) vacc vplace gall k ∨ k = mb := by
    rintro k (hk | hk | hk | hk | hk)
    · exact .inl (.inl hk)
    · exact .inl (.inr (.inl hk))
    · exact .inl (.inr (.inr (.inl hk)))
    · exact .inl (.inr (.inr (.inr (.inl hk))))
    · rcases hfm k (List.mem_filterMap.2 hk) with h' | h'
      · exact .inl (.inr (.inr (.inr (.inr (List.mem_filterMap.1 h')))))
      · exact .inr h'
  have hro : ∀ {v : Value} {xs : List Int}, SI w (fun k => F k ∧ ¬ MutB T (.slice (some ⟨ga, 0, none⟩) gall.length ca) vacc vplace gall k) v xs → SI (w2.setCell ⟨ga, j, none⟩ (.iface 150 (.pointer (some ⟨nb, 0, none⟩)))) (fun k => F' k ∧ ¬ MutB T (.slice (some ⟨ga, 0, none⟩) gall.length ca) vacc vplace (gall.set j (.node nb mb vby d [])) k) v xs := fun hsi =>
    hsi.keep (fun k ho hk => hw3 k hk (fun e => ho.2 (.inr (.inl (by rw [e]; rfl))))) (fun k ho hk => ⟨hF k ho.1, fun hm => (hMM k hm).elim ho.2 (fun e => by omega)⟩)
  have hst := (own_below h.all hb).stored j (GB.node nb mb vby d []).val
  refine ⟨?_, ?_⟩
  · exact {
      blk := (hw3 T (h.flt T (h.fmut T (.inl rfl))) hTg).trans h.blk
      all := by
        rw [List.length_set, List.map_set]
        exact hst.1
      pall := by rw [List.map_set, h.pall]; rfl
      acc := own_keep h.acc fun k e hl => hw3 k hl (fun e' => own_type_ne h.acc h.all (by decide) e (by rw [e']; rfl))
      accl := h.accl
      accs := fun i hi => hro (h.accs i hi)
      place := own_keep h.place fun k e hl => hw3 k hl (fun e' => own_type_ne h.place h.all (by decide) e (by rw [e']; rfl))
      word := hro h.word
      nodes := fun nb' mb' vby' b c hm => by
        rcases List.mem_or_eq_of_mem_set hm with hm | e
        · obtain ⟨k1, k2, k3, k4, k5⟩ := h.nodes nb' mb' vby' b c hm
          exact ⟨blk_keep k1 (fun hl => hw3 _ hl (fun e => h.nb_ne hm h.all (by decide) (by rw [e]; rfl))), blk_keep k2 (fun hl => hw3 _ hl (fun e => h.map_ne hm h.all (by rw [e]; rfl))), hro k3, hF _ k4, hF _ k5⟩
        · injection e with e1 e2 e3 e4 e5
          subst e1 e2 e3 e4 e5
          refine ⟨(hoth _ (by omega)).trans h1, (hoth _ (by omega)).trans h2, h3.keep (fun k ho hk => hoth k (by have := ho.2.1; omega)) (fun k ho hk => ⟨ho.1, fun hm => ?_⟩), hFn, hFm⟩
          rcases hMM k hm with h' | h'
          · have := h.flt k (h.fmut k h'); have := ho.2.1; omega
          · exact ho.2.2 h'
      mbs := hnd
      fmut := fun k hk => by
        rcases hMM k hk with h' | rfl
        · exact hF _ (h.fmut k h')
        · exact hFm
      flt := fun k hk => by rw [size_setCell]; exact hF2 k hk }
  · exact ⟨hb.os, hb.tape, hb.output, by rw [size_setCell]; exact hs, fun k hk hF => hw3 k hk (fun e => hF (e ▸ hga))⟩

/-- A state's place was written. -/
theorem TreeG.setPlace {gp cp : Nat} (h : TreeG w F T p vall vacc (.slice (some ⟨gp, 0, none⟩) p.place.length cp) vword vaccs gall) {w2 : World} {s n : Nat} (hb : Below w.heap.size w w2) :
    TreeG (w2.setCell ⟨gp, s, none⟩ (.int .i64 n)) F T { p with place := p.place.set s n } vall vacc (.slice (some ⟨gp, 0, none⟩) p.place.length cp) vword vaccs gall ∧ Mod F w (w2.setCell ⟨gp, s, none⟩ (.int .i64 n)) := by
  have hgp : F gp := h.fmut gp (.inr (.inr (.inr (.inl rfl))))
  have hs := hb.size
  have hw3 : ∀ k, k < w.heap.size → k ≠ gp → (w2.setCell ⟨gp, s, none⟩ (.int .i64 n)).heap[k]? = w.heap[k]? := fun k hk hn => (heap_setCell_other _ hn).trans (hb.block k hk)
  have hTg : T ≠ gp := fun e => h.ne_place (k := gp) rfl e.symm
  have hro : ∀ {v : Value} {xs : List Int}, SI w (fun k => F k ∧ ¬ MutB T vall vacc (.slice (some ⟨gp, 0, none⟩) p.place.length cp) gall k) v xs → SI (w2.setCell ⟨gp, s, none⟩ (.int .i64 n)) (fun k => F k ∧ ¬ MutB T vall vacc (.slice (some ⟨gp, 0, none⟩) p.place.length cp) gall k) v xs := fun hsi =>
    hsi.keep (fun k ho hk => hw3 k hk (fun e => ho.2 (.inr (.inr (.inr (.inl (by rw [e]; rfl))))))) (fun k ho hk => ho)
  have hst := (own_below h.place hb).stored s (.int .i64 n)
  refine ⟨?_, ?_⟩
  · exact {
      blk := (hw3 T (h.flt T (h.fmut T (.inl rfl))) hTg).trans h.blk
      all := own_keep h.all fun k e hl => hw3 k hl (fun e' => own_type_ne h.all h.place (by decide) e (by rw [e']; rfl))
      pall := h.pall
      acc := own_keep h.acc fun k e hl => hw3 k hl (fun e' => own_type_ne h.acc h.place (by decide) e (by rw [e']; rfl))
      accl := h.accl
      accs := fun i hi => hro (h.accs i hi)
      place := by
        have := hst.1
        show World.ownsRow _ _ _ _ _ (p.place.set s n).length (ints ((p.place.set s n).map Int.ofNat))
        rw [List.length_set, List.map_set]
        simp only [ints, List.map_set] at this ⊢
        exact this
      word := hro h.word
      nodes := fun nb' mb' vby' b c hm => by
        obtain ⟨k1, k2, k3, k4, k5⟩ := h.nodes nb' mb' vby' b c hm
        exact ⟨blk_keep k1 (fun hl => hw3 _ hl (fun e => h.nb_ne hm h.place (by decide) (by rw [e]; rfl))), blk_keep k2 (fun hl => hw3 _ hl (fun e => h.map_ne hm h.place (by rw [e]; rfl))), hro k3, k4, k5⟩
      mbs := h.mbs
      fmut := h.fmut
      flt := fun k hk => by rw [size_setCell]; have := h.flt k hk; omega }
  · exact ⟨hb.os, hb.tape, hb.output, by rw [size_setCell]; exact hs, fun k hk hF => hw3 k hk (fun e => hF (e ▸ hgp))⟩
end
end Go.Proofs.Ytoafjmfnnbpnoaa
