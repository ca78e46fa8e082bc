/-
  What the tree's Split computes where it parts a state.
-/
import Derived.Test.YtoafjmfnnbpnoaaTR16
set_option linter.unusedVariables false
set_option linter.unusedSimpArgs false
namespace Go.Proofs.Ytoafjmfnnbpnoaa
open Go Go.RowKit

theorem cell_of_heap {w w' : World} {b i : Nat} (h : w'.heap[b]? = w.heap[b]?) : w'.cell? ⟨b, i, none⟩ = w.cell? ⟨b, i, none⟩ := by simp [World.cell?, h]
theorem below_cell {w w' : World} (hb : Below w.heap.size w w') {a : Addr} {v : Value} (h : w.cell? a = some v) : w'.cell? a = some v := (hb.cell (World.block_lt_of_cell? w _ h)).trans h

def splitNew (p : PT) (s j : Nat) (d wd was now : List Int) : PT :=
  { p with all := p.all.set j (.node d [(was, p.all.length), (now, p.all.length + 1)]) ++ [.leaf s] ++ [.leaf p.access.length], place := p.place.set s p.all.length ++ [p.all.length + 1], access := p.access ++ [wd], busy := false }
def SplitR (w : World) (F : Nat → Prop) (T : Nat) (r : PT × Int × Int) (e : Ending) (w' : World) : Prop :=
  e = .returned (.tuple #[.int .i64 r.2.1, .int .i64 r.2.2]) ∧ Mod F w w' ∧ ∃ F' : Nat → Prop, (∀ k, F' k → F k ∨ w.heap.size ≤ k) ∧ (∀ k, F k → F' k) ∧ TreeAt w' F' T r.1

structure SplitPre (p : PT) (s j t : Nat) (d wd was now : List Int) : Prop where
  sl : s < p.access.length
  pl : p.place.length = p.access.length
  pj : p.place[s]? = some j
  lf : p.all[j]? = some (.leaf t)
  cd : (checkF d p.k).2 = 0
  cw : (checkF wd p.k).2 = 0
  dk : d = [] → p.kind ≠ 2
  sw : saidF p.kind p.o d.length was = true
  sn : saidF p.kind p.o d.length now = true
  ne : was ≠ now
  nw : wd ∉ p.access
  most : p.access.length < 1024
  all : p.all.length ≤ 90000
  o : p.o ≤ 64
  dl : d.length ≤ 4096
  wl : wd.length ≤ 4096

theorem cell_setBlk {W : World} {b : Nat} {o : Obj} {a : Addr} {v : Value} (h : W.cell? a = some v) (hne : a.block ≠ b) : (setBlk W b o).cell? a = some v := by
  rw [← h]; simp [World.cell?, setBlk_other o hne]
theorem mod_cell {G : Nat → Prop} {W W' : World} (hm : Mod G W W') {b i : Nat} {v : Value} (h : W.cell? ⟨b, i, none⟩ = some v) (hn : ¬ G b) : W'.cell? ⟨b, i, none⟩ = some v :=
  (cell_of_heap (hm.block b (World.block_lt_of_cell? W _ h) hn)).trans h
theorem saidF_len {kind o : Int} {n : Nat} {out : List Int} (h : saidF kind o n out = true) (ho : o ≤ 64) : out.length ≤ n + 1 := by
  obtain ⟨_, h1, h2⟩ := saidF_ok h ho
  by_cases e : kind = 1
  · rw [h1 e]; omega
  · rw [(h2 e).2]; omega
theorem run_makeMap_node (w : World) : (Instr.makeMap 152 none).run Try.prog w = .ok (.map (some w.heap.size)) (w.alloc (.map #[] 0)) := by kernel_rfl

set_option maxRecDepth 20000 in
set_option maxHeartbeats 8000000 in
theorem tree_Split1 (w : World) (F : Nat → Prop) (T : Nat) (p : PT) (s j t : Nat) (vd vw vwas vnow : Value) (d wd was now : List Int) (ok1 ok2 ok3 ok4 : Nat → Prop) (ht : TreeAt w F T p) (hd : SI w ok1 vd d) (hw : SI w ok2 vw wd) (hwas : SI w ok3 vwas was) (hnow : SI w ok4 vnow now)
    (hok2 : ∀ k, ok2 k → ¬ F k) (hok3 : ∀ k, ok3 k → ¬ F k) (hok4 : ∀ k, ok4 k → ¬ F k) (hpre : SplitPre p s j t d wd was now) :
    Calls Try.prog 27 #[.pointer (some ⟨T, 0, none⟩), .int .i64 s, vd, vw, vwas, vnow] w (SplitR w F T (splitNew p s j d wd was now, p.access.length, 0)) := by
  obtain ⟨gall, hta⟩ := ht.ghost
  have HT := Lib.hid ht
  obtain ⟨vall, vacc, vplace, vword, vaccs, h⟩ := hta
  have HG := Lib.hid h
  have Hpre := Lib.hid hpre
  obtain ⟨sl, pl, pj, lf, cd, cw, dk, sw, sn, ne, nw, most, hall, ho64, dl, wl⟩ := hpre
  have Hd := Lib.hid hd; have Hw := Lib.hid hw; have Hwas := Lib.hid hwas; have Hnow := Lib.hid hnow
  obtain ⟨Ad, cd', rfl, hd1, _⟩ := hd.open
  obtain ⟨Aw, cw', rfl, hw1, _⟩ := hw.open
  obtain ⟨Awas, cwas, rfl, hwas1, _⟩ := hwas.open
  obtain ⟨Anow, cnow, rfl, hnow1, _⟩ := hnow.open
  have Hcd := Lib.hid cd; have Hcw := Lib.hid cw
  have Hsw := Lib.hid sw; have Hsn := Lib.hid sn
  have d1 := h.c1
  have d7 := h.c7
  have d0 := h.c0
  obtain ⟨Aacc, cacc, ea⟩ := own_slice h.acc
  rw [ea] at d7
  have hl := h.accl
  have hl2 : ¬ ((s : Int) ≥ vaccs.length) := by omega
  have Hea := Lib.hid ea
  have Hl := Lib.hid hl
  have Hne : Hid (decide (was = now) = false) := decide_eq_false ne
  have Hnw : Hid (decide (wd ∈ p.access) = false) := decide_eq_false nw
  have hs63 : (s : Int) ≤ 9223372036854775807 := by omega
  have hk0 : ¬ ((s : Int) < 0) := by omega
  have hm1 : ((vaccs.length : Int) == 1024) = false := by rw [beq_eq_false_iff_ne]; omega
  have hdk : ((d.length : Int) == 0) = true → (p.kind == 2) = false := by
    intro e
    rw [beq_iff_eq] at e
    have : d = [] := List.length_eq_zero_iff.1 (by omega)
    rw [beq_eq_false_iff_ne]; exact dk this
  have Hdk := Lib.hid hdk
  have Ht := Lib.hid ht
  clear ht h hd hw hwas hnow cd cw sw sn dk ne nw pj lf pl hall sl ea hl most
  go_enter Try.func27, Try.ntmps27
  have x7 := fun o => cell_alloc d7 o
  have x1 := fun o o' => cell_alloc (cell_alloc d1 o) o'
  have x0 := fun o o' => cell_alloc (cell_alloc d0 o) o'
  go_wp2_with fail
  go_loop [36] (fun i => ∃ n : Nat, n ≤ 2 ∧ i = .int .i64 n) (fun i => 2 - (intOf i).toNat)
  case atStart => exact ⟨0, by omega, rfl⟩
  case round =>
    obtain ⟨n, hn, rfl⟩ := hrel
    match n, hn with
    | 0, _ =>
      go_wp2_with fail
      refine (word_Check _ d p.k _ ok1 (Hd.out.below (below_then (below_alloc ..) (below_alloc ..)))).mono ?_
      rintro e w' ⟨he, rfl⟩
      rw [Hcd.out] at he
      subst he
      go_wp2_with fail
      go_round
      case rel => exact ⟨1, by omega, rfl⟩
      case measure => simp [intOf]
    | 1, _ =>
      go_wp2_with fail
      refine (word_Check _ wd p.k _ ok2 (Hw.out.below (below_then (below_alloc ..) (below_alloc ..)))).mono ?_
      rintro e w' ⟨he, rfl⟩
      rw [Hcw.out] at he
      subst he
      go_wp2_with fail
      go_round
      case rel => exact ⟨2, by omega, rfl⟩
      case measure => simp [intOf]
    | 2, _ =>
      clear x7 x1
      obtain ⟨W1, hW1⟩ : ∃ W1, W1 = (w.alloc (.cells #[.slice Aw wd.length cw'] 29)).alloc (.cells #[.slice Ad d.length cd', .slice Aw wd.length cw'] 29) := ⟨_, rfl⟩
      have hb1 : Below w.heap.size w W1 := by rw [hW1]; exact below_then (below_alloc ..) (below_alloc ..)
      have hbx : W1.cell? ⟨w.heap.size, 0, none⟩ = some (.slice Aw wd.length cw') := by rw [hW1]; exact cell_alloc (cell_of_block (heap_alloc_new _ _) 0 rfl) _
      have hlt1 : w.heap.size < W1.heap.size := by rw [hW1]; exact Nat.lt_of_lt_of_le (by rw [World.size_alloc]; omega) (below_alloc _ _).size
      have hHdk : ((d.length : Int) == 0) = false ∨ (((d.length : Int) == 0) = true ∧ (p.kind == 2) = false) := by
        cases e : ((d.length : Int) == 0) with
        | false => exact .inl rfl
        | true => exact .inr ⟨rfl, Hdk.out e⟩
      have z0 := below_cell hb1 d0
      clear x0 d0 d1 d7
      rw [← hW1]
      clear hW1
      have Hb1 := Lib.hid hb1; have Hbx := Lib.hid hbx; have Hlt1 := Lib.hid hlt1
      clear hb1 hbx hlt1
      have HhHdk := Lib.hid hHdk
      clear hHdk
      go_upto_region 12 with (fail)
      go_cut [54] (fun t54 wx => t54 = .bool false ∧ wx = W1)
      case first =>
        rcases HhHdk.out with hA | ⟨hA, hB⟩
        all_goals
          go_wp2_with fail
          go_meet
          exact ⟨rfl, rfl⟩
      case rest =>
        obtain ⟨rfl, hwc⟩ := hcut
        rw [hwc]
        clear hwc
        go_wp2_with fail
        refine (tree_answer W1 F T p _ _ d was ok1 ok3 (HT.out.below Hb1.out) (Hd.out.below Hb1.out) (Hwas.out.below Hb1.out)).mono ?_
        rintro e w2 ⟨he, hb2⟩
        rw [Hsw.out] at he
        subst he
        have Hb2 := Lib.hid (below_then Hb1.out hb2)
        have Hbx2 := Lib.hid (below_cell hb2 Hbx.out)
        have Hlt2 := Lib.hid (Nat.lt_of_lt_of_le Hlt1.out hb2.size)
        clear z0 hb2
        go_wp2_with fail
        refine (tree_answer w2 F T p _ _ d now ok1 ok4 (HT.out.below Hb2.out) (Hd.out.below Hb2.out) (Hnow.out.below Hb2.out)).mono ?_
        rintro e w3 ⟨he, hb3⟩
        rw [Hsn.out] at he
        subst he
        have Hb3 := Lib.hid (below_then Hb2.out hb3)
        have Hbx3 := Lib.hid (below_cell hb3 Hbx2.out)
        have Hlt3 := Lib.hid (Nat.lt_of_lt_of_le Hlt2.out hb3.size)
        clear hb3
        go_wp2_with fail
        refine (slices_Equal _ _ was now w3 ok3 ok4 (Hwas.out.below Hb3.out) (Hnow.out.below Hb3.out)).mono ?_
        rintro e w4 ⟨he, hq4⟩
        rw [Hne.out] at he
        subst he
        have Hb4 := Lib.hid (below_then Hb3.out hq4.below)
        have Hbx4 := Lib.hid (below_cell hq4.below Hbx3.out)
        have Hlt4 := Lib.hid (Nat.lt_of_lt_of_le Hlt3.out hq4.below.size)
        have h4 := HG.out.below Hb4.out
        have hsl := Lib.hid h4.sl
        rw [Hea.out] at hsl
        have e7 := h4.c7
        rw [Hea.out] at e7
        clear hq4 h4
        go_wp2_with fail
        refine (ContainsFunc_list _ _ w.heap.size p.access wd w4 _ ok2 hsl.out (Hw.out.below Hb4.out) Hbx4.out).mono ?_
        rintro e w5 ⟨he, hq5⟩
        rw [Hnw.out] at he
        subst he
        have Hb5 := Lib.hid (below_then Hb4.out hq5.below)
        have Hbx5 := Lib.hid (below_cell hq5.below Hbx4.out)
        have Hlt5 := Lib.hid (Nat.lt_of_lt_of_le Hlt4.out hq5.below.size)
        have h5 := HG.out.below Hb5.out
        have e7' := h5.c7
        rw [Hea.out] at e7'
        clear hq5 h5 e7
        go_wp2_with fail
        refine (slices_Clone _ d w5 ok1 (Hd.out.below Hb5.out) (by omega)).mono ?_
        rintro e w6 ⟨v6, rfl, ho6, hb6⟩
        obtain ⟨A6, c6, rfl⟩ := own_slice ho6
        have Ho6 := Lib.hid ho6
        have Hb6 := Lib.hid (below_then Hb5.out hb6)
        have Hb6' := Lib.hid hb6
        have Hbx6 := Lib.hid (below_cell hb6 Hbx5.out)
        have Hlt6 := Lib.hid (Nat.lt_of_lt_of_le Hlt5.out hb6.size)
        clear ho6 hb6 e7'
        have hmm := run_makeMap_node w6
        go_wp2_with fail
        obtain ⟨W8, hW8⟩ : ∃ W8, W8 = (w6.alloc (.map #[] 0)).alloc (.cells #[.slice A6 d.length c6, .map (some w6.heap.size), .pointer (some ⟨T, 0, none⟩)] 154) := ⟨_, rfl⟩
        have hb68 : Below w6.heap.size w6 W8 := by rw [hW8]; exact below_then (below_alloc ..) (below_alloc ..)
        have hs8 : W8.heap.size = w6.heap.size + 2 := by rw [hW8, World.size_alloc, World.size_alloc]
        have hnb : W8.heap[w6.heap.size + 1]? = some (.cells #[.slice A6 d.length c6, .map (some w6.heap.size), .pointer (some ⟨T, 0, none⟩)] 154 (0, 0)) := by rw [hW8, ← World.size_alloc w6 (.map #[] 0)]; exact heap_alloc_new _ _
        have hmb : W8.heap[w6.heap.size]? = some (.map #[] 0) := by rw [hW8, heap_alloc_old _ _ (by rw [World.size_alloc]; omega)]; exact heap_alloc_new _ _
        rw [← hW8]
        have Hb8 := Lib.hid (below_then Hb6.out hb68)
        have Hb68 := Lib.hid hb68
        have Hbx8 := Lib.hid (below_cell hb68 Hbx6.out)
        have Hlt8 := Lib.hid (Nat.lt_of_lt_of_le Hlt6.out hb68.size)
        have Hsi8 : Hid (SI W8 (fun k => w.heap.size ≤ k ∧ k ≠ w6.heap.size) (.slice A6 d.length c6) d) := Ho6.out.si.keep (fun k _ hk => hb68.block k hk) (fun k h1 hk => ⟨by have := Hb5.out.size; omega, by omega⟩)
        have Hnb := Lib.hid hnb; have Hmb := Lib.hid hmb; have Hs8 := Lib.hid hs8; have HW8 := Lib.hid hW8
        clear hb68 hnb hmb hs8 hW8 hmm
        have h8 := HG.out.below Hb8.out
        have hgj : gall[j]? = some (.leaf t) := by
          have := Hpre.out.lf
          rw [← h8.pall, List.getElem?_map] at this
          cases e : gall[j]? with
          | none => rw [e] at this; cases this
          | some g =>
            rw [e] at this
            cases g with
            | leaf t' => injection this with this; injection this with this; rw [this]
            | node => injection this with this; cases this
        have hjl := (List.getElem?_eq_some_iff.1 hgj).1
        have hgl := h8.lall
        have hj63 : j ≤ 9223372036854775807 := by omega
        have k6 := h8.c6
        have k8 := h8.c8
        obtain ⟨Al, cl, el⟩ := own_slice h8.all
        obtain ⟨Ap, cp, ep⟩ := own_slice h8.place
        have hall8 := h8.all
        have hpl8 := h8.place
        rw [el] at k6 hall8
        rw [ep] at k8 hpl8
        obtain ⟨ga, e, kj, fj⟩ := own_cell hall8 j (v := (GB.leaf t).val) (by simp [hgj])
        subst e
        obtain ⟨gp, e, ks, fs⟩ := own_cell hpl8 s (v := .int .i64 j) (by have := Hpre.out.pj; simp [ints, this])
        subst e
        have hpl : s < p.place.length := by have := Hpre.out.sl; have := Hpre.out.pl; omega
        have hpp : p.place.length ≤ 9223372036854775807 := by have := Hpre.out.most; have := Hpre.out.pl; omega
        have Hgj := Lib.hid hgj
        have Hel := Lib.hid el
        have Hep := Lib.hid ep
        simp only [GB.val] at kj
        clear h8 hgj el ep hall8 hpl8
        go_region
        have hG0 : TreeG w F T p (.slice (some ⟨ga, 0, none⟩) gall.length cl) vacc vplace vword vaccs gall := by have := HG.out; rw [Hel.out] at this; exact this
        have hga := hG0.fmut ga (.inr (.inl rfl))
        have hgal := hG0.flt ga hga
        have hs9 := hG0.setNode (d := d) Hb8.out (F' := fun k => F k ∨ (w5.heap.size ≤ k ∧ k < W8.heap.size)) (fun _ h => .inl h) (fun k h => h.elim (fun h => (HG.out.below Hb8.out).flt k h) (·.2)) (.inr (by have := Hb6'.out.size; have := Hs8.out; omega)) (.inr (by have := Hb6'.out.size; have := Hs8.out; omega)) Hgj.out (by have := Hb6.out.size; omega) Hb6.out.size Hnb.out Hmb.out
          (Ho6.out.si.keep (fun k _ hk => Hb68.out.block k hk) (fun k h1 hk => ⟨.inr ⟨h1, by have := Hs8.out; omega⟩, by have := Hb5.out.size; omega, by omega⟩))
        obtain ⟨W9, hW9⟩ : ∃ W9, W9 = (W8.setCell ⟨ga, j, none⟩ (.iface 150 (.pointer (some ⟨w6.heap.size + 1, 0, none⟩)))).drew := ⟨_, rfl⟩
        have hbx9 : W9.cell? ⟨w.heap.size, 0, none⟩ = some (.slice Aw wd.length cw') := by
          rw [hW9]; exact (cell_of_heap (heap_setCell_other _ (by show w.heap.size ≠ ga; omega))).trans Hbx8.out
        rw [← hW9]
        have Hbx9 := Lib.hid hbx9
        have Hm9 : Hid (Mod F w W9) := by show Mod F w W9; rw [hW9]; exact hs9.2.drewN 1
        have h9 := hs9.1.below ((Below.refl _ _).drew : Below (W8.setCell ⟨ga, j, none⟩ (.iface 150 (.pointer (some ⟨w6.heap.size + 1, 0, none⟩)))).heap.size (W8.setCell ⟨ga, j, none⟩ (.iface 150 (.pointer (some ⟨w6.heap.size + 1, 0, none⟩)))) (W8.setCell ⟨ga, j, none⟩ (.iface 150 (.pointer (some ⟨w6.heap.size + 1, 0, none⟩)))).drew)
        rw [← hW9] at h9
        have hsz9 : W8.heap.size = W9.heap.size := by rw [hW9]; exact (size_setCell ..).symm
        have Hsz9 := Lib.hid hsz9
        rw [Hep.out] at h9
        have H9 := Lib.hid h9
        clear k6 k8 kj fj ks fs hG0 hga hgal hs9 hbx9 hW9 hsz9
        have k6 := h9.c6
        have k8 := h9.c8
        obtain ⟨gp', eg, ks, fs⟩ := own_cell h9.place s (v := .int .i64 j) (by have := Hpre.out.pj; simp [ints, this])
        injection eg with eg
        injection eg with eg
        subst eg
        clear h9
        go_wp2_with fail
        go_region
        have hs10 := H9.out.setPlace (s := s) (n := gall.length) (Below.refl _ _)
        obtain ⟨W10, hW10⟩ : ∃ W10, W10 = (W9.setCell ⟨gp, s, none⟩ (.int .i64 gall.length)).drew := ⟨_, rfl⟩
        rw [← hW10]
        have hmid : Mid W9 (fun k => F k ∨ (w5.heap.size ≤ k ∧ k < W8.heap.size)) T { p with all := p.all.set j (.node d []), place := p.place.set s gall.length } (gall.set j (.node (w6.heap.size + 1) w6.heap.size (.slice A6 d.length c6) d [])) W10 := by
          rw [hW10]
          exact ⟨hs10.2.drewN 1, _, fun k h => .inl h, fun k h => h, _, _, _, _, _, hs10.1.below (below_drewN (Below.refl _ _) 1)⟩
        have Hmid10 := Lib.hid hmid
        clear k6 k8 ks fs hs10 hW10 hmid
        obtain ⟨Hmm10, F10, HF10, HF10', vall10, vacc10, vplace10, vword10, vaccs10, h10⟩ := Hmid10.out
        have H10 := Lib.hid h10
        have hq10 : (gall.set j (GB.node (w6.heap.size + 1) w6.heap.size (.slice A6 d.length c6) d []))[j]? = some (.node (w6.heap.size + 1) w6.heap.size (.slice A6 d.length c6) d []) := by
          rw [List.getElem?_set_self hjl]
        have Hq10 := Lib.hid hq10
        have k6 := h10.c6
        obtain ⟨n1, n2, n3, n4, n5⟩ := h10.nodes _ _ _ _ _ (List.mem_of_getElem? hq10)
        have kn := cell_of_block n1 1 rfl
        obtain ⟨Al10, cl10, el10⟩ := own_slice h10.all
        rw [el10, List.length_set] at k6
        have Hm10 : Hid (Mod F w W10) := Hm9.out.trans Hmm10 (fun k hk hf => hf.elim id (fun hh => absurd hh.1 (by have := Hb5.out.size; omega)))
        have HnF : Hid (¬ F w.heap.size) := fun h => by have := HG.out.flt _ h; omega
        have Hbx10 := Lib.hid (mod_cell Hmm10 Hbx9.out (fun h => h.elim HnF.out (fun hh => by have := Hlt5.out; omega)))
        have Hsz10 : Hid (W9.heap.size ≤ W10.heap.size) := Hmm10.size
        have HS10 : Hid (∀ k, F k → F10 k) := fun k hk => HF10' k (.inl hk)
        have HF10w : Hid (∀ k, F10 k → F k ∨ w.heap.size < k) := fun k hk => (HF10 k hk).elim (fun h => h.imp id (fun hh => by have := Hlt5.out; omega)) (fun hh => .inr (by have := Hlt8.out; have := Hsz9.out; omega))
        have Hn2 := Lib.hid n2
        have hwl : was.length ≤ 100000 := by have := saidF_len Hsw.out ho64; omega
        have hnl : now.length ≤ 100000 := by have := saidF_len Hsn.out ho64; omega
        clear h10 hq10 n1 n2 n3 n4 n5 Hmm10 HF10 HF10' el10
        have hT6 : (⟨T, 6, none⟩ : Addr).block ≠ w6.heap.size := by have := HG.out.flt T (HG.out.fmut T (.inl rfl)); have := Hb6.out.size; show T ≠ _; omega
        have h16 : (⟨w6.heap.size + 1, 1, none⟩ : Addr).block ≠ w6.heap.size := by show w6.heap.size + 1 ≠ _; omega
        go_upto_region 25 with (fail)
        go_cut [] (fun wx => Mid W10 F10 T { p with all := (p.all.set j (.node d [])).set j (.node d [(was, gall.length)]), place := p.place.set s gall.length } ((gall.set j (.node (w6.heap.size + 1) w6.heap.size (.slice A6 d.length c6) d [])).set j (.node (w6.heap.size + 1) w6.heap.size (.slice A6 d.length c6) d [(was, gall.length)])) wx)
        case first =>
          go_region_held3 (fun W => W.cell? ⟨T, 6, none⟩ = some (.slice Al10 gall.length cl10) ∧ W.cell? ⟨w6.heap.size + 1, 1, none⟩ = some (.map (some w6.heap.size)))
            (((try dsimp only); ((repeat' apply And.intro) <;> first | assumption | (apply cell_alloc; assumption) | (apply cell_alloc_drew; assumption) | (refine cell_setBlk (by assumption) ?_; assumption))))
            (first | (go_at_call 104
                      refine (tree_spell _ was _ ok3 ((Hwas.out.mod Hm10.out (fun k ho hk => ⟨hok3 k ho, ho⟩)).below (by first | exact (Below.refl _ _).drew | exact below_drewN (Below.refl _ _) _ | exact Below.refl _ _)) hwl).mono ?_
                      rintro e w' ⟨rfl, hb'⟩
                      have hb'' : Below W10.heap.size W10 w' := below_then (by first | exact (Below.refl _ _).drew | exact below_drewN (Below.refl _ _) _ | exact Below.refl _ _) hb'
                      have m6 := below_cell hb'' k6
                      have mn := below_cell hb'' kn
                      have hmu := run_mapUpdate_node w' w6.heap.size [] was gall.length (blk_keep Hn2.out (fun hk => hb''.block _ hk)) rfl
                      have Hbn := Lib.hid hb''
                      clear hb' hb''))
          all_goals
            go_wp2_with fail
            go_meet
            obtain ⟨u1, u2⟩ := (H10.out.below Hbn.out).updMap (ch' := [(was, gall.length)]) Hq10.out
            exact ⟨(Mod.of_below _ Hbn.out).trans u2 (fun _ _ h => h), F10, fun k h => .inl h, fun k h => h, _, _, _, _, _, u1⟩
        case rest =>
          rename World => W11
          obtain ⟨hmm, F11, hF11, hF11', vall11, vacc11, vplace11, vword11, vaccs11, h11⟩ := hcut
          have Hm11 : Hid (Mod F w W11) := Hm10.out.trans hmm (fun k hk hf => (HF10w.out k hf).elim id (fun hh => by omega))
          have HF11 : Hid (∀ k, F11 k → F k ∨ w.heap.size < k) := fun k hk => (hF11 k hk).elim (HF10w.out k) (fun hh => .inr (by have := Hlt8.out; have := Hsz9.out; have := Hsz10.out; omega))
          have Hbx11 := Lib.hid (mod_cell hmm Hbx10.out (fun h => (HF10w.out _ h).elim HnF.out (fun hh => by omega)))
          have HS11 : Hid (∀ k, F k → F11 k) := fun k hk => hF11' k (HS10.out k hk)
          have Hsz11 : Hid (W10.heap.size ≤ W11.heap.size) := hmm.size
          have H11 := Lib.hid h11
          have d6 := h11.c6
          have g6 := h11.fz 6
          obtain ⟨Al2, cl2, el⟩ := own_slice h11.all
          have HAne := Lib.hid (fun e => h11.ne_all (k := T) e rfl)
          have HTl2 := Lib.hid (h11.flt T (h11.fmut T (.inl rfl)))
          have hgl11 : ((gall.set j (GB.node (w6.heap.size + 1) w6.heap.size (.slice A6 d.length c6) d [])).set j (GB.node (w6.heap.size + 1) w6.heap.size (.slice A6 d.length c6) d [(was, gall.length)])).length = gall.length := by rw [List.length_set, List.length_set]
          obtain ⟨gall11, hga11⟩ : ∃ G, G = (gall.set j (GB.node (w6.heap.size + 1) w6.heap.size (.slice A6 d.length c6) d [])).set j (GB.node (w6.heap.size + 1) w6.heap.size (.slice A6 d.length c6) d [(was, gall.length)]) := ⟨_, rfl⟩
          have Hga11 := Lib.hid hga11
          rw [← hga11] at H11 el hgl11
          have Hgl11 := Lib.hid hgl11
          have hgl9 : gall11.length ≤ 90000 := by rw [hgl11]; have h1 := HG.out.pall; have h2 := Hpre.out.all; rw [← h1, List.length_map] at h2; exact h2
          subst el
          clear h11 hmm hF11 hF11' k6 kn hga11 hgl11
          go_wp2_with (at_builtin
                       refine wpl_append (o := ⟨some 148, _, _, _, _, _⟩) rfl (.tmp 143) (.tmp 147) 141 rfl 0 165 .nilIface 1 16 Try.underlying141 info_branch rfl (by decide) (by decide) _ gall11.length (gall11.map GB.val) rfl (H11.out.all.alloc _) (some ⟨W11.heap.size, 0, none⟩) 1 1 [(GB.leaf s).val] rfl rfl (RV.new _ _ _ _ rfl).any (by simp [GB.val, Value.oneCell']) (by omega) (Nat.zero_le _) ?_
                       intro v4 w4 hown4 hg4 hloc4
                       obtain ⟨A6', c6', rfl⟩ := own_slice hown4
                       have e6 := hg4.cell (cell_alloc d6 _) (fun e => HAne.out e.symm)
                       have i6 := (World.frozen?_of_block (a := ⟨T, 6, none⟩) (hg4.block T (Nat.lt_of_lt_of_le HTl2.out (below_alloc W11 _).size) (fun e => HAne.out e.symm))).trans ((World.frozen?_of_block (a := ⟨T, 6, none⟩) ((below_alloc W11 _).block T HTl2.out)).trans g6)
                       have Hown4 := Lib.hid hown4
                       have Hg4 := Lib.hid hg4
                       have Hloc4 := Lib.hid hloc4
                       clear hown4 hg4 hloc4)
          have hst := all_step H11.out (below_alloc ..) Hg4.out Hown4.out Hloc4.out
          obtain ⟨W12, hW12⟩ : ∃ W12, W12 = w4.setCell ⟨T, 6, none⟩ (.slice A6' (gall11.length + 1) c6') := ⟨_, rfl⟩
          rw [← hW12] at hst ⊢
          obtain ⟨hmm, F12, hF12, hF12', vall12, vacc12, vplace12, vword12, vaccs12, h12⟩ := hst
          have Hm12 : Hid (Mod F w W12) := Hm11.out.trans hmm (fun k hk hf => (HF11.out k hf).elim id (fun hh => by omega))
          have Hbx12 := Lib.hid (mod_cell hmm Hbx11.out (fun h => (HF11.out _ h).elim HnF.out (fun hh => by omega)))
          have HS12 : Hid (∀ k, F k → F12 k) := fun k hk => hF12' k (HS11.out k hk)
          have Hlt11 : Hid (w.heap.size < W11.heap.size) := by show _ < _; have := Hlt8.out; have := Hsz9.out; have := Hsz10.out; have := Hsz11.out; omega
          have HF12 : Hid (∀ k, F12 k → F k ∨ w.heap.size < k) := fun k hk => (hF12 k hk).elim (HF11.out k) (fun hh => .inr (by have := Hlt11.out; omega))
          have Hlt12 : Hid (w.heap.size < W12.heap.size) := Nat.lt_of_lt_of_le Hlt11.out hmm.size
          have H12 := Lib.hid h12
          have hq12 : (gall11 ++ [GB.leaf s])[j]? = some (.node (w6.heap.size + 1) w6.heap.size (.slice A6 d.length c6) d [(was, gall.length)]) := by
            rw [List.getElem?_append_left (by rw [Hgl11.out]; exact hjl), Hga11.out, List.getElem?_set_self (by rw [List.length_set]; exact hjl)]
          have Hq12 := Lib.hid hq12
          have k6 := h12.c6
          obtain ⟨n1, n2, n3, n4, n5⟩ := h12.nodes _ _ _ _ _ (List.mem_of_getElem? hq12)
          have kn := cell_of_block n1 1 rfl
          obtain ⟨Al12, cl12, el12⟩ := own_slice h12.all
          rw [el12, List.length_append, List.length_singleton] at k6
          have Hn2 := Lib.hid n2
          have Hlk : Hid (lookB [(was, gall.length)] (keyOf now) 0 = none) := by
            show _ = _
            have b1 := (saidF_ok Hsw.out ho64).1
            have b2 := (saidF_ok Hsn.out ho64).1
            have hne := Hpre.out.ne
            rw [lookB, if_neg (fun e => hne (keyOf_inj (fun x hx => by have := b1 x hx; omega) (fun x hx => by have := b2 x hx; omega) e.symm))]
            rfl
          clear h12 hq12 n1 n2 n3 n4 n5 hmm hF12 hF12' el12 hW12 d6 g6
          go_upto_region 27 with (fail)
          go_cut [] (fun wx => Mid W12 F12 T { p with all := ((p.all.set j (.node d [])).set j (.node d [(was, gall.length)]) ++ [PB.leaf s]).set j (.node d [(was, gall.length), (now, gall11.length + 1)]), place := p.place.set s gall.length } ((gall11 ++ [GB.leaf s]).set j (.node (w6.heap.size + 1) w6.heap.size (.slice A6 d.length c6) d [(was, gall.length), (now, gall11.length + 1)])) wx)
          case first =>
            go_region_held3 (fun W => W.cell? ⟨T, 6, none⟩ = some (.slice Al12 (gall11.length + 1) cl12) ∧ W.cell? ⟨w6.heap.size + 1, 1, none⟩ = some (.map (some w6.heap.size)))
              (((try dsimp only); ((repeat' apply And.intro) <;> first | assumption | (apply cell_alloc; assumption) | (apply cell_alloc_drew; assumption) | (refine cell_setBlk (by assumption) ?_; assumption))))
              (first | (go_at_call 104
                        refine (tree_spell _ now _ ok4 ((Hnow.out.mod Hm12.out (fun k ho hk => ⟨hok4 k ho, ho⟩)).below (by first | exact (Below.refl _ _).drew | exact below_drewN (Below.refl _ _) _ | exact Below.refl _ _)) hnl).mono ?_
                        rintro e w' ⟨rfl, hb'⟩
                        have hb'' : Below W12.heap.size W12 w' := below_then (by first | exact (Below.refl _ _).drew | exact below_drewN (Below.refl _ _) _ | exact Below.refl _ _) hb'
                        have m6 := below_cell hb'' k6
                        have mn := below_cell hb'' kn
                        have hmu := run_mapUpdate_node w' w6.heap.size [(was, gall.length)] now (gall11.length + 1) (blk_keep Hn2.out (fun hk => hb''.block _ hk)) Hlk.out
                        rw [show (((gall11.length + 1 : Nat)) : Int) = (gall11.length : Int) + 1 from rfl] at hmu
                        have Hbn := Lib.hid hb''
                        clear hb' hb''))
            all_goals
              go_wp2_with fail
              go_meet
              obtain ⟨u1, u2⟩ := (H12.out.below Hbn.out).updMap (ch' := [(was, gall.length), (now, gall11.length + 1)]) Hq12.out
              exact ⟨(Mod.of_below _ Hbn.out).trans u2 (fun _ _ h => h), F12, fun k h => .inl h, fun k h => h, _, _, _, _, _, u1⟩
          case rest =>
            rename World => W13
            obtain ⟨hmm, F13, hF13, hF13', vall13, vacc13, vplace13, vword13, vaccs13, h13⟩ := hcut
            have Hm13 : Hid (Mod F w W13) := Hm12.out.trans hmm (fun k hk hf => (HF12.out k hf).elim id (fun hh => by omega))
            have HF13 : Hid (∀ k, F13 k → F k ∨ w.heap.size < k) := fun k hk => (hF13 k hk).elim (HF12.out k) (fun hh => .inr (by have := Hlt12.out; omega))
            have Hlt13 : Hid (w.heap.size < W13.heap.size) := Nat.lt_of_lt_of_le Hlt12.out hmm.size
            have H13 := Lib.hid h13
            have d9 := h13.c9
            have g9 := h13.fz 9
            have HS13 : Hid (∀ k, F k → F13 k) := fun k hk => hF13' k (HS12.out k hk)
            have hbx13 := mod_cell hmm Hbx12.out (fun h => (HF12.out _ h).elim HnF.out (fun hh => by omega))
            have hTlt := HG.out.flt T (HG.out.fmut T (.inl rfl))
            have hbx14 : (W13.setCell ⟨T, 9, none⟩ (.bool false)).cell? ⟨w.heap.size, 0, none⟩ = some (.slice Aw wd.length cw') := (cell_of_heap (heap_setCell_other _ (by show w.heap.size ≠ T; omega))).trans hbx13
            have h14 := H13.out.reT (w' := W13.setCell ⟨T, 9, none⟩ (.bool false)) (p' := { p with all := ((p.all.set j (.node d [])).set j (.node d [(was, gall.length)]) ++ [PB.leaf s]).set j (.node d [(was, gall.length), (now, gall11.length + 1)]), place := p.place.set s gall.length, busy := false }) (heap_setCell_same (i := 9) H13.out.blk (.bool false)) (fun k _ hk => heap_setCell_other _ hk) (by rw [size_setCell]; exact Nat.le_refl _) rfl rfl rfl (H13.out.word.keep (fun k ho _ => heap_setCell_other _ (fun e => ho.2 (.inl e))) (fun _ h _ => h))
            have hm14 : Mod F w (W13.setCell ⟨T, 9, none⟩ (.bool false)) := Hm13.out.setCell (p := ⟨T, 9, none⟩) (fun _ => HG.out.fmut T (.inl rfl)) _
            obtain ⟨W14, hW14⟩ : ∃ W14, W14 = W13.setCell ⟨T, 9, none⟩ (.bool false) := ⟨_, rfl⟩
            have HW14 := Lib.hid hW14
            have hsz14 : W14.heap.size = W13.heap.size := by rw [hW14, size_setCell]
            rw [← hW14] at h14 hm14
            have H14 := Lib.hid h14
            have Hm14 := Lib.hid hm14
            have Hsz14 := Lib.hid hsz14
            have Hst := Lib.hid (tree_state1 W14 F13 T _ (.slice Aw wd.length cw') wd ok2 _ ⟨_, _, _, _, _, h14⟩ (Hw.out.mod hm14 (fun k ho hk => ⟨hok2 k ho, ho⟩)) (by have := Hpre.out.wl; omega) (by have := Hpre.out.most; show p.access.length ≤ 100000; omega) (by have := Hpre.out.most; have := Hpre.out.pl; simp only [List.length_set]; omega) (by have := Hpre.out.all; simp only [List.length_set, List.length_append, List.length_singleton]; omega))
            clear h13 hmm hF13 hF13' k6 kn hbx13 h14 hm14 hsz14 hW14
            go_wp2_with fail
            rw [← HW14.out]
            refine Hst.out.mono ?_
            rintro e w15 ⟨rfl, hmid15⟩
            have Hmid15 := Lib.hid hmid15
            clear hmid15
            go_wp2_with fail
            go_ret2
            have hgl0 : gall.length = p.all.length := by have h1 := HG.out.pall; rw [← h1, List.length_map]
            have hjl' : j < p.all.length := by omega
            have hfin := Mid.after Hm14.out (fun k hk => (HF13.out k hk).imp id (fun hh => by omega)) HS13.out Hmid15.out
            obtain ⟨hmE, FE, hFE, hFE', hTE⟩ := hfin
            refine ⟨rfl, hmE, FE, hFE, hFE', ?_⟩
            have hpe : ({ p with all := ((p.all.set j (PB.node d [])).set j (PB.node d [(was, gall.length)]) ++ [PB.leaf s]).set j (PB.node d [(was, gall.length), (now, gall11.length + 1)]) ++ [PB.leaf p.access.length], place := p.place.set s gall.length ++ [(((p.all.set j (PB.node d [])).set j (PB.node d [(was, gall.length)]) ++ [PB.leaf s]).set j (PB.node d [(was, gall.length), (now, gall11.length + 1)])).length], access := p.access ++ [wd], busy := false } : PT) = splitNew p s j d wd was now := by
              unfold splitNew
              rw [Hgl11.out, hgl0]
              simp [List.set_append_left, hjl', List.set_set]
            rw [← hpe]
            exact hTE.tree
    | n + 3, h => exact absurd h (by omega)
end Go.Proofs.Ytoafjmfnnbpnoaa
