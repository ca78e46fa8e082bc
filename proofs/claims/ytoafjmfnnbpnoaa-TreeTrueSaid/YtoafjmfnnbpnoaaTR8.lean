/-
  What the tree's state computes: one more state at the end of all.
-/
import Derived.Test.YtoafjmfnnbpnoaaTR7
set_option linter.unusedVariables false
set_option linter.unusedSimpArgs false
namespace Go.Proofs.Ytoafjmfnnbpnoaa
open Go Go.RowKit

def TreeAtG (w : World) (F : Nat → Prop) (T : Nat) (p : PT) (gall : List GB) : Prop := ∃ vall vacc vplace vword vaccs, TreeG w F T p vall vacc vplace vword vaccs gall
theorem TreeAtG.tree {w : World} {F : Nat → Prop} {T : Nat} {p : PT} {gall : List GB} (h : TreeAtG w F T p gall) : TreeAt w F T p := by
  obtain ⟨a, b, c, d, e, h⟩ := h; exact ⟨a, b, c, d, e, gall, h⟩
theorem TreeAt.ghost {w : World} {F : Nat → Prop} {T : Nat} {p : PT} (h : TreeAt w F T p) : ∃ gall, TreeAtG w F T p gall := by
  obtain ⟨a, b, c, d, e, gall, h⟩ := h; exact ⟨gall, a, b, c, d, e, h⟩
/-- The tree is p in wx; but for its blocks and new ones wx is w. -/
def Mid (w : World) (F : Nat → Prop) (T : Nat) (p : PT) (gall : List GB) (wx : World) : Prop :=
  Mod F w wx ∧ ∃ F', (∀ k, F' k → F k ∨ w.heap.size ≤ k) ∧ (∀ k, F k → F' k) ∧ TreeAtG wx F' T p gall
theorem Mid.after {w w1 w2 : World} {F F1 : Nat → Prop} {T : Nat} {p' : PT} {gall : List GB} (hm : Mod F w w1) (h1 : ∀ k, F1 k → F k ∨ w.heap.size ≤ k) (h2 : ∀ k, F k → F1 k) (k : Mid w1 F1 T p' gall w2) : Mid w F T p' gall w2 := by
  obtain ⟨km, F2, k1, k2, kt⟩ := k
  refine ⟨hm.trans km (fun i hi hf => (h1 i hf).elim id (fun hh => by omega)), F2, fun i hi => ?_, fun i hi => k2 i (h2 i hi), kt⟩
  rcases k1 i hi with hh | hh
  · exact h1 i hh
  · exact .inr (Nat.le_trans hm.size hh)
theorem Mid.of {w w' : World} {F : Nat → Prop} {T : Nat} {p : PT} {gall : List GB} (hm : Mod F w w') (ht : TreeAtG w' (fun k => F k ∨ (w.heap.size ≤ k ∧ k < w'.heap.size)) T p gall) : Mid w F T p gall w' :=
  ⟨hm, _, fun _ hk => hk.imp id (·.1), fun _ hk => .inl hk, ht⟩

section
variable {w : World} {F : Nat → Prop} {T : Nat} {p : PT} {vall vacc vplace vword : Value} {vaccs : List Value} {gall : List GB}
theorem acc_step (h : TreeG w F T p vall vacc vplace vword vaccs gall) {w1 w4 : World} {vu vacc' : Value} {u : List Int} (hb : Below w.heap.size w w1) (ho : OI w1 w.heap.size vu u)
    (hg : (w1.alloc (.cells #[vu] 29)).grownBy w4 vacc.ownBlock) (hown : w4.ownsRow 0 29 1 vacc' (vaccs.length + 1) (vaccs ++ [vu]))
    (hloc : vacc'.ownBlock = vacc.ownBlock ∨ vacc'.ownBlock = some (w1.alloc (.cells #[vu] 29)).heap.size) :
    Mid w F T { p with access := p.access ++ [u] } gall (w4.setCell ⟨T, 7, none⟩ vacc') := by
  have hr := h.pushAcc (w1 := w1.alloc (.cells #[vu] 29)) (below_then hb (below_alloc ..)) (vu := vu) (u := u) (ho.si.keep (fun k _ hk => (below_alloc w1 _).block k hk) (fun k h1 h2 => ⟨h1, Nat.lt_of_lt_of_le h2 (below_alloc w1 _).size⟩)) hg hown (hloc.imp id (fun e => ⟨_, e, Nat.le_refl _⟩))
  exact Mid.of hr.2 (by rw [size_setCell]; exact ⟨_, _, _, _, _, hr.1⟩)
theorem place_step (h : TreeG w F T p vall vacc vplace vword vaccs gall) {w1 w4 : World} {vplace' : Value} {n : Nat} (hb : Below w.heap.size w w1)
    (hg : w1.grownBy w4 vplace.ownBlock) (hown : w4.ownsRow 0 3 1 vplace' (p.place.length + 1) (ints (p.place.map Int.ofNat) ++ [.int .i64 n]))
    (hloc : vplace'.ownBlock = vplace.ownBlock ∨ vplace'.ownBlock = some w1.heap.size) :
    Mid w F T { p with place := p.place ++ [n] } gall (w4.setCell ⟨T, 8, none⟩ vplace') := by
  have hr := h.pushPlace hb hg hown (hloc.imp id (fun e => ⟨_, e, Nat.le_refl _⟩))
  exact Mid.of hr.2 (by rw [size_setCell]; exact ⟨_, _, _, _, _, hr.1⟩)
theorem all_step (h : TreeG w F T p vall vacc vplace vword vaccs gall) {w1 w4 : World} {vall' : Value} {s : Nat} (hb : Below w.heap.size w w1)
    (hg : w1.grownBy w4 vall.ownBlock) (hown : w4.ownsRow 0 165 1 vall' (gall.length + 1) (gall.map GB.val ++ [(GB.leaf s).val]))
    (hloc : vall'.ownBlock = vall.ownBlock ∨ vall'.ownBlock = some w1.heap.size) :
    Mid w F T { p with all := p.all ++ [.leaf s] } (gall ++ [.leaf s]) (w4.setCell ⟨T, 6, none⟩ vall') := by
  have hr := h.pushAll hb hg hown (hloc.imp id (fun e => ⟨_, e, Nat.le_refl _⟩))
  exact Mid.of hr.2 (by rw [size_setCell]; exact ⟨_, _, _, _, _, hr.1⟩)
end

theorem info_branch : (Try.prog.info? 165).map (fun i => (i.zero, i.size, i.bytes)) = some (some .nilIface, 1, 16) := by kernel_rfl

set_option maxRecDepth 20000 in
set_option maxHeartbeats 4000000 in
theorem tree_state1 (w : World) (F : Nat → Prop) (T : Nat) (p : PT) (v : Value) (u : List Int) (ok : Nat → Prop) (gall : List GB) (ht : TreeAtG w F T p gall) (hu : SI w ok v u) (hul : u.length ≤ 100000) (hal : p.access.length ≤ 100000) (hpl : p.place.length ≤ 100000) (hgl : p.all.length ≤ 100000) :
    Calls Try.prog 105 #[.pointer (some ⟨T, 0, none⟩), v] w (fun e w' => e = .returned (.int .i64 p.access.length) ∧
      Mid w F T { p with access := p.access ++ [u], place := p.place ++ [p.all.length], all := p.all ++ [.leaf p.access.length] } (gall ++ [.leaf p.access.length]) w') := by
  obtain ⟨vall, vacc, vplace, vword, vaccs, h⟩ := ht
  have c7 := h.c7
  have f7 := h.fz 7
  have HT := Lib.hid h
  have hlacc := h.accl
  obtain ⟨Aa, ca, e⟩ := own_slice h.acc
  have hTne : vacc.ownBlock ≠ some T := fun e => h.ne_acc e rfl
  have HTne := Lib.hid hTne
  have HTlt := Lib.hid (h.flt T (h.fmut T (.inl rfl)))
  subst e
  have Hu := Lib.hid hu
  obtain ⟨Au, cu, rfl, _, _⟩ := hu.open
  have hvl : vaccs.length ≤ 100000 := by omega
  have Hvl := Lib.hid hlacc
  clear hu h hlacc hTne
  go_enter Try.func105, Try.ntmps105
  go_upto_region 2 with (fail)
  go_cut [5] (fun s5 wx => s5 = .int .i64 vaccs.length ∧ Mid w F T { p with access := p.access ++ [u] } gall wx)
  case first =>
    go_region_law (first
      | (refine step_append rfl (.tmp 15) (.tmp 18) 32 rfl 0 29 (.slice none 0 0) 1 24 Try.underlying32 info_ints rfl (by decide) (by decide) _ vaccs.length vaccs rfl (Hown.out.alloc _) (some ⟨w1.heap.size, 0, none⟩) 1 1 [.slice A5 u.length c5] rfl rfl (RV.new _ _ _ _ rfl).any (by simp [Value.oneCell']) (by omega) (Nat.zero_le _) ?_
         intro v4 w4 hown4 hg4 hloc4
         obtain ⟨A6, c6, rfl⟩ := own_slice hown4
         have e7 := hg4.cell (cell_alloc d7 _) (fun e => HTne.out e.symm)
         have i7 := (World.frozen?_of_block (a := ⟨T, 7, none⟩) (hg4.block T (Nat.lt_of_lt_of_le HT1.out (below_alloc w1 _).size) (fun e => HTne.out e.symm))).trans ((World.frozen?_of_block (a := ⟨T, 7, none⟩) ((below_alloc w1 _).block T HT1.out)).trans g7)
         have Hown4 := Lib.hid hown4
         have Hg4 := Lib.hid hg4
         have Hloc4 := Lib.hid hloc4
         clear hown4 hg4 hloc4)
      | (go_simp
         go_at_call 101
         refine (slices_Clone _ u _ ok (Hu.out.below ((Below.refl _ _).drew)) (by omega)).mono ?_
         rintro e w1 ⟨v1, rfl, ho, hb⟩
         obtain ⟨A5, c5, rfl⟩ := own_slice ho
         have d7 := (hb.cell (World.block_lt_of_cell? w _ c7)).trans c7
         have x7 := fun o => cell_alloc d7 o
         have g7 := (hb.frozen (p := ⟨T, 7, none⟩) HTlt.out).trans f7
         have Hown : Hid (w1.ownsRow 0 29 1 (.slice Aa vaccs.length ca) vaccs.length vaccs) := own_below HT.out.acc (below_then ((Below.refl _ _).drew) hb)
         have Ho := Lib.hid ho
         have Hb := Lib.hid (below_then ((Below.refl w.heap.size w).drew) hb)
         have HT1 := Lib.hid (Nat.lt_of_lt_of_le HTlt.out Hb.out.size)
         clear ho hb))
    all_goals
      go_wp2_with fail
      go_meet
      exact ⟨rfl, acc_step HT.out Hb.out Ho.out Hg4.out Hown4.out Hloc4.out⟩
  case rest =>
    obtain ⟨rfl, hmid⟩ := hcut
    obtain ⟨hm1, F1, hF1, hF1', vall1, vacc1, vplace1, vword1, vaccs1, h⟩ := hmid
    have Hm1 := Lib.hid hm1; have HF1 := Lib.hid hF1; have HF1' := Lib.hid hF1'
    have d8 := h.c8
    have d6 := h.c6
    have g8 := h.fz 8
    have hga : gall.length = p.all.length := by have := h.pall; rw [← List.length_map (f := GB.pb), this]
    have H1 := Lib.hid h
    obtain ⟨Ap, cp, e⟩ := own_slice h.place
    obtain ⟨Al, cl, el⟩ := own_slice h.all
    have HPne := Lib.hid (fun e => h.ne_place (k := T) e rfl)
    have HTl1 := Lib.hid (h.flt T (h.fmut T (.inl rfl)))
    subst e el
    have hgl1 : gall.length ≤ 100000 := by omega
    have Hga := Lib.hid hga
    clear c7 f7 HT HTne HTlt Hu h hm1 hF1 hF1' hga
    simp only at d8
    go_upto_region 3 with (fail)
    go_cut [5] (fun s5 wx => s5 = .int .i64 vaccs.length ∧ Mid wc F1 T { p with access := p.access ++ [u], place := p.place ++ [gall.length] } gall wx)
    case first =>
      have x8 := fun o => cell_alloc d8 o
      have x6 := fun o => cell_alloc d6 o
      go_region_law (first
        | (refine step_append rfl (.tmp 26) (.tmp 32) 29 rfl 0 3 (.int .i64 0) 1 8 Try.underlying29 info_int rfl (by decide) (by decide) _ p.place.length (ints (p.place.map Int.ofNat)) rfl (own_below H1.out.place (((Below.refl wc.heap.size wc).drew).alloc (Nat.le_refl _) (.cells #[.int .i64 gall.length] 3))) (some ⟨wc.heap.size, 0, none⟩) 1 1 [.int .i64 gall.length] rfl rfl (RV.new _ _ _ _ rfl).any (by simp [Value.oneCell']) (by omega) (Nat.zero_le _) ?_
           intro v4 w4 hown4 hg4 hloc4
           obtain ⟨A6, c6, rfl⟩ := own_slice hown4
           have e8 := hg4.cell (cell_alloc d8 _) (fun e => HPne.out e.symm)
           have i8 := (World.frozen?_of_block (a := ⟨T, 8, none⟩) (hg4.block T (Nat.lt_of_lt_of_le HTl1.out (below_alloc wc _).size) (fun e => HPne.out e.symm))).trans ((World.frozen?_of_block (a := ⟨T, 8, none⟩) ((below_alloc wc _).block T HTl1.out)).trans g8)
           have Hown4 := Lib.hid hown4
           have Hg4 := Lib.hid hg4
           have Hloc4 := Lib.hid hloc4
           clear hown4 hg4 hloc4))
      all_goals
        go_wp2_with fail
        go_meet
        exact ⟨rfl, place_step H1.out (((Below.refl wc.heap.size wc).drew).alloc (Nat.le_refl _) (.cells #[.int .i64 gall.length] 3)) Hg4.out Hown4.out Hloc4.out⟩
    case rest =>
      obtain ⟨rfl, hm2, F2, hF2, hF2', vall2, vacc2, vplace2, vword2, vaccs2, h⟩ := hcut
      have Hm2 := Lib.hid hm2; have HF2 := Lib.hid hF2; have HF2' := Lib.hid hF2'
      have d6 := h.c6
      have g6 := h.fz 6
      have hga2 : gall.length = p.all.length := by have := h.pall; rw [← List.length_map (f := GB.pb), this]
      have H2 := Lib.hid h
      obtain ⟨Al2, cl2, el⟩ := own_slice h.all
      have HAne := Lib.hid (fun e => h.ne_all (k := T) e rfl)
      have HTl2 := Lib.hid (h.flt T (h.fmut T (.inl rfl)))
      subst el
      clear h hm2 hF2 hF2' hga2
      go_wp2_with (at_builtin
                   refine wpl_append (o := ⟨some 45, _, _, _, _, _⟩) rfl (.tmp 40) (.tmp 44) 141 rfl 0 165 .nilIface 1 16 Try.underlying141 info_branch rfl (by decide) (by decide) _ gall.length (gall.map GB.val) rfl (H2.out.all.alloc _) (some ⟨wc.heap.size, 0, none⟩) 1 1 [(GB.leaf vaccs.length).val] rfl rfl (RV.new _ _ _ _ rfl).any (by simp [GB.val, Value.oneCell']) (by omega) (Nat.zero_le _) ?_
                   intro v4 w4 hown4 hg4 hloc4
                   obtain ⟨A6, c6, rfl⟩ := own_slice hown4
                   have e6 := hg4.cell (cell_alloc d6 _) (fun e => HAne.out e.symm)
                   have i6 := (World.frozen?_of_block (a := ⟨T, 6, none⟩) (hg4.block T (Nat.lt_of_lt_of_le HTl2.out (below_alloc wc _).size) (fun e => HAne.out e.symm))).trans ((World.frozen?_of_block (a := ⟨T, 6, none⟩) ((below_alloc wc _).block T HTl2.out)).trans g6)
                   have Hown4 := Lib.hid hown4
                   have Hg4 := Lib.hid hg4
                   have Hloc4 := Lib.hid hloc4
                   clear hown4 hg4 hloc4)
      go_ret
      have hs := all_step H2.out (below_alloc ..) Hg4.out Hown4.out Hloc4.out
      have hs2 := Mid.after Hm2.out HF2.out HF2'.out hs
      have hs3 := Mid.after Hm1.out HF1.out HF1'.out hs2
      refine ⟨ret_int (by rw [Hvl.out]), ?_⟩
      rw [← Hga.out, ← Hvl.out]
      exact hs3
end Go.Proofs.Ytoafjmfnnbpnoaa
