/-
  What TreeTrue answers: true.
-/
import Derived.Test.YtoafjmfnnbpnoaaLA5
set_option linter.unusedVariables false
set_option linter.unusedSimpArgs false
namespace Go.Proofs.Ytoafjmfnnbpnoaa
open Go Go.RowKit

set_option maxRecDepth 20000 in
set_option maxHeartbeats 4000000 in
theorem TreeTrue_in (w : World) (m : Mach) (vm v1 v2 vu: Value) (words by_ : List (List Int)) (u : List Int) (ok ok1 ok2 oku: Nat → Prop) (hm : MachV w ok vm m) (h1 : SL w ok1 v1 words) (h2 : SL w ok2 v2 by_) (hu : SI w oku vu u) (h : TreeTrueIn m words by_ u) :
    Calls Try.prog 4 #[vm, v1, v2, vu] w fun e w' => e = .returned (.bool true) ∧ Below w.heap.size w w' := by
  obtain ⟨f1, f2, f3, f4, f5⟩ := h
  have G := Lib.hid ((rightF_iff m).1 f2)
  have F1 := Lib.hid f1
  have F2 := Lib.hid f2
  have F3 := Lib.hid f3
  have F4 := Lib.hid f4
  have F5 := Lib.hid f5
  clear f1 f2 f3 f4 f5
  have HM := Lib.hid hm; have H1 := Lib.hid h1; have H2 := Lib.hid h2
  have HUu := Lib.hid hu
  obtain ⟨A1, c1, A2, c2, rfl, hs1, hs2, _, _, hm1, hm2⟩ := hm.open
  obtain ⟨Aw, cw, rfl, hcw, hcw2⟩ := h1.open
  obtain ⟨Ab, cb, rfl, hcb, hcb2⟩ := h2.open
  obtain ⟨Au, cu, rfl, hcu, hdu⟩ := hu.open
  clear hs1 hs2 hm h1 h2 hu
  go_enter Try.func4, Try.ntmps4
  go_wp2_with fail
  obtain ⟨W0, hW0⟩ : ∃ W0, W0 = w.alloc (machObj m A1 A2 c1 c2) := ⟨_, rfl⟩
  have HX0 : Hid (BoxI w m A1 A2 c1 c2 W0) := by show BoxI _ _ _ _ _ _ _; rw [hW0]; exact BoxI.new ..
  have hw0 : w.alloc (.cells #[.int .i64 m.kind, .int .i64 m.k, .int .i64 m.o, .int .i64 m.n, .slice A1 m.next.length c1, .slice A2 m.out.length c2] 31) = W0 := by rw [hW0]
  rw [hw0]
  clear hw0 hW0
  refine (M_Big _ m 20 W0 _ (HM.out.at_ HX0.out.1)).mono ?_
  rintro e w1 ⟨he, hb⟩
  rw [F1.out] at he
  subst he
  have HX1 := Lib.hid (HX0.out.below hb)
  clear hb
  obtain ⟨y0, y1, y2, y3, y4, y5⟩ := box_cells HX1.out.2
  go_wp2_with fail
  refine (M_Right _ m w1 _ (HM.out.at_ HX1.out.1)).mono ?_
  rintro e w2 ⟨he, hb⟩
  rw [F2.out] at he
  subst he
  have HX2 := Lib.hid (HX1.out.below hb)
  clear hb y0 y1 y2 y3 y4 y5
  obtain ⟨y0, y1, y2, y3, y4, y5⟩ := box_cells HX2.out.2
  go_wp2_with fail
  refine (l14_right _ words m.k w2 _ (H1.out.at_ HX2.out.1)).mono ?_
  rintro e w3 ⟨he, rfl⟩
  rw [F3.out] at he
  subst he
  go_wp2_with fail
  refine (l14_right _ by_ m.k w2 _ (H2.out.at_ HX2.out.1)).mono ?_
  rintro e w3 ⟨he, rfl⟩
  rw [F4.out] at he
  subst he
  have ya1 := fun o => cell_alloc y1 o
  go_wp2_with fail
  obtain ⟨W4, hW4⟩ : ∃ W, W = w2.alloc (.cells #[.slice Au u.length cu] 29) := ⟨_, rfl⟩
  have hl : SL W4 Any (.slice (some ⟨w2.heap.size, 0, none⟩) 1 1) [u] := by rw [hW4]; exact SL_one w2 _ u _ (HUu.out.at_ HX2.out.1) _
  have HX4 : Hid (BoxI w m A1 A2 c1 c2 W4) := HX2.out.below (by rw [hW4]; exact below_alloc ..)
  rw [← hW4]
  clear hW4 ya1 y0 y1 y2 y3 y4 y5
  refine (l14_right _ [u] m.k W4 _ hl).mono ?_
  rintro e w3 ⟨he, rfl⟩
  rw [F5.out] at he
  subst he
  clear hl
  obtain ⟨y0, y1, y2, y3, y4, y5⟩ := box_cells HX4.out.2
  go_wp2_with fail
  have hok : ∀ x ∈ ([u] : List (List Int)), OkW m.k x ∧ x.length ≤ 12 := fun x hx => by
    have := F5.out; unfold rightL at this; rw [Bool.and_eq_true, List.all_eq_true] at this
    have := (rightU_iff m.k x).1 (this.2 x hx); exact ⟨this.1.2, this.2⟩
  have Hoku := Lib.hid (hok u (by simp))
  clear hok
  refine (l14_grown W4 m _ _ _ words by_ _ _ _ G.out (HM.out.at_ HX4.out.1) (H1.out.at_ HX4.out.1) (H2.out.at_ HX4.out.1) F3.out F4.out).mono ?_
  rintro e w5 ⟨T, rfl, hb5, p, F, hF, ht, hi, _⟩
  have hFw : ∀ k, F k → w.heap.size < k := fun k hk => Nat.lt_of_lt_of_le (Array.getElem?_eq_some_iff.1 HX4.out.2).1 (hF k hk)
  have HX5 := Lib.hid (HX4.out.below hb5)
  have hwl : words.length ≤ 12 := by have := F3.out; unfold rightL at this; simp at this; exact this.1
  have HF5 := Lib.hid hFw; have HT5 := Lib.hid ht; have HI5 := Lib.hid hi
  clear hb5 hF ht hi hFw y0 y1 y2 y3 y4 y5
  obtain ⟨y0, y1, y2, y3, y4, y5⟩ := box_cells HX5.out.2
  go_wp2_with fail
  refine (tree_Depth w5 F T p HT5.out HI5.out.sane HI5.out.ne).mono ?_
  rintro e w6 ⟨rfl, hb6⟩
  have HX6 := Lib.hid (HX5.out.below hb6); have HT6 := Lib.hid (HT5.out.below hb6)
  obtain ⟨D, hD⟩ : ∃ D, depthP p = D := ⟨_, rfl⟩
  rw [hD]
  have HD := Lib.hid hD
  clear hb6 hD y0 y1 y2 y3 y4 y5
  obtain ⟨y0, y1, y2, y3, y4, y5⟩ := box_cells HX6.out.2
  go_wp2_with fail
  refine (l14_brought_good w6 F T p m _ _ u _ _ G.out HI5.out (by omega) Hoku.out.1 Hoku.out.2 HT6.out (HM.out.at_ HX6.out.1) (HUu.out.at_ HX6.out.1) (fun k hk hf => by have := HF5.out k hf; omega)).mono ?_
  rintro e w7 ⟨p1, s1, j1, n1, rfl, hm7, ⟨F7, hF7, hS7, ht7⟩, hE7⟩
  have hle : n1 ≤ D := by have := hE7.deep; rw [HD.out] at this; exact this
  have HX7 := Lib.hid (HX6.out.mod hm7 HF5.out)
  have HF7 : Hid (∀ k, F7 k → w.heap.size < k) := fun k hk => (hF7 k hk).elim (HF5.out k) (fun h => Nat.lt_of_lt_of_le (Array.getElem?_eq_some_iff.1 HX6.out.2).1 h)
  have HT7 := Lib.hid ht7; have HI7 := Lib.hid hE7.inv
  clear hm7 hF7 hS7 ht7 hE7 y0 y1 y2 y3 y4 y5 HD HT6 HT5 HX6 HX5 HI5 HF5 HX4 HX2 HX1 HX0
  obtain ⟨N, hN⟩ : ∃ N, p1.access.length = N := ⟨_, rfl⟩
  have HN1 := Lib.hid hN
  have hNb : N ≤ 100 := by have := HI7.out.acl; omega
  obtain ⟨C, hC⟩ : ∃ C, 1 + 3 * words.length + 1 = C := ⟨_, rfl⟩
  have hC8 : C ≤ 100 := by omega
  rw [hC] at HI7
  have hgd : decide (D < n1) = false := decide_eq_false (by omega)
  clear hN hC hle
  go_wp2_with fail
  go_loopw [14] (fun t wr => ∃ (k : Nat) (p' : PT) (F' : Nat → Prop), t = .int .i64 k ∧ k ≤ N ∧ Hid (p'.access.length = N) ∧ Hid (BoxI w m A1 A2 c1 c2 wr) ∧ Hid (∀ k, F' k → w.heap.size < k) ∧ Hid (TreeAt wr F' T p') ∧ Hid (TInv m C p')) (fun t _ => N - (intOf t).toNat)
  case atStart => exact ⟨0, p1, F7, rfl, Nat.zero_le _, HN1.out, HX7.out, HF7.out, HT7.out, HI7.out⟩
  case round =>
    clear HN1 HX7 HF7 HT7 HI7
    obtain ⟨k, p', F', rfl, hk, HN, HX, HF, HT, HI⟩ := hrel
    have HCn := Lib.hid (tree_Count wr F' T p' HT.out)
    go_wp2_with fail
    refine HCn.out.mono ?_
    rintro e w8 ⟨he, rfl⟩
    rw [HN.out] at he
    subst he
    clear HCn
    by_cases hlt : k < N
    · obtain ⟨hac, hao, hal⟩ := HI.out.acc_law (s := k) (by rw [HN.out]; exact hlt)
      have HAc := Lib.hid (tree_Access wr F' T p' k HT.out HI.out.acc_len)
      obtain ⟨a, ha⟩ : ∃ a, gL p'.access k = a := ⟨_, rfl⟩
      rw [ha] at hac hao hal
      have Hac := Lib.hid hac; have Ha := Lib.hid ha; have Hao := Lib.hid hao
      clear ha hac hao
      go_wp2_with fail
      refine HAc.out.mono ?_
      rintro e w8 ⟨va, he, ho8, hb8⟩
      rw [Hac.out] at he ho8
      subst he
      obtain ⟨Aa, ca, e⟩ := own_slice ho8
      subst e
      have Ho8 := Lib.hid ho8; have HX8 := Lib.hid (HX.out.below hb8); have HT8 := Lib.hid (HT.out.below hb8); have HFl := Lib.hid HT.out.lt
      clear ho8 hb8 HAc Hac
      obtain ⟨y0, y1, y2, y3, y4, y5⟩ := box_cells HX8.out.2
      go_wp2_with fail
      refine (l14_brought_good w8 F' T p' m _ _ a _ _ G.out HI.out (by omega) Hao.out hal HT8.out (HM.out.at_ HX8.out.1) (own_reads Ho8.out) (fun k hk hf => by have := HF.out k hf; omega)).mono ?_
      rintro e w9 ⟨p2, s2, j2, n2, rfl, hm9, ⟨F9, hF9, hS9, ht9⟩, hE9⟩
      obtain ⟨hsame, hs2⟩ : Same3 p' p2 ∧ s2 = k := by
        rw [← Ha.out] at hE9
        exact hE9.acc HI.out (by rw [HN.out]; exact hlt)
      subst hs2
      have HX9 := Lib.hid (HX8.out.mod hm9 HF.out)
      have HF9 : Hid (∀ k, F9 k → w.heap.size < k) := fun k hk => (hF9 k hk).elim (HF.out k) (fun h => Nat.lt_of_lt_of_le (Array.getElem?_eq_some_iff.1 HX8.out.2).1 h)
      have HT9 := Lib.hid ht9; have HI9 := Lib.hid (HI.out.same hsame hE9.inv)
      have HN9 : Hid (p2.access.length = N) := by show _ = _; rw [hsame.2.1]; exact HN.out
      have Ha9 : Hid (gL p2.access s2 = a) := by show _ = _; rw [hsame.2.1]; exact Ha.out
      have Ho9 := Lib.hid (own_mod_tree (T := T) (p := p') Ho8.out hm9 HFl.out)
      clear hm9 hF9 hS9 ht9 hE9 y0 y1 y2 y3 y4 y5 hsame HX8 HT8 Ho8 HX HT HI HF HN Ha HFl
      go_wp2_with fail
      go_loopw [20] (fun t wq => ∃ x : Nat, t = .int .i64 x ∧ x ≤ s2 ∧ Hid (Below w9.heap.size w9 wq)) (fun t _ => s2 - (intOf t).toNat)
      case atStart => exact ⟨0, rfl, Nat.zero_le _, Below.refl _ _⟩
      case round =>
        obtain ⟨x, rfl, hx, HB⟩ := hrel
        by_cases hxl : x < s2
        · have HXq := Lib.hid (HX9.out.below HB.out); have HTq := Lib.hid (HT9.out.below HB.out)
          obtain ⟨hbc, hbo, hbl⟩ := HI9.out.acc_law (s := x) (by rw [HN9.out]; omega)
          have HAc := Lib.hid (tree_Access wr F9 T p2 x HTq.out HI9.out.acc_len)
          obtain ⟨c, hcm, hco, hcl, hne⟩ := HI9.out.common_law (s := s2) (u := x) (by rw [HN9.out]; exact hlt) (by rw [HN9.out]; omega) (by omega)
          obtain ⟨b, hb⟩ : ∃ b, gL p2.access x = b := ⟨_, rfl⟩
          rw [hb] at hbc hbo hbl hne
          rw [Ha9.out] at hne
          have Hbc := Lib.hid hbc; have Hbo := Lib.hid hbo; have Hcm := Lib.hid hcm; have Hco := Lib.hid hco; have Hne := Lib.hid hne
          clear hb hbc hbo hcm hco hne
          go_wp2_with fail
          refine HAc.out.mono ?_
          rintro e w10 ⟨vb, he, ho10, hb10⟩
          rw [Hbc.out] at he ho10
          subst he
          obtain ⟨Ab2, cb2, e⟩ := own_slice ho10
          subst e
          have Ho10 := Lib.hid ho10; have Hb10 := Lib.hid hb10
          have HCo := Lib.hid (tree_Common w10 F9 T p2 s2 x (HTq.out.below hb10) HI9.out.sane (fun _ => HI9.out.oneBoth (by rw [HN9.out]; exact hlt)) HI9.out.ne HI9.out.nodes_by)
          clear ho10 hb10 HAc
          go_wp2_with fail
          refine HCo.out.mono ?_
          rintro e w11 ⟨vc, he, ho11, hb11⟩
          rw [Hcm.out] at he ho11
          subst he
          obtain ⟨Ac2, cc2, e⟩ := own_slice ho11
          subst e
          have Ho11 := Lib.hid ho11; have Hb11 := Lib.hid hb11
          have H911 := Lib.hid (below_then (below_then HB.out Hb10.out) hb11)
          clear ho11 hb11 HCo
          have HX11 := Lib.hid (HX9.out.below H911.out)
          have Hd11 := Lib.hid ((Below.refl w11.heap.size w11).drew)
          have HMw : Hid (∀ W, Below w11.heap.size w11 W → MachV W (fun k => k < w.heap.size) (.agg #[.int .i64 m.kind, .int .i64 m.k, .int .i64 m.o, .int .i64 m.n, .slice A1 m.next.length c1, .slice A2 m.out.length c2]) m) := fun W hb => HM.out.at_ (below_then HX11.out.1 hb)
          have HGa : Hid (∀ W, Below w11.heap.size w11 W → Calls Try.prog 42 #[.agg #[.int .i64 m.kind, .int .i64 m.k, .int .i64 m.o, .int .i64 m.n, .slice A1 m.next.length c1, .slice A2 m.out.length c2], .slice Aa a.length ca, .slice Ac2 c.length cc2] W (fun x w' => ∃ v', x = .returned v' ∧ OI w' W.heap.size v' (go2F m a c) ∧ Below W.heap.size W w')) :=
            fun W hb => M_Go2 _ _ _ m a c W _ _ _ (HMw.out W hb) (own_reads (own_below Ho9.out (below_then H911.out hb))) (own_reads (own_below Ho11.out hb)) G.out Hao.out Hco.out (by omega) (by omega)
          have HGb : Hid (∀ W, Below w11.heap.size w11 W → Calls Try.prog 42 #[.agg #[.int .i64 m.kind, .int .i64 m.k, .int .i64 m.o, .int .i64 m.n, .slice A1 m.next.length c1, .slice A2 m.out.length c2], .slice Ab2 b.length cb2, .slice Ac2 c.length cc2] W (fun x w' => ∃ v', x = .returned v' ∧ OI w' W.heap.size v' (go2F m b c) ∧ Below W.heap.size W w')) :=
            fun W hb => M_Go2 _ _ _ m b c W _ _ _ (HMw.out W hb) (own_reads (own_below Ho10.out (below_then Hb11.out hb))) (own_reads (own_below Ho11.out hb)) G.out Hbo.out Hco.out (by omega) (by omega)
          obtain ⟨y0, y1, y2, y3, y4, y5⟩ := box_cells HX11.out.2
          go_wp2_with fail
          go_region_held3 (fun W => W.cell? ⟨w.heap.size, 0, none⟩ = some (.int .i64 m.kind) ∧ W.cell? ⟨w.heap.size, 1, none⟩ = some (.int .i64 m.k) ∧ W.cell? ⟨w.heap.size, 2, none⟩ = some (.int .i64 m.o) ∧ W.cell? ⟨w.heap.size, 3, none⟩ = some (.int .i64 m.n) ∧ W.cell? ⟨w.heap.size, 4, none⟩ = some (.slice A1 m.next.length c1) ∧ W.cell? ⟨w.heap.size, 5, none⟩ = some (.slice A2 m.out.length c2))
            (((try dsimp only); ((repeat' apply And.intro) <;> first | assumption | (apply cell_alloc_drew; assumption))))
            (first | (go_at_call 21
                      refine (l14_num _ 0).mono ?_
                      rintro e wn ⟨rfl, rfl⟩)
                   | (go_at_call 42
                      ((with_reducible refine (HGa.out _ Hd11.out).mono ?_))
                      rintro e w12 ⟨v12, rfl, ho12, hb12⟩
                      obtain ⟨A12, c12, e⟩ := own_slice ho12
                      subst e
                      replace y0 := below_cell (below_then Hd11.out hb12) y0
                      replace y1 := below_cell (below_then Hd11.out hb12) y1
                      replace y2 := below_cell (below_then Hd11.out hb12) y2
                      replace y3 := below_cell (below_then Hd11.out hb12) y3
                      replace y4 := below_cell (below_then Hd11.out hb12) y4
                      replace y5 := below_cell (below_then Hd11.out hb12) y5
                      have Ho12 := Lib.hid ho12; have Hb12 := Lib.hid (below_then Hd11.out hb12)
                      clear ho12 hb12)
                   | (go_at_call 42
                      ((with_reducible refine (HGb.out _ Hb12.out).mono ?_))
                      rintro e w13 ⟨v13, rfl, ho13, hb13⟩
                      obtain ⟨A13, c13, e⟩ := own_slice ho13
                      subst e
                      replace y0 := below_cell hb13 y0
                      replace y1 := below_cell hb13 y1
                      replace y2 := below_cell hb13 y2
                      replace y3 := below_cell hb13 y3
                      replace y4 := below_cell hb13 y4
                      replace y5 := below_cell hb13 y5
                      have Ho13 := Lib.hid ho13; have Hb13 := Lib.hid hb13
                      clear ho13 hb13)
                   | (go_at_call 32
                      have HSm := W_Same (.slice A12 (go2F m a c).length c12) (.slice A13 (go2F m b c).length c13) (go2F m a c) (go2F m b c) w13 _ _ (own_reads (own_below Ho12.out Hb13.out)) (own_reads Ho13.out)
                      ((with_reducible refine HSm.mono ?_))
                      clear HSm
                      rintro e w14 ⟨he, hq14⟩
                      rw [decide_eq_false Hne.out] at he
                      subst he
                      replace y0 := below_cell hq14.below y0
                      replace y1 := below_cell hq14.below y1
                      replace y2 := below_cell hq14.below y2
                      replace y3 := below_cell hq14.below y3
                      replace y4 := below_cell hq14.below y4
                      replace y5 := below_cell hq14.below y5
                      have Hb14 := Lib.hid hq14.below
                      clear hq14))
          rename_i hHeld
          clear hHeld HGa HGb
          go_wp2_with fail
          go_roundw
          case rel => exact ⟨x + 1, by go_num, by omega, below_then (below_then (below_then H911.out Hb12.out) Hb13.out) Hb14.out⟩
          case measure => simp [intOf]; omega
        · go_wp2_with fail
          go_roundw
          case rel => exact ⟨s2 + 1, p2, F9, by go_num, by omega, HN9.out, HX9.out.below HB.out, HF9.out, HT9.out.below HB.out, HI9.out⟩
          case measure => simp [intOf]; omega
    · go_wp2_with fail
      refine (l14_live _).mono ?_
      rintro e w10 ⟨rfl, hb10⟩
      have Hb10 := Lib.hid hb10
      clear hb10
      go_wp2_with fail
      go_ret
      exact ⟨rfl, below_then HX.out.1 Hb10.out⟩
theorem TreeTrue_walk (w : World) (m : Mach) (vm v1 v2 vu: Value) (words by_ : List (List Int)) (u : List Int) (ok ok1 ok2 oku: Nat → Prop) (hm : MachV w ok vm m) (h1 : SL w ok1 v1 words) (h2 : SL w ok2 v2 by_) (hu : SI w oku vu u) :
    Calls Try.prog 4 #[vm, v1, v2, vu] w fun e w' => e = .returned (.bool true) ∧ Below w.heap.size w w' := by
  by_cases h : TreeTrueIn m words by_ u
  · exact TreeTrue_in w m vm v1 v2 vu words by_ u ok ok1 ok2 oku hm h1 h2 hu h
  · exact TreeTrue_out w m vm v1 v2 vu words by_ u ok ok1 ok2 oku hm h1 h2 hu h
end Go.Proofs.Ytoafjmfnnbpnoaa
