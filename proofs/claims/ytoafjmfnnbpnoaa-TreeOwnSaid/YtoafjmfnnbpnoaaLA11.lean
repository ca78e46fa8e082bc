/-
  What TreeOwn answers: true.
-/
import Derived.Test.YtoafjmfnnbpnoaaLA10
set_option linter.unusedVariables false
set_option linter.unusedSimpArgs false
namespace Go.Proofs.Ytoafjmfnnbpnoaa
open Go Go.RowKit

set_option maxRecDepth 20000 in
set_option maxHeartbeats 4000000 in
theorem TreeOwn_in (w : World) (m : Mach) (vm v1 v2 : Value) (words by_ : List (List Int)) (ok ok1 ok2 : Nat → Prop) (hm : MachV w ok vm m) (h1 : SL w ok1 v1 words) (h2 : SL w ok2 v2 by_) (h : TreeOwnIn m words by_) :
    Calls Try.prog 6 #[vm, v1, v2] w fun e w' => e = .returned (.bool true) ∧ Below w.heap.size w w' := by
  obtain ⟨f1, f2, f3, f4⟩ := h
  have G := Lib.hid ((rightF_iff m).1 f2)
  have F1 := Lib.hid f1
  have F2 := Lib.hid f2
  have F3 := Lib.hid f3
  have F4 := Lib.hid f4
  clear f1 f2 f3 f4
  have HM := Lib.hid hm; have H1 := Lib.hid h1; have H2 := Lib.hid h2
  obtain ⟨A1, c1, A2, c2, rfl, hs1, hs2, _, _, hm1, hm2⟩ := hm.open
  obtain ⟨Aw, cw, rfl, hcw, hcw2⟩ := h1.open
  obtain ⟨Ab, cb, rfl, hcb, hcb2⟩ := h2.open
  clear hs1 hs2 hm h1 h2
  go_enter Try.func6, Try.ntmps6
  go_wp2_with fail
  obtain ⟨W0, hW0⟩ : ∃ W0, W0 = w.alloc (machObj m A1 A2 c1 c2) := ⟨_, rfl⟩
  have HX0 : Hid (BoxI w m A1 A2 c1 c2 W0) := by show BoxI _ _ _ _ _ _ _; rw [hW0]; exact BoxI.new ..
  have hw0 : w.alloc (.cells #[.int .i64 m.kind, .int .i64 m.k, .int .i64 m.o, .int .i64 m.n, .slice A1 m.next.length c1, .slice A2 m.out.length c2] 31) = W0 := by rw [hW0]
  rw [hw0]
  clear hw0 hW0
  refine (M_Big _ m 20 W0 _ (HM.out.at_ HX0.out.1)).mono ?_
  rintro e w1 ⟨he, hb⟩
  rw [F1.out] at he
  subst he
  have HX1 := Lib.hid (HX0.out.below hb)
  clear hb
  obtain ⟨y0, y1, y2, y3, y4, y5⟩ := box_cells HX1.out.2
  go_wp2_with fail
  refine (M_Right _ m w1 _ (HM.out.at_ HX1.out.1)).mono ?_
  rintro e w2 ⟨he, hb⟩
  rw [F2.out] at he
  subst he
  have HX2 := Lib.hid (HX1.out.below hb)
  clear hb y0 y1 y2 y3 y4 y5
  obtain ⟨y0, y1, y2, y3, y4, y5⟩ := box_cells HX2.out.2
  go_wp2_with fail
  refine (l14_right _ words m.k w2 _ (H1.out.at_ HX2.out.1)).mono ?_
  rintro e w3 ⟨he, rfl⟩
  rw [F3.out] at he
  subst he
  go_wp2_with fail
  refine (l14_right _ by_ m.k w2 _ (H2.out.at_ HX2.out.1)).mono ?_
  rintro e w3 ⟨he, rfl⟩
  rw [F4.out] at he
  subst he
  go_wp2_with fail
  clear y0 y1 y2 y3 y4 y5
  refine (l14_grown w2 m _ _ _ words by_ _ _ _ G.out (HM.out.at_ HX2.out.1) (H1.out.at_ HX2.out.1) (H2.out.at_ HX2.out.1) F3.out F4.out).mono ?_
  rintro e w5 ⟨T, rfl, hb5, p, F, hF, ht, hi, _⟩
  have hFw : ∀ k, F k → w.heap.size < k := fun k hk => Nat.lt_of_lt_of_le (Array.getElem?_eq_some_iff.1 HX2.out.2).1 (hF k hk)
  have HX5 := Lib.hid (HX2.out.below hb5)
  have hwl : words.length ≤ 12 := by have := F3.out; unfold rightL at this; simp at this; exact this.1
  have HF5 := Lib.hid hFw; have HT5 := Lib.hid ht; have HI5 := Lib.hid hi
  clear hb5 hF ht hi hFw
  obtain ⟨y0, y1, y2, y3, y4, y5⟩ := box_cells HX5.out.2
  go_wp2_with fail
  refine (l14_grown w5 m _ _ _ [] [] _ (fun _ => False) (fun _ => False) G.out (HM.out.at_ HX5.out.1) (SL.nil _ _) (SL.nil _ _) (by simp [rightL]) (by simp [rightL])).mono ?_
  rintro e w6 ⟨To, rfl, hb6, po, Fo, hFo, hto, hio, hpo⟩
  have hpo := hpo rfl
  subst hpo
  have HX6 := Lib.hid (HX5.out.below hb6); have HT6 := Lib.hid (HT5.out.below hb6); have HTo := Lib.hid hto
  have HFo := Lib.hid hFo; have HFol := Lib.hid hto.lt; have HFl := Lib.hid HT5.out.lt
  have Hb6 := Lib.hid hb6
  clear hb6 hFo hto hio y0 y1 y2 y3 y4 y5
  obtain ⟨N, hN⟩ : ∃ N, p.access.length = N := ⟨_, rfl⟩
  have HN := Lib.hid hN
  have hNb : N ≤ 100 := by have := HI5.out.acl; omega
  obtain ⟨C, hC⟩ : ∃ C, 1 + 3 * words.length = C := ⟨_, rfl⟩
  have hC8 : C ≤ 100 := by omega
  rw [hC] at HI5
  have hdis : ∀ k, Fo k → ¬ F k := fun k h1 h2 => by have := HFl.out k h2; have := HFo.out k h1; omega
  have Hdis := Lib.hid hdis
  clear hN hC hdis HFl HX5 HT5 HFo HX2 HX1 HX0
  go_wp2_with fail
  go_loopw [11, 12] (fun a t wr => ∃ (k : Nat) (vall : Value) (vs : List Value) (yss : List (List Int)), t = .int .i64 k ∧ k ≤ N ∧ vs.length ≤ 200 * k ∧ Hid (a = vall) ∧ Hid (Coll w6 wr vall vs yss)) (fun _ t _ => N - (intOf t).toNat)
  case atStart => exact ⟨0, _, [], [], rfl, Nat.zero_le _, Nat.zero_le _, rfl, Below.refl _ _, World.ownsRow_nil .., ARows.nil _ _, fun u hu => by simp at hu⟩
  case round =>
    obtain ⟨k, vall, vs, yss, rfl, hk, hvl, HA, HC⟩ := hrel
    have HCn := Lib.hid (tree_Count wr F T p (HT6.out.below HC.out.below))
    go_wp2_with fail
    refine HCn.out.mono ?_
    rintro e w8 ⟨he, rfl⟩
    rw [HN.out] at he
    subst he
    clear HCn
    by_cases hlt : k < N
    · obtain ⟨hac, hao, hal⟩ := HI5.out.acc_law (s := k) (by rw [HN.out]; exact hlt)
      have HAc := Lib.hid (tree_Access wr F T p k (HT6.out.below HC.out.below) HI5.out.acc_len)
      obtain ⟨a, ha⟩ : ∃ a, gL p.access k = a := ⟨_, rfl⟩
      rw [ha] at hac hao hal
      have Hac := Lib.hid hac
      clear ha hac hao
      go_wp2_with fail
      refine HAc.out.mono ?_
      rintro e w8 ⟨va, he, ho8, hb8⟩
      rw [Hac.out] at he ho8
      subst he
      obtain ⟨Aa, ca, e⟩ := own_slice ho8
      subst e
      have Ho8 := Lib.hid ho8; have Hb8 := Lib.hid hb8
      have HAc2 := Lib.hid (tree_Access w8 F T p k (HT6.out.below (below_then HC.out.below hb8)) HI5.out.acc_len)
      clear ho8 hb8 HAc
      go_wp2_with fail
      refine HAc2.out.mono ?_
      rintro e w9 ⟨vb, he, ho9, hb9⟩
      rw [Hac.out] at he ho9
      subst he
      obtain ⟨Ab9, cb9, e⟩ := own_slice ho9
      subst e
      have Ho9 := Lib.hid ho9; have Hb9 := Lib.hid hb9
      have HC9 := Lib.hid (HC.out.keep (below_then Hb8.out hb9))
      have HO2 := Lib.hid (own_below HC9.out.own (below_alloc w9 (.cells #[.slice Aa a.length ca, .slice Ab9 a.length cb9] 29)))
      have Hbys : Hid ((vs.length + 2) * 24 ≤ 140737488355328) := by show _ ≤ _; omega
      have Hsz : Hid (w6.heap.size ≤ (w9.alloc (.cells #[.slice Aa a.length ca, .slice Ab9 a.length cb9] 29)).heap.size) := by show _ ≤ _; have := HC9.out.below.size; simp; omega
      clear ho9 hb9 HAc2 Hac
      go_wp2_with (at_builtin; refine wpl_append rfl (.tmp 84) (.tmp 87) 32 rfl w6.heap.size 29 (.slice none 0 0) 1 24 Try.underlying32 info_ints rfl (by decide) (by decide) vall _ vs HA.out HO2.out (some ⟨w9.heap.size, 0, none⟩) 2 2 [.slice Aa a.length ca, .slice Ab9 a.length cb9] rfl rfl (RV.new w9 _ _ _ rfl).any (by simp [Value.oneCell']) Hbys.out Hsz.out ?_; intro v10 w10 hown10 hg10 hloc10; have Hown10 := Lib.hid hown10; have Hg10 := Lib.hid hg10; clear hown10 hg10 hloc10)
      have HC10 : Hid (Coll w6 w10 v10 (vs ++ [.slice Aa a.length ca, .slice Ab9 a.length cb9]) (yss ++ [a, a])) := HC.out.push2 Hb8.out Ho8.out Hb9.out Ho9.out (below_alloc ..) (by omega) (by omega) Hown10.out Hg10.out
      have hvl2 : (vs ++ [Value.slice Aa a.length ca, .slice Ab9 a.length cb9]).length ≤ 200 * k + 2 := by simp; omega
      obtain ⟨vs2, hvs2⟩ : ∃ x, vs ++ [Value.slice Aa a.length ca, .slice Ab9 a.length cb9] = x := ⟨_, rfl⟩
      obtain ⟨yss2, hyss2⟩ : ∃ x, yss ++ [a, a] = x := ⟨_, rfl⟩
      rw [hvs2] at HC10 hvl2
      rw [hyss2] at HC10
      clear hvs2 hyss2 HO2 Hbys Hsz HC9 Hown10 Hg10 Hb8 Hb9 Ho8 Ho9 HC HA hvl
      go_wp2_with fail
      go_loopw [11, 17] (fun b t wq => ∃ (x : Nat) (vall : Value) (vs : List Value) (yss : List (List Int)), t = .int .i64 x ∧ x ≤ k ∧ vs.length ≤ 200 * k + 2 + x ∧ Hid (b = vall) ∧ Hid (Coll w6 wq vall vs yss)) (fun _ t _ => k - (intOf t).toNat)
      case atStart => exact ⟨0, _, vs2, yss2, rfl, Nat.zero_le _, hvl2, rfl, HC10.out⟩
      case round =>
        clear HC10 hvl2
        obtain ⟨x, vall, vs, yss, rfl, hx, hvl, HA, HC⟩ := hrel
        by_cases hxl : x < k
        · obtain ⟨c, hcm, hco, hcl, _⟩ := HI5.out.common_law (s := k) (u := x) (by rw [HN.out]; exact hlt) (by rw [HN.out]; omega) (by omega)
          have HCo := Lib.hid (tree_Common wr F T p k x (HT6.out.below HC.out.below) HI5.out.sane (fun _ => HI5.out.oneBoth (by rw [HN.out]; exact hlt)) HI5.out.ne HI5.out.nodes_by)
          have Hcm := Lib.hid hcm
          clear hcm hco
          go_wp2_with fail
          refine HCo.out.mono ?_
          rintro e w11 ⟨vc, he, ho11, hb11⟩
          rw [Hcm.out] at he ho11
          subst he
          obtain ⟨Ac2, cc2, e⟩ := own_slice ho11
          subst e
          have Ho11 := Lib.hid ho11; have Hb11 := Lib.hid hb11
          have HC11 := Lib.hid (HC.out.keep hb11)
          have HO2 := Lib.hid (own_below HC11.out.own (below_alloc w11 (.cells #[.slice Ac2 c.length cc2] 29)))
          have Hbys : Hid ((vs.length + 1) * 24 ≤ 140737488355328) := by show _ ≤ _; omega
          have Hsz : Hid (w6.heap.size ≤ (w11.alloc (.cells #[.slice Ac2 c.length cc2] 29)).heap.size) := by show _ ≤ _; have := HC11.out.below.size; simp; omega
          clear ho11 hb11 HCo Hcm
          go_wp2_with (at_builtin; refine wpl_append rfl (.tmp 101) (.tmp 103) 32 rfl w6.heap.size 29 (.slice none 0 0) 1 24 Try.underlying32 info_ints rfl (by decide) (by decide) vall _ vs HA.out HO2.out (some ⟨w11.heap.size, 0, none⟩) 1 1 [.slice Ac2 c.length cc2] rfl rfl (RV.new w11 _ _ _ rfl).any (by simp [Value.oneCell']) Hbys.out Hsz.out ?_; intro v12 w12 hown12 hg12 hloc12; have Hown12 := Lib.hid hown12; have Hg12 := Lib.hid hg12; clear hown12 hg12 hloc12)
          have HC12 : Hid (Coll w6 w12 v12 (vs ++ [.slice Ac2 c.length cc2]) (yss ++ [c])) := HC.out.push Hb11.out Ho11.out (below_alloc ..) (by omega) Hown12.out Hg12.out
          have hvl2 : (vs ++ [Value.slice Ac2 c.length cc2]).length ≤ 200 * k + 2 + (x + 1) := by simp; omega
          clear HO2 Hbys Hsz HC11 Hown12 Hg12 Hb11 Ho11 HC HA hvl
          go_wp2_with fail
          go_roundw
          case rel => exact ⟨x + 1, _, _, _, by go_num, by omega, hvl2, rfl, HC12.out⟩
          case measure => simp [intOf]; omega
        · go_wp2_with fail
          go_roundw
          case rel => exact ⟨k + 1, _, _, _, by go_num, by omega, by omega, HA.out, HC.out⟩
          case measure => simp [intOf]; omega
    · have hvn : vs.length ≤ 100000 := by omega
      have HAp := Lib.hid (W_Apart wr vall vs yss w6.heap.size _ (own_reads HC.out.own) HC.out.rows (fun k hk => HC.out.rows.outer_ne HC.out.own hk.1) HC.out.below.size hvn HC.out.len)
      have Hav := HA.out
      subst Hav
      go_wp2_with fail
      refine HAp.out.mono ?_
      rintro e w10 ⟨rfl, hm10⟩
      have hR : ∀ k, RowBlk vs k → w6.heap.size ≤ k := fun k hk => (HC.out.rows.lt hk).1
      have hbase : w.heap.size < w6.heap.size := (Array.getElem?_eq_some_iff.1 HX6.out.2).1
      have HX10 : Hid (BoxI w m A1 A2 c1 c2 w10) := (HX6.out.below HC.out.below).mod hm10 (fun k hk => by have := hR k hk; omega)
      have HT10 : Hid (TreeAt w10 F T p) := (HT6.out.below HC.out.below).mod hm10 (fun k hk hf => by have := hR k hf; have := HT6.out.lt k hk; omega)
      have HTo10 : Hid (TreeAt w10 Fo To (newP m.kind m.k m.o)) := (HTo.out.below HC.out.below).mod hm10 (fun k hk hf => by have := hR k hf; have := HFol.out k hk; omega)
      have Hge : Hid (w6.heap.size ≤ w10.heap.size) := Nat.le_trans HC.out.below.size hm10.size
      clear hm10 hR hbase HAp HC HA HT6 HTo HX6 hvl hvn
      go_wp2_with fail
      go_loopw [20] (fun t wr => ∃ (k : Nat) (p' : PT) (F' : Nat → Prop), t = .int .i64 k ∧ k ≤ N ∧ Hid (p'.access.length = N) ∧ Hid (BoxI w m A1 A2 c1 c2 wr) ∧ Hid (∀ k, F' k → w.heap.size < k) ∧ Hid (TreeAt wr F' T p') ∧ Hid (TInv m C p') ∧ Hid (TreeAt wr Fo To (newP m.kind m.k m.o)) ∧ Hid (∀ k, Fo k → ¬ F' k) ∧ Hid (w6.heap.size ≤ wr.heap.size)) (fun t _ => N - (intOf t).toNat)
      case atStart => exact ⟨0, p, F, rfl, Nat.zero_le _, HN.out, HX10.out, HF5.out, HT10.out, HI5.out, HTo10.out, Hdis.out, Hge.out⟩
      case round =>
        clear HN HX10 HF5 HT10 HI5 HTo10 Hdis Hge
        obtain ⟨k, p', F', rfl, hk, HN, HX, HF, HT, HI, HTo, Hdis, Hge⟩ := hrel
        have HCn := Lib.hid (tree_Count wr F' T p' HT.out)
        go_wp2_with fail
        refine HCn.out.mono ?_
        rintro e w8 ⟨he, rfl⟩
        rw [HN.out] at he
        subst he
        clear HCn
        by_cases hlt : k < N
        · obtain ⟨hac, hao, hal⟩ := HI.out.acc_law (s := k) (by rw [HN.out]; exact hlt)
          have HAc := Lib.hid (tree_Access wr F' T p' k HT.out HI.out.acc_len)
          obtain ⟨a, ha⟩ : ∃ a, gL p'.access k = a := ⟨_, rfl⟩
          rw [ha] at hac hao hal
          have Hac := Lib.hid hac; have Ha := Lib.hid ha; have Hao := Lib.hid hao
          clear ha hac hao
          go_wp2_with fail
          refine HAc.out.mono ?_
          rintro e w8 ⟨va, he, ho8, hb8⟩
          rw [Hac.out] at he ho8
          subst he
          obtain ⟨Aa, ca, e⟩ := own_slice ho8
          subst e
          have Ho8 := Lib.hid ho8; have HX8 := Lib.hid (HX.out.below hb8); have HT8 := Lib.hid (HT.out.below hb8)
          have HTo8 := Lib.hid (HTo.out.below hb8); have Hge8 := Lib.hid (Nat.le_trans Hge.out hb8.size)
          clear ho8 hb8 HAc Hac
          obtain ⟨y0, y1, y2, y3, y4, y5⟩ := box_cells HX8.out.2
          go_wp2_with fail
          refine (l14_brought_good w8 F' T p' m _ _ a _ _ G.out HI.out (by omega) Hao.out hal HT8.out (HM.out.at_ HX8.out.1) (own_reads Ho8.out) (fun k hk hf => by have := HF.out k hf; omega)).mono ?_
          rintro e w9 ⟨p2, s2, j2, n2, rfl, hm9, ⟨F9, hF9, hS9, ht9⟩, hE9⟩
          obtain ⟨hsame, hs2⟩ : Same3 p' p2 ∧ s2 = k := by
            rw [← Ha.out] at hE9
            exact hE9.acc HI.out (by rw [HN.out]; exact hlt)
          subst hs2
          have HX9 := Lib.hid (HX8.out.mod hm9 HF.out)
          have HF9 : Hid (∀ k, F9 k → w.heap.size < k) := fun k hk => (hF9 k hk).elim (HF.out k) (fun h => Nat.lt_of_lt_of_le (Array.getElem?_eq_some_iff.1 HX8.out.2).1 h)
          have HT9 := Lib.hid ht9; have HI9 := Lib.hid (HI.out.same hsame hE9.inv)
          have HN9 : Hid (p2.access.length = N) := by show _ = _; rw [hsame.2.1]; exact HN.out
          have HTo9 : Hid (TreeAt w9 Fo To (newP m.kind m.k m.o)) := HTo8.out.mod hm9 Hdis.out
          have Hdis9 : Hid (∀ k, Fo k → ¬ F9 k) := fun k h1 h2 => (hF9 k h2).elim (Hdis.out k h1) (fun h => by have := HFol.out k h1; have := Hge8.out; omega)
          have Hge9 := Lib.hid (Nat.le_trans Hge8.out hm9.size)
          clear hm9 hF9 hS9 ht9 hE9 y0 y1 y2 y3 y4 y5 hsame HX8 HT8 Ho8 HX HT HI HF HN Ha HTo8 Hge8
          go_wp2_with fail
          go_roundw
          case rel => exact ⟨s2 + 1, p2, F9, by go_num, by omega, HN9.out, HX9.out, HF9.out, HT9.out, HI9.out, HTo9.out, Hdis9.out, Hge9.out⟩
          case measure => simp [intOf]; omega
        · have HCo := Lib.hid (tree_Count wr Fo To _ HTo.out)
          have e1 : (newP m.kind m.k m.o).access.length = 1 := rfl
          have E1 := Lib.hid e1
          clear e1
          go_wp2_with fail
          refine HCo.out.mono ?_
          rintro e w8 ⟨he, rfl⟩
          rw [E1.out] at he
          subst he
          go_wp2_with fail
          refine (l14_live _).mono ?_
          rintro e w10 ⟨rfl, hb10⟩
          have Hb10 := Lib.hid hb10
          clear hb10
          go_wp2_with fail
          go_ret
          exact ⟨rfl, below_then HX.out.1 Hb10.out⟩
theorem TreeOwn_walk (w : World) (m : Mach) (vm v1 v2 : Value) (words by_ : List (List Int)) (ok ok1 ok2 : Nat → Prop) (hm : MachV w ok vm m) (h1 : SL w ok1 v1 words) (h2 : SL w ok2 v2 by_) :
    Calls Try.prog 6 #[vm, v1, v2] w fun e w' => e = .returned (.bool true) ∧ Below w.heap.size w w' := by
  by_cases h : TreeOwnIn m words by_
  · exact TreeOwn_in w m vm v1 v2 words by_ ok ok1 ok2 hm h1 h2 h
  · exact TreeOwn_out w m vm v1 v2 words by_ ok ok1 ok2 hm h1 h2 h
end Go.Proofs.Ytoafjmfnnbpnoaa
