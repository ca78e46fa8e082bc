/-
  What TreeAlike answers: true.
-/
import Derived.Test.YtoafjmfnnbpnoaaLA6
set_option linter.unusedVariables false
set_option linter.unusedSimpArgs false
namespace Go.Proofs.Ytoafjmfnnbpnoaa
open Go Go.RowKit

set_option maxRecDepth 20000 in
set_option maxHeartbeats 4000000 in
theorem TreeAlike_in (w : World) (m : Mach) (vm v1 v2 vv vu: Value) (words by_ : List (List Int)) (v u : List Int) (ok ok1 ok2 okv oku: Nat → Prop) (hm : MachV w ok vm m) (h1 : SL w ok1 v1 words) (h2 : SL w ok2 v2 by_) (hv : SI w okv vv v) (hu : SI w oku vu u) (h : TreeAlikeIn m words by_ v u) :
    Calls Try.prog 5 #[vm, v1, v2, vv, vu] w fun e w' => e = .returned (.bool true) ∧ Below w.heap.size w w' := by
  obtain ⟨f1, f2, f3, f4, f5⟩ := h
  have G := Lib.hid ((rightF_iff m).1 f2)
  have F1 := Lib.hid f1
  have F2 := Lib.hid f2
  have F3 := Lib.hid f3
  have F4 := Lib.hid f4
  have F5 := Lib.hid f5
  clear f1 f2 f3 f4 f5
  have HM := Lib.hid hm; have H1 := Lib.hid h1; have H2 := Lib.hid h2
  have HUv := Lib.hid hv
  have HUu := Lib.hid hu
  obtain ⟨A1, c1, A2, c2, rfl, hs1, hs2, _, _, hm1, hm2⟩ := hm.open
  obtain ⟨Aw, cw, rfl, hcw, hcw2⟩ := h1.open
  obtain ⟨Ab, cb, rfl, hcb, hcb2⟩ := h2.open
  obtain ⟨Av, cv, rfl, hcv, hdv⟩ := hv.open
  obtain ⟨Au, cu, rfl, hcu, hdu⟩ := hu.open
  clear hs1 hs2 hm h1 h2 hv hu
  go_enter Try.func5, Try.ntmps5
  go_wp2_with fail
  obtain ⟨W0, hW0⟩ : ∃ W0, W0 = w.alloc (machObj m A1 A2 c1 c2) := ⟨_, rfl⟩
  have HX0 : Hid (BoxI w m A1 A2 c1 c2 W0) := by show BoxI _ _ _ _ _ _ _; rw [hW0]; exact BoxI.new ..
  have hw0 : w.alloc (.cells #[.int .i64 m.kind, .int .i64 m.k, .int .i64 m.o, .int .i64 m.n, .slice A1 m.next.length c1, .slice A2 m.out.length c2] 31) = W0 := by rw [hW0]
  rw [hw0]
  clear hw0 hW0
  refine (M_Big _ m 20 W0 _ (HM.out.at_ HX0.out.1)).mono ?_
  rintro e w1 ⟨he, hb⟩
  rw [F1.out] at he
  subst he
  have HX1 := Lib.hid (HX0.out.below hb)
  clear hb
  obtain ⟨y0, y1, y2, y3, y4, y5⟩ := box_cells HX1.out.2
  go_wp2_with fail
  refine (M_Right _ m w1 _ (HM.out.at_ HX1.out.1)).mono ?_
  rintro e w2 ⟨he, hb⟩
  rw [F2.out] at he
  subst he
  have HX2 := Lib.hid (HX1.out.below hb)
  clear hb y0 y1 y2 y3 y4 y5
  obtain ⟨y0, y1, y2, y3, y4, y5⟩ := box_cells HX2.out.2
  go_wp2_with fail
  refine (l14_right _ words m.k w2 _ (H1.out.at_ HX2.out.1)).mono ?_
  rintro e w3 ⟨he, rfl⟩
  rw [F3.out] at he
  subst he
  go_wp2_with fail
  refine (l14_right _ by_ m.k w2 _ (H2.out.at_ HX2.out.1)).mono ?_
  rintro e w3 ⟨he, rfl⟩
  rw [F4.out] at he
  subst he
  have ya1 := fun o => cell_alloc y1 o
  go_wp2_with fail
  obtain ⟨W4, hW4⟩ : ∃ W, W = w2.alloc (.cells #[.slice Av v.length cv, .slice Au u.length cu] 29) := ⟨_, rfl⟩
  have hl : SL W4 Any (.slice (some ⟨w2.heap.size, 0, none⟩) 2 2) [v, u] := by rw [hW4]; exact SL_pair w2 _ _ v u _ _ (HUv.out.at_ HX2.out.1) (HUu.out.at_ HX2.out.1) _
  have HX4 : Hid (BoxI w m A1 A2 c1 c2 W4) := HX2.out.below (by rw [hW4]; exact below_alloc ..)
  rw [← hW4]
  clear hW4 ya1 y0 y1 y2 y3 y4 y5
  refine (l14_right _ [v, u] m.k W4 _ hl).mono ?_
  rintro e w3 ⟨he, rfl⟩
  rw [F5.out] at he
  subst he
  clear hl
  obtain ⟨y0, y1, y2, y3, y4, y5⟩ := box_cells HX4.out.2
  go_wp2_with fail
  have hok : ∀ x ∈ ([v, u] : List (List Int)), OkW m.k x ∧ x.length ≤ 12 := fun x hx => by
    have := F5.out; unfold rightL at this; rw [Bool.and_eq_true, List.all_eq_true] at this
    have := (rightU_iff m.k x).1 (this.2 x hx); exact ⟨this.1.2, this.2⟩
  have Hokv := Lib.hid (hok v (by simp))
  have Hoku := Lib.hid (hok u (by simp))
  clear hok
  refine (l14_grown W4 m _ _ _ words by_ _ _ _ G.out (HM.out.at_ HX4.out.1) (H1.out.at_ HX4.out.1) (H2.out.at_ HX4.out.1) F3.out F4.out).mono ?_
  rintro e w5 ⟨T, rfl, hb5, p, F, hF, ht, hi, _⟩
  have hFw : ∀ k, F k → w.heap.size < k := fun k hk => Nat.lt_of_lt_of_le (Array.getElem?_eq_some_iff.1 HX4.out.2).1 (hF k hk)
  have HX5 := Lib.hid (HX4.out.below hb5)
  have hwl : words.length ≤ 12 := by have := F3.out; unfold rightL at this; simp at this; exact this.1
  have HF5 := Lib.hid hFw; have HT5 := Lib.hid ht; have HI5 := Lib.hid hi
  clear hb5 hF ht hi hFw y0 y1 y2 y3 y4 y5
  obtain ⟨y0, y1, y2, y3, y4, y5⟩ := box_cells HX5.out.2
  go_wp2_with fail
  have hn1 := G.out.n1
  refine (M_Go _ _ m v 0 w5 _ _ (HM.out.at_ HX5.out.1) (HUv.out.at_ HX5.out.1) G.out Hokv.out.1 ⟨by omega, by omega⟩ (by have := Hokv.out.2; omega)).mono ?_
  rintro e w6 ⟨vg, rfl, hog, hb6⟩
  obtain ⟨Ag, cg, e⟩ := own_slice hog
  subst e
  have HX6 := Lib.hid (HX5.out.below hb6); have HT6 := Lib.hid (HT5.out.below hb6)
  clear hog hb6 y0 y1 y2 y3 y4 y5
  obtain ⟨y0, y1, y2, y3, y4, y5⟩ := box_cells HX6.out.2
  go_wp2_with fail
  refine (M_Go _ _ m u 0 w6 _ _ (HM.out.at_ HX6.out.1) (HUu.out.at_ HX6.out.1) G.out Hoku.out.1 ⟨by omega, by omega⟩ (by have := Hoku.out.2; omega)).mono ?_
  rintro e w7 ⟨vg2, rfl, hog, hb7⟩
  obtain ⟨Ag2, cg2, e⟩ := own_slice hog
  subst e
  have HX7 := Lib.hid (HX6.out.below hb7); have HT7 := Lib.hid (HT6.out.below hb7)
  clear hog hb7 y0 y1 y2 y3 y4 y5
  obtain ⟨q1, hq1⟩ : ∃ q, goS m 0 v = q := ⟨_, rfl⟩
  obtain ⟨q2, hq2⟩ : ∃ q, goS m 0 u = q := ⟨_, rfl⟩
  rw [hq1, hq2]
  have Hq1 := Lib.hid hq1; have Hq2 := Lib.hid hq2
  clear hq1 hq2 hn1
  by_cases hpq : q1 = q2
  · have hne : (q1 != q2) = false := by simp [hpq]
    have Hpq := Lib.hid hpq
    clear hpq
    have HfE : Hid (go2F m v = go2F m u) := by show _ = _; funext e; unfold go2F; rw [Hq1.out, Hq2.out, Hpq.out]
    obtain ⟨y0, y1, y2, y3, y4, y5⟩ := box_cells HX7.out.2
    go_wp2_with fail
    refine (l14_brought_good w7 F T p m _ _ v _ _ G.out HI5.out (by omega) Hokv.out.1 Hokv.out.2 HT7.out (HM.out.at_ HX7.out.1) (HUv.out.at_ HX7.out.1) (fun k hk hf => by have := HF5.out k hf; omega)).mono ?_
    rintro e w8 ⟨p', s1, j1, n1, rfl, hm8, ⟨F8, hF8, hS8, ht8⟩, hE8⟩
    have HX8 := Lib.hid (HX7.out.mod hm8 HF5.out)
    have HF8 : Hid (∀ k, F8 k → w.heap.size < k) := fun k hk => (hF8 k hk).elim (HF5.out k) (fun h => Nat.lt_of_lt_of_le (Array.getElem?_eq_some_iff.1 HX7.out.2).1 h)
    have HT8 := Lib.hid ht8; have HE8 := Lib.hid hE8
    clear hm8 hF8 hS8 ht8 hE8 y0 y1 y2 y3 y4 y5
    obtain ⟨y0, y1, y2, y3, y4, y5⟩ := box_cells HX8.out.2
    go_wp2_with fail
    refine (l14_brought_good w8 F8 T p' m _ _ u _ _ G.out HE8.out.inv (by omega) Hoku.out.1 Hoku.out.2 HT8.out (HM.out.at_ HX8.out.1) (HUu.out.at_ HX8.out.1) (fun k hk hf => by have := HF8.out k hf; omega)).mono ?_
    rintro e w9 ⟨p2, s2, j2, n2, rfl, hm9, ⟨F9, hF9, hS9, ht9⟩, hE9⟩
    have HX9 := Lib.hid (HX8.out.mod hm9 HF8.out)
    have hs : s2 = s1 := by
      obtain ⟨k1, hw1⟩ := HE8.out.way
      rw [HfE.out] at hw1
      exact (hE9.known hw1 HE8.out.leaf).2.1
    subst hs
    clear hm9 hF9 hS9 ht9 hE9 y0 y1 y2 y3 y4 y5
    go_wp2_with fail
    refine (l14_live _).mono ?_
    rintro e w10 ⟨rfl, hb10⟩
    have Hb10 := Lib.hid hb10
    clear hb10
    go_wp2_with fail
    go_ret
    exact ⟨rfl, below_then HX9.out.1 Hb10.out⟩
  · have hne : (q1 != q2) = true := by simp [hpq]
    clear hpq
    go_wp2_with fail
    refine (l14_live _).mono ?_
    rintro e w10 ⟨rfl, hb10⟩
    have Hb10 := Lib.hid hb10
    clear hb10
    go_wp2_with fail
    go_ret
    exact ⟨rfl, below_then HX7.out.1 Hb10.out⟩
theorem TreeAlike_walk (w : World) (m : Mach) (vm v1 v2 vv vu: Value) (words by_ : List (List Int)) (v u : List Int) (ok ok1 ok2 okv oku: Nat → Prop) (hm : MachV w ok vm m) (h1 : SL w ok1 v1 words) (h2 : SL w ok2 v2 by_) (hv : SI w okv vv v) (hu : SI w oku vu u) :
    Calls Try.prog 5 #[vm, v1, v2, vv, vu] w fun e w' => e = .returned (.bool true) ∧ Below w.heap.size w w' := by
  by_cases h : TreeAlikeIn m words by_ v u
  · exact TreeAlike_in w m vm v1 v2 vv vu words by_ v u ok ok1 ok2 okv oku hm h1 h2 hv hu h
  · exact TreeAlike_out w m vm v1 v2 vv vu words by_ v u ok ok1 ok2 okv oku hm h1 h2 hv hu h
end Go.Proofs.Ytoafjmfnnbpnoaa
