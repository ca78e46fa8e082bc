/-
  What TreeTrue answers where nothing is asked: true.
-/
import Derived.Test.YtoafjmfnnbpnoaaLA4
set_option linter.unusedVariables false
set_option linter.unusedSimpArgs false
namespace Go.Proofs.Ytoafjmfnnbpnoaa
open Go Go.RowKit

/-- Of what is no right input nothing is asked. -/
def TreeTrueIn (m : Mach) (words by_ : List (List Int)) (u : List Int) : Prop := bigF m 20 = false ∧ rightF m = true ∧ rightL words m.k = true ∧ rightL by_ m.k = true ∧ rightL [u] m.k = true
set_option maxRecDepth 20000 in
theorem TreeTrue_out1 (w : World) (m : Mach) (vm v1 v2 vu: Value) (words by_ : List (List Int)) (u : List Int) (ok ok1 ok2 oku: Nat → Prop) (hm : MachV w ok vm m) (h1 : SL w ok1 v1 words) (h2 : SL w ok2 v2 by_) (hu : SI w oku vu u) (f1 : bigF m 20 = true) :
    Calls Try.prog 4 #[vm, v1, v2, vu] w fun e w' => e = .returned (.bool true) ∧ Below w.heap.size w w' := by
  have F1 := Lib.hid f1
  clear f1
  have HM := Lib.hid hm; have H1 := Lib.hid h1; have H2 := Lib.hid h2
  have HUu := Lib.hid hu
  obtain ⟨A1, c1, A2, c2, rfl, hs1, hs2, _, _, hm1, hm2⟩ := hm.open
  obtain ⟨Aw, cw, rfl, hcw, hcw2⟩ := h1.open
  obtain ⟨Ab, cb, rfl, hcb, hcb2⟩ := h2.open
  obtain ⟨Au, cu, rfl, hcu, hdu⟩ := hu.open
  clear hs1 hs2 hm h1 h2 hu
  go_enter Try.func4, Try.ntmps4
  go_wp2_with fail
  obtain ⟨W0, hW0⟩ : ∃ W0, W0 = w.alloc (machObj m A1 A2 c1 c2) := ⟨_, rfl⟩
  have HX0 : Hid (BoxI w m A1 A2 c1 c2 W0) := by show BoxI _ _ _ _ _ _ _; rw [hW0]; exact BoxI.new ..
  have hw0 : w.alloc (.cells #[.int .i64 m.kind, .int .i64 m.k, .int .i64 m.o, .int .i64 m.n, .slice A1 m.next.length c1, .slice A2 m.out.length c2] 31) = W0 := by rw [hW0]
  rw [hw0]
  clear hw0 hW0
  refine (M_Big _ m 20 W0 _ (HM.out.at_ HX0.out.1)).mono ?_
  rintro e w1 ⟨he, hb⟩
  rw [F1.out] at he
  subst he
  have HX1 := Lib.hid (HX0.out.below hb)
  clear hb
  obtain ⟨y0, y1, y2, y3, y4, y5⟩ := box_cells HX1.out.2
  go_wp2_with fail
  refine (l14_live _).mono ?_
  rintro e w9 ⟨rfl, hb9⟩
  have Hb9 := Lib.hid hb9
  clear hb9
  go_wp2_with fail
  go_ret
  exact ⟨rfl, below_then HX1.out.1 Hb9.out⟩
set_option maxRecDepth 20000 in
theorem TreeTrue_out2 (w : World) (m : Mach) (vm v1 v2 vu: Value) (words by_ : List (List Int)) (u : List Int) (ok ok1 ok2 oku: Nat → Prop) (hm : MachV w ok vm m) (h1 : SL w ok1 v1 words) (h2 : SL w ok2 v2 by_) (hu : SI w oku vu u) (f1 : bigF m 20 = false) (f2 : rightF m = false) :
    Calls Try.prog 4 #[vm, v1, v2, vu] w fun e w' => e = .returned (.bool true) ∧ Below w.heap.size w w' := by
  have F1 := Lib.hid f1
  have F2 := Lib.hid f2
  clear f1 f2
  have HM := Lib.hid hm; have H1 := Lib.hid h1; have H2 := Lib.hid h2
  have HUu := Lib.hid hu
  obtain ⟨A1, c1, A2, c2, rfl, hs1, hs2, _, _, hm1, hm2⟩ := hm.open
  obtain ⟨Aw, cw, rfl, hcw, hcw2⟩ := h1.open
  obtain ⟨Ab, cb, rfl, hcb, hcb2⟩ := h2.open
  obtain ⟨Au, cu, rfl, hcu, hdu⟩ := hu.open
  clear hs1 hs2 hm h1 h2 hu
  go_enter Try.func4, Try.ntmps4
  go_wp2_with fail
  obtain ⟨W0, hW0⟩ : ∃ W0, W0 = w.alloc (machObj m A1 A2 c1 c2) := ⟨_, rfl⟩
  have HX0 : Hid (BoxI w m A1 A2 c1 c2 W0) := by show BoxI _ _ _ _ _ _ _; rw [hW0]; exact BoxI.new ..
  have hw0 : w.alloc (.cells #[.int .i64 m.kind, .int .i64 m.k, .int .i64 m.o, .int .i64 m.n, .slice A1 m.next.length c1, .slice A2 m.out.length c2] 31) = W0 := by rw [hW0]
  rw [hw0]
  clear hw0 hW0
  refine (M_Big _ m 20 W0 _ (HM.out.at_ HX0.out.1)).mono ?_
  rintro e w1 ⟨he, hb⟩
  rw [F1.out] at he
  subst he
  have HX1 := Lib.hid (HX0.out.below hb)
  clear hb
  obtain ⟨y0, y1, y2, y3, y4, y5⟩ := box_cells HX1.out.2
  go_wp2_with fail
  refine (M_Right _ m w1 _ (HM.out.at_ HX1.out.1)).mono ?_
  rintro e w2 ⟨he, hb⟩
  rw [F2.out] at he
  subst he
  have HX2 := Lib.hid (HX1.out.below hb)
  clear hb y0 y1 y2 y3 y4 y5
  obtain ⟨y0, y1, y2, y3, y4, y5⟩ := box_cells HX2.out.2
  go_wp2_with fail
  refine (l14_live _).mono ?_
  rintro e w9 ⟨rfl, hb9⟩
  have Hb9 := Lib.hid hb9
  clear hb9
  go_wp2_with fail
  go_ret
  exact ⟨rfl, below_then HX2.out.1 Hb9.out⟩
set_option maxRecDepth 20000 in
theorem TreeTrue_out3 (w : World) (m : Mach) (vm v1 v2 vu: Value) (words by_ : List (List Int)) (u : List Int) (ok ok1 ok2 oku: Nat → Prop) (hm : MachV w ok vm m) (h1 : SL w ok1 v1 words) (h2 : SL w ok2 v2 by_) (hu : SI w oku vu u) (f1 : bigF m 20 = false) (f2 : rightF m = true) (f3 : rightL words m.k = false) :
    Calls Try.prog 4 #[vm, v1, v2, vu] w fun e w' => e = .returned (.bool true) ∧ Below w.heap.size w w' := by
  have F1 := Lib.hid f1
  have F2 := Lib.hid f2
  have F3 := Lib.hid f3
  clear f1 f2 f3
  have HM := Lib.hid hm; have H1 := Lib.hid h1; have H2 := Lib.hid h2
  have HUu := Lib.hid hu
  obtain ⟨A1, c1, A2, c2, rfl, hs1, hs2, _, _, hm1, hm2⟩ := hm.open
  obtain ⟨Aw, cw, rfl, hcw, hcw2⟩ := h1.open
  obtain ⟨Ab, cb, rfl, hcb, hcb2⟩ := h2.open
  obtain ⟨Au, cu, rfl, hcu, hdu⟩ := hu.open
  clear hs1 hs2 hm h1 h2 hu
  go_enter Try.func4, Try.ntmps4
  go_wp2_with fail
  obtain ⟨W0, hW0⟩ : ∃ W0, W0 = w.alloc (machObj m A1 A2 c1 c2) := ⟨_, rfl⟩
  have HX0 : Hid (BoxI w m A1 A2 c1 c2 W0) := by show BoxI _ _ _ _ _ _ _; rw [hW0]; exact BoxI.new ..
  have hw0 : w.alloc (.cells #[.int .i64 m.kind, .int .i64 m.k, .int .i64 m.o, .int .i64 m.n, .slice A1 m.next.length c1, .slice A2 m.out.length c2] 31) = W0 := by rw [hW0]
  rw [hw0]
  clear hw0 hW0
  refine (M_Big _ m 20 W0 _ (HM.out.at_ HX0.out.1)).mono ?_
  rintro e w1 ⟨he, hb⟩
  rw [F1.out] at he
  subst he
  have HX1 := Lib.hid (HX0.out.below hb)
  clear hb
  obtain ⟨y0, y1, y2, y3, y4, y5⟩ := box_cells HX1.out.2
  go_wp2_with fail
  refine (M_Right _ m w1 _ (HM.out.at_ HX1.out.1)).mono ?_
  rintro e w2 ⟨he, hb⟩
  rw [F2.out] at he
  subst he
  have HX2 := Lib.hid (HX1.out.below hb)
  clear hb y0 y1 y2 y3 y4 y5
  obtain ⟨y0, y1, y2, y3, y4, y5⟩ := box_cells HX2.out.2
  go_wp2_with fail
  refine (l14_right _ words m.k w2 _ (H1.out.at_ HX2.out.1)).mono ?_
  rintro e w3 ⟨he, rfl⟩
  rw [F3.out] at he
  subst he
  go_wp2_with fail
  refine (l14_live _).mono ?_
  rintro e w9 ⟨rfl, hb9⟩
  have Hb9 := Lib.hid hb9
  clear hb9
  go_wp2_with fail
  go_ret
  exact ⟨rfl, below_then HX2.out.1 Hb9.out⟩
set_option maxRecDepth 20000 in
theorem TreeTrue_out4 (w : World) (m : Mach) (vm v1 v2 vu: Value) (words by_ : List (List Int)) (u : List Int) (ok ok1 ok2 oku: Nat → Prop) (hm : MachV w ok vm m) (h1 : SL w ok1 v1 words) (h2 : SL w ok2 v2 by_) (hu : SI w oku vu u) (f1 : bigF m 20 = false) (f2 : rightF m = true) (f3 : rightL words m.k = true) (f4 : rightL by_ m.k = false) :
    Calls Try.prog 4 #[vm, v1, v2, vu] w fun e w' => e = .returned (.bool true) ∧ Below w.heap.size w w' := by
  have F1 := Lib.hid f1
  have F2 := Lib.hid f2
  have F3 := Lib.hid f3
  have F4 := Lib.hid f4
  clear f1 f2 f3 f4
  have HM := Lib.hid hm; have H1 := Lib.hid h1; have H2 := Lib.hid h2
  have HUu := Lib.hid hu
  obtain ⟨A1, c1, A2, c2, rfl, hs1, hs2, _, _, hm1, hm2⟩ := hm.open
  obtain ⟨Aw, cw, rfl, hcw, hcw2⟩ := h1.open
  obtain ⟨Ab, cb, rfl, hcb, hcb2⟩ := h2.open
  obtain ⟨Au, cu, rfl, hcu, hdu⟩ := hu.open
  clear hs1 hs2 hm h1 h2 hu
  go_enter Try.func4, Try.ntmps4
  go_wp2_with fail
  obtain ⟨W0, hW0⟩ : ∃ W0, W0 = w.alloc (machObj m A1 A2 c1 c2) := ⟨_, rfl⟩
  have HX0 : Hid (BoxI w m A1 A2 c1 c2 W0) := by show BoxI _ _ _ _ _ _ _; rw [hW0]; exact BoxI.new ..
  have hw0 : w.alloc (.cells #[.int .i64 m.kind, .int .i64 m.k, .int .i64 m.o, .int .i64 m.n, .slice A1 m.next.length c1, .slice A2 m.out.length c2] 31) = W0 := by rw [hW0]
  rw [hw0]
  clear hw0 hW0
  refine (M_Big _ m 20 W0 _ (HM.out.at_ HX0.out.1)).mono ?_
  rintro e w1 ⟨he, hb⟩
  rw [F1.out] at he
  subst he
  have HX1 := Lib.hid (HX0.out.below hb)
  clear hb
  obtain ⟨y0, y1, y2, y3, y4, y5⟩ := box_cells HX1.out.2
  go_wp2_with fail
  refine (M_Right _ m w1 _ (HM.out.at_ HX1.out.1)).mono ?_
  rintro e w2 ⟨he, hb⟩
  rw [F2.out] at he
  subst he
  have HX2 := Lib.hid (HX1.out.below hb)
  clear hb y0 y1 y2 y3 y4 y5
  obtain ⟨y0, y1, y2, y3, y4, y5⟩ := box_cells HX2.out.2
  go_wp2_with fail
  refine (l14_right _ words m.k w2 _ (H1.out.at_ HX2.out.1)).mono ?_
  rintro e w3 ⟨he, rfl⟩
  rw [F3.out] at he
  subst he
  go_wp2_with fail
  refine (l14_right _ by_ m.k w2 _ (H2.out.at_ HX2.out.1)).mono ?_
  rintro e w3 ⟨he, rfl⟩
  rw [F4.out] at he
  subst he
  have ya1 := fun o => cell_alloc y1 o
  go_wp2_with fail
  refine (l14_live _).mono ?_
  rintro e w9 ⟨rfl, hb9⟩
  have Hb9 := Lib.hid hb9
  clear hb9
  go_wp2_with fail
  go_ret
  exact ⟨rfl, below_then HX2.out.1 Hb9.out⟩
set_option maxRecDepth 20000 in
theorem TreeTrue_out5 (w : World) (m : Mach) (vm v1 v2 vu: Value) (words by_ : List (List Int)) (u : List Int) (ok ok1 ok2 oku: Nat → Prop) (hm : MachV w ok vm m) (h1 : SL w ok1 v1 words) (h2 : SL w ok2 v2 by_) (hu : SI w oku vu u) (f1 : bigF m 20 = false) (f2 : rightF m = true) (f3 : rightL words m.k = true) (f4 : rightL by_ m.k = true) (f5 : rightL [u] m.k = false) :
    Calls Try.prog 4 #[vm, v1, v2, vu] w fun e w' => e = .returned (.bool true) ∧ Below w.heap.size w w' := by
  have F1 := Lib.hid f1
  have F2 := Lib.hid f2
  have F3 := Lib.hid f3
  have F4 := Lib.hid f4
  have F5 := Lib.hid f5
  clear f1 f2 f3 f4 f5
  have HM := Lib.hid hm; have H1 := Lib.hid h1; have H2 := Lib.hid h2
  have HUu := Lib.hid hu
  obtain ⟨A1, c1, A2, c2, rfl, hs1, hs2, _, _, hm1, hm2⟩ := hm.open
  obtain ⟨Aw, cw, rfl, hcw, hcw2⟩ := h1.open
  obtain ⟨Ab, cb, rfl, hcb, hcb2⟩ := h2.open
  obtain ⟨Au, cu, rfl, hcu, hdu⟩ := hu.open
  clear hs1 hs2 hm h1 h2 hu
  go_enter Try.func4, Try.ntmps4
  go_wp2_with fail
  obtain ⟨W0, hW0⟩ : ∃ W0, W0 = w.alloc (machObj m A1 A2 c1 c2) := ⟨_, rfl⟩
  have HX0 : Hid (BoxI w m A1 A2 c1 c2 W0) := by show BoxI _ _ _ _ _ _ _; rw [hW0]; exact BoxI.new ..
  have hw0 : w.alloc (.cells #[.int .i64 m.kind, .int .i64 m.k, .int .i64 m.o, .int .i64 m.n, .slice A1 m.next.length c1, .slice A2 m.out.length c2] 31) = W0 := by rw [hW0]
  rw [hw0]
  clear hw0 hW0
  refine (M_Big _ m 20 W0 _ (HM.out.at_ HX0.out.1)).mono ?_
  rintro e w1 ⟨he, hb⟩
  rw [F1.out] at he
  subst he
  have HX1 := Lib.hid (HX0.out.below hb)
  clear hb
  obtain ⟨y0, y1, y2, y3, y4, y5⟩ := box_cells HX1.out.2
  go_wp2_with fail
  refine (M_Right _ m w1 _ (HM.out.at_ HX1.out.1)).mono ?_
  rintro e w2 ⟨he, hb⟩
  rw [F2.out] at he
  subst he
  have HX2 := Lib.hid (HX1.out.below hb)
  clear hb y0 y1 y2 y3 y4 y5
  obtain ⟨y0, y1, y2, y3, y4, y5⟩ := box_cells HX2.out.2
  go_wp2_with fail
  refine (l14_right _ words m.k w2 _ (H1.out.at_ HX2.out.1)).mono ?_
  rintro e w3 ⟨he, rfl⟩
  rw [F3.out] at he
  subst he
  go_wp2_with fail
  refine (l14_right _ by_ m.k w2 _ (H2.out.at_ HX2.out.1)).mono ?_
  rintro e w3 ⟨he, rfl⟩
  rw [F4.out] at he
  subst he
  have ya1 := fun o => cell_alloc y1 o
  go_wp2_with fail
  obtain ⟨W4, hW4⟩ : ∃ W, W = w2.alloc (.cells #[.slice Au u.length cu] 29) := ⟨_, rfl⟩
  have hl : SL W4 Any (.slice (some ⟨w2.heap.size, 0, none⟩) 1 1) [u] := by rw [hW4]; exact SL_one w2 _ u _ (HUu.out.at_ HX2.out.1) _
  have HX4 : Hid (BoxI w m A1 A2 c1 c2 W4) := HX2.out.below (by rw [hW4]; exact below_alloc ..)
  rw [← hW4]
  clear hW4 ya1 y0 y1 y2 y3 y4 y5
  refine (l14_right _ [u] m.k W4 _ hl).mono ?_
  rintro e w3 ⟨he, rfl⟩
  rw [F5.out] at he
  subst he
  clear hl
  obtain ⟨y0, y1, y2, y3, y4, y5⟩ := box_cells HX4.out.2
  go_wp2_with fail
  refine (l14_live _).mono ?_
  rintro e w9 ⟨rfl, hb9⟩
  have Hb9 := Lib.hid hb9
  clear hb9
  go_wp2_with fail
  go_ret
  exact ⟨rfl, below_then HX4.out.1 Hb9.out⟩
theorem TreeTrue_out (w : World) (m : Mach) (vm v1 v2 vu: Value) (words by_ : List (List Int)) (u : List Int) (ok ok1 ok2 oku: Nat → Prop) (hm : MachV w ok vm m) (h1 : SL w ok1 v1 words) (h2 : SL w ok2 v2 by_) (hu : SI w oku vu u) (h : ¬ TreeTrueIn m words by_ u) :
    Calls Try.prog 4 #[vm, v1, v2, vu] w fun e w' => e = .returned (.bool true) ∧ Below w.heap.size w w' := by
  cases f1 : bigF m 20 with
  | true => exact TreeTrue_out1 w m vm v1 v2 vu words by_ u ok ok1 ok2 oku hm h1 h2 hu f1
  | false =>
    cases f2 : rightF m with
    | false => exact TreeTrue_out2 w m vm v1 v2 vu words by_ u ok ok1 ok2 oku hm h1 h2 hu f1 f2
    | true =>
      cases f3 : rightL words m.k with
      | false => exact TreeTrue_out3 w m vm v1 v2 vu words by_ u ok ok1 ok2 oku hm h1 h2 hu f1 f2 f3
      | true =>
        cases f4 : rightL by_ m.k with
        | false => exact TreeTrue_out4 w m vm v1 v2 vu words by_ u ok ok1 ok2 oku hm h1 h2 hu f1 f2 f3 f4
        | true =>
          cases f5 : rightL [u] m.k with
          | false => exact TreeTrue_out5 w m vm v1 v2 vu words by_ u ok ok1 ok2 oku hm h1 h2 hu f1 f2 f3 f4 f5
          | true =>
            exact absurd ⟨f1, f2, f3, f4, f5⟩ h
end Go.Proofs.Ytoafjmfnnbpnoaa
