/-
  What the references' W.Check, M.From, M.Run compute.
-/
import Derived.Test.YtoafjmfnnbpnoaaM4
set_option linter.unusedVariables false
set_option linter.unusedSimpArgs false
namespace Go.Proofs.Ytoafjmfnnbpnoaa
open Go Go.RowKit

theorem W_Check (v : Value) (xs : List Int) (k : Int) (w : World) (ok : Nat → Prop) (hs : SI w ok v xs) :
    Calls Try.prog 63 #[v, .int .i64 k] w fun e w' => e = .returned (pairV (checkF xs k)) ∧ w = w' := by
  obtain ⟨A, c, rfl, hlc, hmx⟩ := hs.open
  by_cases h1 : 1 ≤ k ∧ k ≤ 64
  · obtain ⟨h1a, h1b⟩ := h1
    by_cases h2 : xs.length ≤ 4096
    · have hF : Hid (checkF xs k = match badAt k (xs.drop 0) 0 with | some i => ((i : Int), (10 : Int)) | none => (0, 0)) := by
        show _ = _
        unfold checkF; rw [if_neg (by simp; omega), if_neg (by omega)]; rfl
      go_enter Try.func63, Try.ntmps63
      go_wp2
      go_loop [6] (fun i => ∃ n : Nat, n ≤ xs.length ∧ i = .int .i64 n ∧ Hid (checkF xs k = match badAt k (xs.drop n) n with | some i => ((i : Int), (10 : Int)) | none => (0, 0))) (fun i => xs.length - (intOf i).toNat)
      case atStart => exact ⟨0, Nat.zero_le _, rfl, hF⟩
      case round =>
        clear hF
        obtain ⟨n, hn, rfl, hF⟩ := hrel
        by_cases hlt : n < xs.length
        · obtain ⟨ad, rfl, _, hc⟩ := hs.cell n hlt
          have hb := Lib.hid (badAt_drop k xs n hlt)
          obtain ⟨x, hx⟩ : ∃ x, gI xs n = x := ⟨_, rfl⟩
          rw [hx] at hc
          have Hx := Lib.hid hx
          clear hx
          by_cases hx1 : x < 0
          · go_wp2
            go_ret2
            have e : checkF xs k = ((n : Int), (10 : Int)) := by
              rw [hF.out, hb.out, Hx.out, if_pos (Or.inl hx1)]
            exact ⟨by rw [e]; rfl, rfl⟩
          · by_cases hx2 : x ≥ k
            · go_wp2
              go_ret2
              have e : checkF xs k = ((n : Int), (10 : Int)) := by
                rw [hF.out, hb.out, Hx.out, if_pos (Or.inr hx2)]
              exact ⟨by rw [e]; rfl, rfl⟩
            · go_wp2
              go_round
              case rel => exact ⟨n + 1, by omega, by go_num, by
                show _ = _
                rw [hF.out, hb.out, Hx.out, if_neg (by omega)]⟩
              case measure => simp [intOf]; omega
        · go_wp2
          go_ret2
          have e : checkF xs k = ((0 : Int), (0 : Int)) := by
            rw [hF.out, List.drop_eq_nil_of_le (by omega)]; rfl
          exact ⟨by rw [e]; rfl, rfl⟩
    · have e : checkF xs k = (0, 2) := by unfold checkF; rw [if_neg (by simp; omega), if_pos (by omega)]
      have He := Lib.hid e
      clear e
      go_enter Try.func63, Try.ntmps63
      go_wp2
      go_ret2
      exact ⟨by rw [He.out]; rfl, rfl⟩
  · have e : checkF xs k = (0, 1) := by unfold checkF; rw [if_pos h1]
    have He := Lib.hid e
    clear e
    by_cases h3 : k < 1
    · clear h1
      go_enter Try.func63, Try.ntmps63
      go_wp2
      go_ret2
      exact ⟨by rw [He.out]; rfl, rfl⟩
    · have h4 : k > 64 := by omega
      clear h1
      go_enter Try.func63, Try.ntmps63
      go_wp2
      go_ret2
      exact ⟨by rw [He.out]; rfl, rfl⟩

/-- The six cells of a boxed machine. -/
def BoxAt (w : World) (b : Nat) (kind k o n : Int) (v4 v5 : Value) : Prop :=
  w.cell? ⟨b, 0, none⟩ = some (.int .i64 kind) ∧ w.cell? ⟨b, 1, none⟩ = some (.int .i64 k) ∧ w.cell? ⟨b, 2, none⟩ = some (.int .i64 o) ∧ w.cell? ⟨b, 3, none⟩ = some (.int .i64 n) ∧ w.cell? ⟨b, 4, none⟩ = some v4 ∧ w.cell? ⟨b, 5, none⟩ = some v5
theorem BoxAt.below {w w' : World} {b : Nat} {kind k o n : Int} {v4 v5 : Value} (h : BoxAt w b kind k o n v4 v5) (hb : Below w.heap.size w w') : BoxAt w' b kind k o n v4 v5 := by
  obtain ⟨h0, h1, h2, h3, h4, h5⟩ := h
  exact ⟨(hb.cell (World.block_lt_of_cell? w _ h0)).trans h0, (hb.cell (World.block_lt_of_cell? w _ h1)).trans h1, (hb.cell (World.block_lt_of_cell? w _ h2)).trans h2, (hb.cell (World.block_lt_of_cell? w _ h3)).trans h3, (hb.cell (World.block_lt_of_cell? w _ h4)).trans h4, (hb.cell (World.block_lt_of_cell? w _ h5)).trans h5⟩
theorem BoxAt.new (w : World) (kind k o n : Int) (v4 v5 : Value) (e : TypeId) : BoxAt (w.alloc (.cells #[.int .i64 kind, .int .i64 k, .int .i64 o, .int .i64 n, v4, v5] e)) w.heap.size kind k o n v4 v5 := by
  refine ⟨?_, ?_, ?_, ?_, ?_, ?_⟩ <;> (simp only [World.cell?, heap_alloc_new]; rfl)

set_option maxRecDepth 20000 in
theorem M_From (v vu : Value) (m : Mach) (u : List Int) (s : Int) (w : World) (ok ok3 : Nat → Prop) (h : MachV w ok v m) (hu : SI w ok3 vu u) :
    Calls Try.prog 131 #[v, .int .i64 s, vu] w (FromP w m s u) := by
  have hC := fun v w ok h => Lib.hid (M_Check v m w ok h)
  have hG := fun v vu w ok ok3 h hu g hw hs hum => Lib.hid (M_Go v vu m u s w ok ok3 h hu g hw hs hum)
  have hWC := fun v w ok h => Lib.hid (W_Check v u m.k w ok h)
  have Hh := Lib.hid h; have Hu := Lib.hid hu
  obtain ⟨A1, c1, A2, c2, rfl, hs1, hs2, _, _, hm1, hm2⟩ := h.open
  obtain ⟨Au, cu, rfl, _, _⟩ := hu.open
  have Hb := Lib.hid (below_alloc w (machObj m A1 A2 c1 c2))
  have Hbox := Lib.hid (BoxAt.new w m.kind m.k m.o m.n (.slice A1 m.next.length c1) (.slice A2 m.out.length c2) 31)
  obtain ⟨pc, hpc⟩ : ∃ p, mcheckF m = p := ⟨_, rfl⟩
  obtain ⟨pu, hpu⟩ : ∃ p, checkF u m.k = p := ⟨_, rfl⟩
  have Hpc := Lib.hid hpc
  have Hpu := Lib.hid hpu
  clear h hu hs1 hs2 hpc hpu
  go_enter Try.func131, Try.ntmps131
  go_wp2_with fail
  refine (hC _ _ ok (Hh.out.below Hb.out)).out.mono ?_
  rintro x w1 ⟨he, hb1⟩
  rw [Hpc.out] at he
  subst he
  unfold pairV
  obtain ⟨z0, z1, z2, z3, z4, z5⟩ := Hbox.out.below hb1
  have Hb1 := Lib.hid (below_then Hb.out hb1)
  clear hb1
  by_cases h1 : pc.2 = 0
  · have hb1 : (pc.2 != 0) = false := by simp [h1]
    have H1 := Lib.hid h1
    clear h1
    have Hg : Hid (Good m) := (mcheck_ok m).1 (by rw [Hpc.out]; exact H1.out)
    by_cases hs1 : s < 0
    · have e : Hid (fromF m s u = (0, [], 32)) := by show _ = _; unfold fromF; rw [Hpc.out, if_neg (by simpa using H1.out), if_pos (Or.inl hs1)]
      go_wp2
      go_ret3
      exact ⟨_, by rw [e.out]; rfl, by rw [e.out]; exact World.ownsRow_nil .., Hb1.out⟩
    · by_cases hs2 : s ≥ m.n
      · have e : Hid (fromF m s u = (0, [], 32)) := by show _ = _; unfold fromF; rw [Hpc.out, if_neg (by simpa using H1.out), if_pos (Or.inr hs2)]
        go_wp2
        go_ret3
        exact ⟨_, by rw [e.out]; rfl, by rw [e.out]; exact World.ownsRow_nil .., Hb1.out⟩
      · have Hs : Hid (0 ≤ s ∧ s < m.n) := by show _ ∧ _; omega
        go_wp2_with fail
        refine (hWC _ _ ok3 (Hu.out.below Hb1.out)).out.mono ?_
        rintro x w1' ⟨he, rfl⟩
        rw [Hpu.out] at he
        subst he
        unfold pairV
        by_cases h2 : pu.2 = 0
        · have hb2 : (pu.2 != 0) = false := by simp [h2]
          have H2 := Lib.hid h2
          clear h2
          have Hk : Hid ((1 ≤ m.k ∧ m.k ≤ 64) ∧ u.length ≤ 4096 ∧ OkW m.k u) := (checkF_ok u m.k).1 (by rw [Hpu.out]; exact H2.out)
          have e : Hid (fromF m s u = (goS m s u, goOut m s u, 0)) := by show _ = _; unfold fromF; rw [Hpc.out, Hpu.out, if_neg (by simpa using H1.out), if_neg (by have := Hs.out; omega), if_neg (by simpa using H2.out)]
          go_wp2_with fail
          refine (hG _ _ _ ok ok3 (Hh.out.below Hb1.out) (Hu.out.below Hb1.out) Hg.out Hk.out.2.2 Hs.out Hk.out.2.1).out.mono ?_
          rintro x w2 ⟨v2, rfl, ho2, hb2'⟩
          have H2' : Hid (OI w2 w.heap.size v2 (goOut m s u) ∧ Below w.heap.size w w2) := ⟨own_mono ho2 Hb1.out.size, below_then Hb1.out hb2'⟩
          clear ho2 hb2'
          go_wp2
          go_ret3
          exact ⟨_, by rw [e.out]; rfl, by rw [e.out]; exact H2'.out.1, H2'.out.2⟩
        · have hb2 : (pu.2 != 0) = true := by simp [h2]
          have H2 := Lib.hid h2
          clear h2
          have e : Hid (fromF m s u = (0, [], pu.2)) := by show _ = _; unfold fromF; rw [Hpc.out, Hpu.out, if_neg (by simpa using H1.out), if_neg (by have := Hs.out; omega), if_pos H2.out]
          go_wp2
          go_ret3
          exact ⟨_, by rw [e.out]; rfl, by rw [e.out]; exact World.ownsRow_nil .., Hb1.out⟩
  · have hb1 : (pc.2 != 0) = true := by simp [h1]
    have e : Hid (fromF m s u = (0, [], pc.2)) := by show _ = _; unfold fromF; rw [Hpc.out, if_pos h1]
    clear h1
    go_wp2
    go_ret3
    exact ⟨_, by rw [e.out]; rfl, by rw [e.out]; exact World.ownsRow_nil .., Hb1.out⟩

set_option maxRecDepth 20000 in
theorem M_Run (v vu : Value) (m : Mach) (u : List Int) (w : World) (ok ok3 : Nat → Prop) (h : MachV w ok v m) (hu : SI w ok3 vu u) :
    Calls Try.prog 59 #[v, vu] w (RunP w m u) := by
  have hF := fun v vu w ok ok3 h hu => Lib.hid (M_From v vu m u 0 w ok ok3 h hu)
  have Hh := Lib.hid h; have Hu := Lib.hid hu
  obtain ⟨A1, c1, A2, c2, rfl, hs1, hs2, _, _, hm1, hm2⟩ := h.open
  obtain ⟨Au, cu, rfl, _, _⟩ := hu.open
  have Hb := Lib.hid (below_alloc w (machObj m A1 A2 c1 c2))
  clear h hu hs1 hs2
  go_enter Try.func59, Try.ntmps59
  go_wp2_with fail
  refine (hF _ _ _ ok ok3 (Hh.out.below Hb.out) (Hu.out.below Hb.out)).out.mono ?_
  rintro x w1 ⟨v1, rfl, ho1, hb1⟩
  have H2 : Hid (OI w1 w.heap.size v1 (runF m u).1 ∧ Below w.heap.size w w1) := ⟨own_mono ho1 Hb.out.size, below_then Hb.out hb1⟩
  clear ho1 hb1
  go_wp2
  go_ret2
  exact ⟨_, rfl, H2.out⟩
end Go.Proofs.Ytoafjmfnnbpnoaa
