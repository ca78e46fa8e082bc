/-
  What num, brought of the tree's statements compute.
-/
import Derived.Test.YtoafjmfnnbpnoaaTR17
set_option linter.unusedVariables false
set_option linter.unusedSimpArgs false
namespace Go.Proofs.Ytoafjmfnnbpnoaa
open Go Go.RowKit

theorem l14_num (w : World) (n : Int) : Calls Try.prog 21 #[.int .i64 n] w fun e w' => e = .returned (.int .i64 n) ∧ w = w' := by
  go_enter Try.func21, Try.ntmps21
  go_wp2_with fail
  go_ret
  exact ⟨rfl, rfl⟩

/-- A word is brought in, with what a machine says. -/
def broughtF (m : Mach) : Nat → PT → Int → PT × Int × Int × Bool
  | 0, p, _ => (p, 0, 0, false)
  | k + 1, p, n => if (askP p).2 = false then (p, (leafP p).1, n, (leafP p).2)
    else if (tellP p (runF m (askP p).1).1).2 = 0 then broughtF m k (tellP p (runF m (askP p).1).1).1 (n + 1) else ((tellP p (runF m (askP p).1).1).1, 0, 0, false)
def broughtP (m : Mach) (p : PT) (u : List Int) : PT × Int × Int × Bool :=
  if (siftP p u).2 = 0 then broughtF m 2000 (siftP p u).1 0 else ((siftP p u).1, 0, 0, false)
/-- Each tree on the way is one that can be told. -/
def OkBr (m : Mach) : Nat → PT → Prop
  | 0, _ => True
  | k + 1, p => TellPre p ∧ ((askP p).2 = true → (tellP p (runF m (askP p).1).1).2 = 0 → OkBr m k (tellP p (runF m (askP p).1).1).1)
def BrR (w : World) (F : Nat → Prop) (T : Nat) (r : PT × Int × Int × Bool) (e : Ending) (w' : World) : Prop :=
  e = .returned (.tuple #[.int .i64 r.2.1, .int .i64 r.2.2.1, .bool r.2.2.2]) ∧ Mod F w w' ∧ ∃ F' : Nat → Prop, (∀ k, F' k → F k ∨ w.heap.size ≤ k) ∧ (∀ k, F k → F' k) ∧ TreeAt w' F' T r.1

set_option maxRecDepth 20000 in
set_option maxHeartbeats 4000000 in
theorem l14_brought (w : World) (F : Nat → Prop) (T : Nat) (p : PT) (m : Mach) (vm vu : Value) (u : List Int) (ok ok2 : Nat → Prop) (ht : TreeAt w F T p) (hm : MachV w ok vm m) (hu : SI w ok2 vu u) (hul : u.length ≤ 100000) (hok : ∀ k, ok k → ¬ F k)
    (hO : (siftP p u).2 = 0 → OkBr m 2000 (siftP p u).1) :
    Calls Try.prog 40 #[.pointer (some ⟨T, 0, none⟩), vm, vu] w (BrR w F T (broughtP m p u)) := by
  have HM := Lib.hid hm
  have HT := Lib.hid ht
  obtain ⟨A1, c1, A2, c2, rfl, hs1, hs2, _, _, hm1, hm2⟩ := hm.open
  obtain ⟨Au, cu, rfl, hcu, _⟩ := hu.open
  have Hu := Lib.hid hu
  have HO := Lib.hid hO
  have Hok := Lib.hid hok
  obtain ⟨r, hr⟩ : ∃ r, broughtP m p u = r := ⟨_, rfl⟩
  rw [hr]
  have Hr := Lib.hid hr
  clear hr ht hm hu hs1 hs2 hO hok
  go_enter Try.func40, Try.ntmps40
  go_wp2_with fail
  obtain ⟨W0, hW0⟩ : ∃ W0, W0 = w.alloc (machObj m A1 A2 c1 c2) := ⟨_, rfl⟩
  have hb0 : Below w.heap.size w W0 := by rw [hW0]; exact below_alloc ..
  have hbx : W0.heap[w.heap.size]? = some (machObj m A1 A2 c1 c2) := by rw [hW0]; exact heap_alloc_new ..
  have hw0 : w.alloc (.cells #[.int .i64 m.kind, .int .i64 m.k, .int .i64 m.o, .int .i64 m.n, .slice A1 m.next.length c1, .slice A2 m.out.length c2] 31) = W0 := by rw [hW0]
  rw [hw0]
  have Hb0 := Lib.hid hb0; have Hbx := Lib.hid hbx
  have Hb0' : Hid (∀ {W : World}, Mod F W0 W → Mod F w W) := fun {W} hm => (Mod.of_below F Hb0.out).trans hm (fun _ _ h => h)
  have HF0 : Hid (∀ G : Nat → Prop, (∀ k, G k → F k ∨ W0.heap.size ≤ k) → ∀ k, G k → F k ∨ w.heap.size ≤ k) := fun G h k hk => (h k hk).imp id (fun hh => Nat.le_trans Hb0.out.size hh)
  clear hw0 hb0 hbx hW0
  refine (tree_Sift W0 F T p _ u ok2 (HT.out.below Hb0.out) (Hu.out.below Hb0.out) hul).mono ?_
  rintro e w1 ⟨rfl, hm1', F1, hF1, hS1, ht1⟩
  obtain ⟨er, her⟩ : ∃ er, (siftP p u).2 = er := ⟨_, rfl⟩
  rw [her]
  have Her := Lib.hid her
  have Hm1 := Lib.hid hm1'; have HF1 := Lib.hid hF1; have HS1 := Lib.hid hS1; have Ht1 := Lib.hid ht1
  clear hm1' hF1 hS1 ht1 her
  go_wp2_with fail
  refine (l14_num w1 er).mono ?_
  rintro e w1' ⟨rfl, rfl⟩
  by_cases h0 : er = 0
  · subst h0
    go_wp2_with fail
    have hB0 : Hid (broughtF m 2000 (siftP p u).1 (0 : Nat) = r) := by show _ = _; rw [← Hr.out]; unfold broughtP; rw [if_pos Her.out]; rfl
    have hO0 : Hid (OkBr m 2000 (siftP p u).1) := HO.out Her.out
    clear HO Her
    go_loopw [9] (fun t wr => ∃ (k n : Nat) (p' : PT) (F' : Nat → Prop), t = .int .i64 n ∧ Hid (n + k = 2000) ∧ Hid (Mod F W0 wr) ∧ Hid (∀ k, F' k → F k ∨ W0.heap.size ≤ k) ∧ Hid (∀ k, F k → F' k) ∧ Hid (TreeAt wr F' T p') ∧ Hid (broughtF m k p' n = r) ∧ Hid (OkBr m k p')) (fun t _ => 2000 - (intOf t).toNat)
    case atStart => exact ⟨2000, 0, _, F1, rfl, rfl, Hm1.out, HF1.out, HS1.out, Ht1.out, hB0.out, hO0.out⟩
    case round =>
      clear hB0 hO0 Hm1 HF1 HS1 Ht1
      obtain ⟨k, n, p', F', rfl, Hnk, HMw, HF', HS', HT', HB, HOk⟩ := hrel
      cases k with
      | zero =>
        have hn : n = 2000 := Hnk.out
        subst hn
        have e : Hid (r = (p', 0, 0, false)) := HB.out.symm
        go_wp2_with fail
        go_ret3
        rw [e.out]
        exact ⟨rfl, Hb0'.out HMw.out, F', HF0.out F' HF'.out, HS'.out, HT'.out⟩
      | succ k =>
        have hn : (n : Int) < 2000 := by have := Hnk.out; omega
        have hpre := HOk.out.1
        have HA := Lib.hid (tree_Ask wr F' T p' HT'.out hpre.pos hpre.word (fun b c e => (hpre.by_ b c e).1))
        have Hpre := Lib.hid hpre
        have Hlt0 : Hid (w.heap.size < W0.heap.size) := (Array.getElem?_eq_some_iff.1 Hbx.out).1
        have HnF : Hid (¬ F w.heap.size) := fun h => by obtain ⟨_, _, _, _, _, _, h'⟩ := HT.out; have := h'.flt _ h; omega
        clear hpre
        go_wp2_with fail
        refine HA.out.mono ?_
        rintro e w2 ⟨vq, rfl, hoq, hb2⟩
        obtain ⟨mo, hmo⟩ : ∃ mo, (askP p').2 = mo := ⟨_, rfl⟩
        rw [hmo]
        have Hmo := Lib.hid hmo
        have Hoq := Lib.hid hoq
        have Hb2 := Lib.hid hb2
        obtain ⟨Aq, cq, e⟩ := own_slice hoq
        subst e
        clear hmo hoq hb2
        cases mo with
        | false =>
          have HL := Lib.hid (tree_Leaf w2 F' T p' (HT'.out.below Hb2.out) Hpre.out.pos)
          have e : Hid (r = (p', (leafP p').1, (n : Int), (leafP p').2)) := by show _ = _; rw [← HB.out, broughtF, if_pos Hmo.out]
          go_wp2_with fail
          refine HL.out.mono ?_
          rintro e w3 ⟨rfl, hb3⟩
          have Hb3 := Lib.hid hb3
          clear hb3
          go_wp2_with fail
          go_ret3
          rw [e.out]
          exact ⟨rfl, Hb0'.out (HMw.out.then_below (below_then Hb2.out Hb3.out)), F', HF0.out F' HF'.out, HS'.out, HT'.out.below (below_then Hb2.out Hb3.out)⟩
        | true =>
          have hbx2 : w2.heap[w.heap.size]? = some (machObj m A1 A2 c1 c2) := by
            rw [Hb2.out.block _ (Nat.lt_of_lt_of_le Hlt0.out HMw.out.size), HMw.out.block _ Hlt0.out HnF.out]; exact Hbx.out
          have y0 := cell_of_block hbx2 0 rfl
          have y1 := cell_of_block hbx2 1 rfl
          have y2 := cell_of_block hbx2 2 rfl
          have y3 := cell_of_block hbx2 3 rfl
          have y4 := cell_of_block hbx2 4 rfl
          have y5 := cell_of_block hbx2 5 rfl
          have HM2 : Hid (MachV w2 ok (.agg #[.int .i64 m.kind, .int .i64 m.k, .int .i64 m.o, .int .i64 m.n, .slice A1 m.next.length c1, .slice A2 m.out.length c2]) m) := ((HM.out.below Hb0.out).keep (fun k hk hl => HMw.out.block k hl (Hok.out k hk)) (fun _ h _ => h)).below Hb2.out
          have HRun := Lib.hid (M_Run _ (.slice Aq (askP p').1.length cq) m (askP p').1 w2 ok _ HM2.out Hoq.out.reads)
          clear hbx2
          go_wp2_with fail
          refine HRun.out.mono ?_
          rintro e w3 ⟨vo, rfl, ho3, hb3⟩
          obtain ⟨Ao, co, e⟩ := own_slice ho3
          subst e
          have HTl := Lib.hid (tree_Tell w3 F' T p' _ (runF m (askP p').1).1 _ (HT'.out.below (below_then Hb2.out hb3)) ho3.reads Hpre.out)
          have Hb3 := Lib.hid (below_then Hb2.out hb3)
          clear ho3 hb3
          go_wp2_with fail
          refine HTl.out.mono ?_
          rintro e w4 ⟨rfl, hm4, F4, hF4, hS4, ht4⟩
          obtain ⟨er, her⟩ : ∃ er, (tellP p' (runF m (askP p').1).1).2 = er := ⟨_, rfl⟩
          rw [her]
          have Her := Lib.hid her
          have Hm4 : Hid (Mod F W0 w4) := (HMw.out.then_below Hb3.out).trans hm4 (fun i hi hf => (HF'.out i hf).elim id (fun hh => by omega))
          have HF4 : Hid (∀ k, F4 k → F k ∨ W0.heap.size ≤ k) := fun i hi => (hF4 i hi).elim (HF'.out i) (fun hh => .inr (Nat.le_trans (Nat.le_trans HMw.out.size Hb3.out.size) hh))
          have HS4 : Hid (∀ k, F k → F4 k) := fun i hi => hS4 i (HS'.out i hi)
          have Ht4 := Lib.hid ht4
          clear her hm4 hF4 hS4 ht4 y0 y1 y2 y3 y4 y5
          go_wp2_with fail
          refine (l14_num w4 er).mono ?_
          rintro e w4' ⟨rfl, rfl⟩
          by_cases h0 : er = 0
          · subst h0
            have e : Hid (broughtF m k (tellP p' (runF m (askP p').1).1).1 ((n : Int) + 1) = r) := by
              show _ = _; rw [← HB.out, broughtF, if_neg (by rw [Hmo.out]; simp), if_pos Her.out]
            have ho : Hid (OkBr m k (tellP p' (runF m (askP p').1).1).1) := HOk.out.2 Hmo.out Her.out
            go_wp2_with fail
            go_roundw
            case rel => exact ⟨k, n + 1, _, F4, by go_num, by show _ = _; have := Hnk.out; omega, Hm4.out, HF4.out, HS4.out, Ht4.out, e.out, ho.out⟩
            case measure => simp [intOf]; omega
          · have hb : (er != 0) = true := by simp [h0]
            have e : Hid (r = ((tellP p' (runF m (askP p').1).1).1, 0, 0, false)) := by
              show _ = _; rw [← HB.out, broughtF, if_neg (by rw [Hmo.out]; simp), if_neg (by rw [Her.out]; exact h0)]
            clear h0
            go_wp2_with fail
            go_ret3
            rw [e.out]
            exact ⟨rfl, Hb0'.out Hm4.out, F4, HF0.out F4 HF4.out, HS4.out, Ht4.out⟩
  · have hb : (er != 0) = true := by simp [h0]
    have e : Hid (r = ((siftP p u).1, 0, 0, false)) := by show _ = _; rw [← Hr.out]; unfold broughtP; rw [if_neg (by rw [Her.out]; exact h0)]
    clear h0
    go_wp2_with fail
    go_ret3
    rw [e.out]
    exact ⟨rfl, Hb0'.out Hm1.out, F1, HF0.out F1 HF1.out, HS1.out, Ht1.out⟩
end Go.Proofs.Ytoafjmfnnbpnoaa
