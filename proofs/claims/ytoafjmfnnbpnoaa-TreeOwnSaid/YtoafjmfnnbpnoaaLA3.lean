/-
  What grown of the tree's statements computes: a tree that is told what a right machine says.
-/
import Derived.Test.YtoafjmfnnbpnoaaLA2
import Derived.StillTailTactics
set_option linter.unusedVariables false
set_option linter.unusedSimpArgs false
namespace Go.Proofs.Ytoafjmfnnbpnoaa
open Go Go.RowKit

/-- The loop of grown under way. -/
def GrI (m : Mach) (w : World) (O : Obj) (T : Nat) (i : Nat) (wr : World) : Prop :=
  Below w.heap.size w wr ∧ wr.heap[w.heap.size]? = some O ∧ ∃ (p : PT) (F : Nat → Prop), (∀ k, F k → w.heap.size < k) ∧ TreeAt wr F T p ∧ TInv m (1 + 3 * i) p ∧ (i = 0 → p = newP m.kind m.k m.o)
theorem GrI.below {m : Mach} {w wr wr' : World} {O : Obj} {T i : Nat} (h : GrI m w O T i wr) (hb : Below wr.heap.size wr wr') : GrI m w O T i wr' := by
  obtain ⟨h1, h2, p, F, h3, h4, h5, h6⟩ := h
  exact ⟨below_then h1 hb, block_below h2 hb, p, F, h3, h4.below hb, h5, h6⟩
def GrownR (m : Mach) (w : World) (n : Nat) (e : Ending) (w' : World) : Prop :=
  ∃ T, e = .returned (.tuple #[.pointer (some ⟨T, 0, none⟩), .bool true]) ∧ Below w.heap.size w w' ∧ ∃ (p : PT) (F : Nat → Prop), (∀ k, F k → w.heap.size ≤ k) ∧ TreeAt w' F T p ∧ TInv m (1 + 3 * n) p ∧ (n = 0 → p = newP m.kind m.k m.o)
theorem newErr_good {m : Mach} (g : Good m) : newErr m.kind m.k m.o = 0 := by
  unfold newErr
  have := g.kind; have := g.k1; have := g.k2; have := g.o1; have := g.o3; have := g.o2
  rw [if_neg (by omega), if_neg (by omega), if_neg (by omega)]
theorem mod_cell2 {G : Nat → Prop} {W W' : World} (hm : Mod G W.drew W') {a : Addr} {v : Value} (h : W.cell? a = some v) (hn : ¬ G a.block) : W'.cell? a = some v := by
  have hl := World.block_lt_of_cell? W a h
  have hb := hm.block a.block hl hn
  rw [← h]
  exact World.cell?_of_block hb
/-- The machine's box, its cells. -/
theorem box_cells {wr : World} {b : Nat} {m : Mach} {A1 A2 : Option Addr} {c1 c2 : Nat} (h : wr.heap[b]? = some (machObj m A1 A2 c1 c2)) :
    wr.cell? ⟨b, 0, none⟩ = some (.int .i64 m.kind) ∧ wr.cell? ⟨b, 1, none⟩ = some (.int .i64 m.k) ∧ wr.cell? ⟨b, 2, none⟩ = some (.int .i64 m.o) ∧ wr.cell? ⟨b, 3, none⟩ = some (.int .i64 m.n) ∧
    wr.cell? ⟨b, 4, none⟩ = some (.slice A1 m.next.length c1) ∧ wr.cell? ⟨b, 5, none⟩ = some (.slice A2 m.out.length c2) :=
  ⟨cell_of_block h 0 rfl, cell_of_block h 1 rfl, cell_of_block h 2 rfl, cell_of_block h 3 rfl, cell_of_block h 4 rfl, cell_of_block h 5 rfl⟩

/-- A word brought into a tree that is told what a right machine says. -/
def BrG (m : Mach) (c : Nat) (p : PT) (u : List Int) (w : World) (F : Nat → Prop) (T : Nat) (e : Ending) (w' : World) : Prop :=
  ∃ (p' : PT) (s j n' : Nat), e = .returned (.tuple #[.int .i64 s, .int .i64 n', .bool true]) ∧ Mod F w w' ∧ (∃ F' : Nat → Prop, (∀ k, F' k → F k ∨ w.heap.size ≤ k) ∧ (∀ k, F k → F' k) ∧ TreeAt w' F' T p') ∧ BrEnd m c p u (depthP p) p' s j n'
theorem l14_brought_good (w : World) (F : Nat → Prop) (T : Nat) (p : PT) (m : Mach) (vm vu : Value) (u : List Int) (ok ok2 : Nat → Prop) {c : Nat} (g : Good m) (hi : TInv m c p) (hc : c ≤ 800) (hu' : OkW m.k u) (hul : u.length ≤ 12) (ht : TreeAt w F T p) (hm : MachV w ok vm m) (hu : SI w ok2 vu u) (hok : ∀ k, ok k → ¬ F k) :
    Calls Try.prog 40 #[.pointer (some ⟨T, 0, none⟩), vm, vu] w (BrG m c p u w F T) := by
  obtain ⟨hO, p', s, j, n', hB, hE⟩ := brought_law g hc hi hu' hul
  refine (l14_brought w F T p m vm vu u ok ok2 ht hm hu (by omega) hok hO).mono ?_
  rintro e w' ⟨he, hm, hF⟩
  rw [hB] at he hF
  exact ⟨p', s, j, n', he, hm, hF, hE⟩

set_option maxRecDepth 20000 in
set_option maxHeartbeats 4000000 in
theorem l14_grown (w : World) (m : Mach) (vm v1 v2 : Value) (words by_ : List (List Int)) (ok ok1 ok2 : Nat → Prop) (g : Good m) (hm : MachV w ok vm m) (h1 : SL w ok1 v1 words) (h2 : SL w ok2 v2 by_)
    (r1 : rightL words m.k = true) (r2 : rightL by_ m.k = true) :
    Calls Try.prog 38 #[vm, v1, v2] w (GrownR m w words.length) := by
  have HM : Hid (MachV w (fun k => k < w.heap.size) vm m) := hm.keep (fun _ _ _ => rfl) (fun k _ h => h)
  obtain ⟨A1, c1, A2, c2, rfl, hs1, hs2, _, _, hm1, hm2⟩ := hm.open
  obtain ⟨Aw, cw, rfl, hcw, _⟩ := h1.open
  obtain ⟨Ab, cb, rfl, hcb, _⟩ := h2.open
  have Hws := Lib.hid h1; have Hbs := Lib.hid h2; have G := Lib.hid g; have R1 := Lib.hid r1; have R2 := Lib.hid r2
  have hwl : words.length ≤ 12 := by unfold rightL at r1; simp at r1; exact r1.1
  have hbl : by_.length ≤ 12 := by unfold rightL at r2; simp at r2; exact r2.1
  have HU1 : Hid (∀ i, i < words.length → OkW m.k (gL words i) ∧ (gL words i).length ≤ 12) := fun i hi => by
    unfold rightL at r1; rw [Bool.and_eq_true, List.all_eq_true] at r1
    have := (rightU_iff m.k _).1 (r1.2 (gL words i) (by rw [gL_get words i hi]; exact List.getElem_mem hi))
    exact ⟨this.1.2, this.2⟩
  have HU2 : Hid (∀ i, i < by_.length → OkW m.k (gL by_ i) ∧ (gL by_ i).length ≤ 12) := fun i hi => by
    unfold rightL at r2; rw [Bool.and_eq_true, List.all_eq_true] at r2
    have := (rightU_iff m.k _).1 (r2.2 (gL by_ i) (by rw [gL_get by_ i hi]; exact List.getElem_mem hi))
    exact ⟨this.1.2, this.2⟩
  clear hs1 hs2 hm h1 h2 r1 r2 g
  go_enter Try.func38, Try.ntmps38
  go_wp2_with fail
  obtain ⟨W0, hW0⟩ : ∃ W0, W0 = w.alloc (machObj m A1 A2 c1 c2) := ⟨_, rfl⟩
  have hb0 : Below w.heap.size w W0 := by rw [hW0]; exact below_alloc ..
  have hbx : W0.heap[w.heap.size]? = some (machObj m A1 A2 c1 c2) := by rw [hW0]; exact heap_alloc_new ..
  have hsz : W0.heap.size = w.heap.size + 1 := by rw [hW0]; simp
  have hw0 : w.alloc (.cells #[.int .i64 m.kind, .int .i64 m.k, .int .i64 m.o, .int .i64 m.n, .slice A1 m.next.length c1, .slice A2 m.out.length c2] 31) = W0 := by rw [hW0]
  rw [hw0]
  have Hb0 := Lib.hid hb0; have Hbx := Lib.hid hbx; have Hsz := Lib.hid hsz
  clear hw0 hb0 hbx hW0 hsz
  refine (tree_New m.kind m.k m.o W0).mono ?_
  rintro e w1 ⟨hb1, hx⟩
  obtain ⟨T, rfl, ht⟩ : ∃ T, e = .returned (.tuple #[.pointer (some ⟨T, 0, none⟩), .int .i64 0]) ∧ TreeAt w1 (fun x => W0.heap.size ≤ x ∧ x < w1.heap.size) T (newP m.kind m.k m.o) := by
    rcases hx with ⟨h, _⟩ | ⟨_, h⟩
    · exact absurd (newErr_good G.out) h
    · exact h
  have HG : Hid (GrI m w (machObj m A1 A2 c1 c2) T 0 w1) := ⟨below_then Hb0.out hb1, block_below Hbx.out hb1, _, _, fun k hk => by have := hk.1; rw [Hsz.out] at this; exact this, ht, TInv.new G.out, fun _ => rfl⟩
  clear hb1 hx ht Hb0 Hbx Hsz
  go_wp2_with fail
  refine (l14_num w1 0).mono ?_
  rintro e w1' ⟨rfl, rfl⟩
  go_wp2_with fail
  go_loopw [10] (fun t wr => ∃ i : Nat, i ≤ words.length ∧ t = .int .i64 i ∧ Hid (GrI m w (machObj m A1 A2 c1 c2) T i wr)) (fun t _ => words.length - (intOf t).toNat)
  case atStart => exact ⟨0, Nat.zero_le _, rfl, HG.out⟩
  case round =>
    clear HG
    obtain ⟨i, hi, rfl, HG⟩ := hrel
    by_cases hlt : i < words.length
    · obtain ⟨k1, k2, p, F, k3, k4, k5, _⟩ := HG.out
      have HBr := Lib.hid k1; have Hbox := Lib.hid k2; have HF := Lib.hid k3; have HT := Lib.hid k4; have HI := Lib.hid k5
      clear k1 k2 k3 k4 k5 HG
      have Hwr : Hid (SL wr (fun k => k < w.heap.size) (.slice Aw words.length cw) words) := Hws.out.keep (fun k _ hk => HBr.out.block k hk) (fun k _ hk => hk)
      have HMr : Hid (MachV wr (fun k => k < w.heap.size) (.agg #[.int .i64 m.kind, .int .i64 m.k, .int .i64 m.o, .int .i64 m.n, .slice A1 m.next.length c1, .slice A2 m.out.length c2]) m) := HM.out.keep (fun k _ hk => HBr.out.block k hk) (fun _ h _ => h)
      obtain ⟨y0, y1, y2, y3, y4, y5⟩ := box_cells Hbox.out
      obtain ⟨ad, A', c', rfl, hadl, hc, hsi⟩ := Hwr.out.cell i hlt
      have Hsi := Lib.hid hsi
      obtain ⟨u, hu⟩ : ∃ u, gL words i = u := ⟨_, rfl⟩
      rw [hu] at hc Hsi
      have hU := HU1.out i hlt
      rw [hu] at hU
      have Hul := hU.2
      have Hu := Lib.hid hU.1; have Hgu := Lib.hid hu
      have hdr : Below wr.heap.size wr wr.drew := (Below.refl _ _).drew
      have HBr' := Lib.hid (l14_brought_good wr.drew F T p m _ (.slice A' u.length c') u _ _ G.out HI.out (by omega) Hu.out Hul (HT.out.below hdr) (HMr.out.below hdr) (Hsi.out.below hdr) (fun k hk hf => by have := HF.out k hf; omega))
      have Hdr := Lib.hid hdr
      have HFc : Hid (¬ F (ad.add i).block) := fun hf => by
        have h1 := HF.out _ hf
        have h2 : (ad.add i).block = ad.block := by unfold Addr.add; split <;> rfl
        omega
      clear hsi hu hU hdr
      go_wp2_with fail
      go_region_held3 (fun W => W.cell? ⟨w.heap.size, 0, none⟩ = some (.int .i64 m.kind) ∧ W.cell? ⟨w.heap.size, 1, none⟩ = some (.int .i64 m.k) ∧ W.cell? ⟨w.heap.size, 2, none⟩ = some (.int .i64 m.o) ∧ W.cell? ⟨w.heap.size, 3, none⟩ = some (.int .i64 m.n) ∧ W.cell? ⟨w.heap.size, 4, none⟩ = some (.slice A1 m.next.length c1) ∧ W.cell? ⟨w.heap.size, 5, none⟩ = some (.slice A2 m.out.length c2) ∧ W.cell? (ad.add i) = some (.slice A' u.length c'))
        (((try dsimp only); ((repeat' apply And.intro) <;> first | assumption | (apply cell_alloc_drew; assumption))))
        (first | (go_at_call 40
                  refine HBr'.out.mono ?_
                  rintro e w2 ⟨p', s, j, n', rfl, hm2, ⟨F2, hF2, hS2, ht2⟩, hE⟩
                  have z0 := mod_cell hm2 (b := w.heap.size) (i := 0) y0 (fun hf => by have := HF.out _ hf; omega)
                  have z1 := mod_cell hm2 (b := w.heap.size) (i := 1) y1 (fun hf => by have := HF.out _ hf; omega)
                  have z2 := mod_cell hm2 (b := w.heap.size) (i := 2) y2 (fun hf => by have := HF.out _ hf; omega)
                  have z3 := mod_cell hm2 (b := w.heap.size) (i := 3) y3 (fun hf => by have := HF.out _ hf; omega)
                  have z4 := mod_cell hm2 (b := w.heap.size) (i := 4) y4 (fun hf => by have := HF.out _ hf; omega)
                  have z5 := mod_cell hm2 (b := w.heap.size) (i := 5) y5 (fun hf => by have := HF.out _ hf; omega)
                  have z6 := mod_cell2 hm2 hc HFc.out
                  clear y0 y1 y2 y3 y4 y5 hc
                  have Hm2 := Lib.hid hm2; have HF2 := Lib.hid hF2; have Ht2 := Lib.hid ht2; have HE := Lib.hid hE
                  clear hm2 hF2 hS2 ht2 hE))
      have hB2 : Below w.heap.size w w2 := below_mod (below_then HBr.out Hdr.out) Hm2.out (fun k hk => Nat.le_of_lt (HF.out k hk))
      have hF2 : ∀ k, F2 k → w.heap.size < k := fun k hk => (HF2.out k hk).elim (HF.out k) (fun h => Nat.lt_of_lt_of_le (Array.getElem?_eq_some_iff.1 Hbox.out).1 h)
      have hbx2 : w2.heap[w.heap.size]? = some (machObj m A1 A2 c1 c2) := by
        rw [Hm2.out.block _ (Array.getElem?_eq_some_iff.1 Hbox.out).1 (fun hf => by have := HF.out _ hf; omega)]; exact Hbox.out
      have HI2 := Lib.hid HE.out.inv
      have HL2 := Lib.hid (HE.out.inv.leaf j s HE.out.leaf)
      have HW2 := Lib.hid HE.out.way
      have HJ2 := Lib.hid HE.out.leaf
      have HG3 : Hid (GrI m w (machObj m A1 A2 c1 c2) T (i + 1) w2) := ⟨hB2, hbx2, p', F2, hF2, Ht2.out, HI2.out.mono (by omega), fun h => by omega⟩
      have HB2 := Lib.hid hB2; have HFf := Lib.hid hF2; have Hbx2 := Lib.hid hbx2
      clear hB2 hF2 hbx2 HBr Hm2 HF2 HFc HT HI HMr Hwr Hdr HBr' HE HF Hbox Hsi
      obtain ⟨hac, hao, hal⟩ := HI2.out.acc_law HL2.out.1
      have HAc := Lib.hid (tree_Access w2 F2 T p' s Ht2.out HI2.out.acc_len)
      obtain ⟨a, ha⟩ : ∃ a, gL p'.access s = a := ⟨_, rfl⟩
      rw [ha] at hac hao hal
      have Hac := Lib.hid hac; have Ha := Lib.hid ha; have Hao := Lib.hid hao
      clear ha hac hao
      rename_i hHeld
      clear hHeld
      go_wp2_with fail
      refine HAc.out.mono ?_
      rintro e w3 ⟨va, he, ho3, hb3⟩
      rw [Hac.out] at he ho3
      subst he
      obtain ⟨Aa, ca, e⟩ := own_slice ho3
      subst e
      have Ho3 := Lib.hid ho3; have Hb3 := Lib.hid hb3
      replace z0 := below_cell hb3 z0
      replace z1 := below_cell hb3 z1
      replace z2 := below_cell hb3 z2
      replace z3 := below_cell hb3 z3
      replace z4 := below_cell hb3 z4
      replace z5 := below_cell hb3 z5
      replace z6 := below_cell hb3 z6
      clear ho3 hb3 HAc
      go_wp2_with fail
      refine (l14_num w3 0).mono ?_
      rintro e w3' ⟨rfl, rfl⟩
      by_cases hlb : i < by_.length
      · have HB3 := Lib.hid (below_then HB2.out Hb3.out)
        have Hws3 : Hid (SL w3 (fun k => k < w.heap.size) (.slice (some ad) words.length cw) words) := Hws.out.keep (fun k _ hk => HB3.out.block k hk) (fun k _ hk => hk)
        have Hbs3 : Hid (SL w3 (fun k => k < w.heap.size) (.slice Ab by_.length cb) by_) := Hbs.out.keep (fun k _ hk => HB3.out.block k hk) (fun k _ hk => hk)
        obtain ⟨ad2, A'', c'', rfl, hadl2, hcd, hsd⟩ := Hbs3.out.cell i hlb
        have Hsd := Lib.hid hsd
        obtain ⟨d, hd⟩ : ∃ d, gL by_ i = d := ⟨_, rfl⟩
        rw [hd] at hcd Hsd
        have hD := HU2.out i hlb
        rw [hd] at hD
        have Hdl := hD.2
        have Hd := Lib.hid hD.1
        have Hsu : Hid (SI w3 (fun k => k < w.heap.size) (.slice A' u.length c') u) := by
          obtain ⟨ad', A3, c3, e1, _, hc3, hs3⟩ := Hws3.out.cell i hlt
          cases e1
          rw [z6] at hc3
          injection hc3 with e2
          have : gL words i = u := Hgu.out
          rw [this] at hs3 e2
          injection e2 with e3 e4 e5
          subst e3 e5
          exact hs3
        clear hsd hd hD
        have HS := Lib.hid (W_Same (.slice Aa a.length ca) (.slice A' u.length c') a u w3 _ _ (own_reads Ho3.out) Hsu.out)
        by_cases hau : a = u
        · have hdd : decide (a = u) = true := decide_eq_true hau
          have Hdd := Lib.hid hdd
          clear hau hdd
          go_wp2_with fail
          refine HS.out.mono ?_
          rintro e w4 ⟨he, hq⟩
          rw [Hdd.out] at he
          subst he
          have Hq := Lib.hid hq
          clear hq
          go_wp2_with fail
          go_roundw
          case rel => exact ⟨i + 1, by omega, by go_num, HG3.out.below (below_then Hb3.out Hq.out.below)⟩
          case measure => simp [intOf]; omega
        · have hdd : decide (a = u) = false := decide_eq_false hau
          have Hdd := Lib.hid hdd
          clear hdd
          by_cases hk : m.kind = 2 ∧ d = []
          · obtain ⟨hk1, hk2⟩ := hk
            have hk3 : (m.kind == 2) = true := by simp [hk1]
            have hk4 : ((d.length : Int) == 0) = true := by simp [hk2]
            clear hau hk1 hk2
            go_wp2_with fail
            refine HS.out.mono ?_
            rintro e w4 ⟨he, hq⟩
            rw [Hdd.out] at he
            subst he
            have Hq := Lib.hid hq
            replace z0 := below_cell hq.below z0
            replace hcd := below_cell hq.below hcd
            clear hq
            go_wp2_with fail
            go_roundw
            case rel => exact ⟨i + 1, by omega, by go_num, HG3.out.below (below_then Hb3.out Hq.out.below)⟩
            case measure => simp [intOf]; omega
          · have Hdk : Hid (m.kind = 2 → d ≠ []) := fun h1 h2 => hk ⟨h1, h2⟩
            have hk5 : (m.kind == 2) = false ∨ ((m.kind == 2) = true ∧ ((d.length : Int) == 0) = false) := by
              by_cases h1 : m.kind = 2
              · refine .inr ⟨by simp [h1], ?_⟩
                have : d ≠ [] := fun h2 => hk ⟨h1, h2⟩
                simp [this]
              · exact .inl (by simp [h1])
            clear hk
            rcases hk5 with hk3 | ⟨hk3, hk4⟩
            all_goals
              go_wp2_with fail
              refine HS.out.mono ?_
              rintro e w4 ⟨he, hq⟩
              rw [Hdd.out] at he
              subst he
              have Hq := Lib.hid hq
              replace z0 := below_cell hq.below z0
              replace z1 := below_cell hq.below z1
              replace z2 := below_cell hq.below z2
              replace z3 := below_cell hq.below z3
              replace z4 := below_cell hq.below z4
              replace z5 := below_cell hq.below z5
              replace z6 := below_cell hq.below z6
              replace hcd := below_cell hq.below hcd
              clear hq
              go_wp2_with fail
              have Hd4 := Lib.hid ((Below.refl w4.heap.size w4).drew)
              have Hau : Hid (¬ a = u) := hau
              clear hau
              have HMw : Hid (∀ W, Below w4.heap.size w4 W → MachV W (fun k => k < w.heap.size) (.agg #[.int .i64 m.kind, .int .i64 m.k, .int .i64 m.o, .int .i64 m.n, .slice A1 m.next.length c1, .slice A2 m.out.length c2]) m) := fun W hb => HM.out.keep (fun k _ hk => (below_then (below_then HB3.out Hq.out.below) hb).block k hk) (fun _ h _ => h)
              have HGa : Hid (∀ W, Below w4.heap.size w4 W → Calls Try.prog 42 #[.agg #[.int .i64 m.kind, .int .i64 m.k, .int .i64 m.o, .int .i64 m.n, .slice A1 m.next.length c1, .slice A2 m.out.length c2], .slice Aa a.length ca, .slice A'' d.length c''] W (fun x w' => ∃ v', x = .returned v' ∧ OI w' W.heap.size v' (go2F m a d) ∧ Below W.heap.size W w')) :=
                fun W hb => M_Go2 _ _ _ m a d W _ _ _ (HMw.out W hb) (own_reads (own_below Ho3.out (below_then Hq.out.below hb))) (Hsd.out.below (below_then Hq.out.below hb)) G.out Hao.out Hd.out (by omega) (by omega)
              have HGb : Hid (∀ W, Below w4.heap.size w4 W → Calls Try.prog 42 #[.agg #[.int .i64 m.kind, .int .i64 m.k, .int .i64 m.o, .int .i64 m.n, .slice A1 m.next.length c1, .slice A2 m.out.length c2], .slice A' u.length c', .slice A'' d.length c''] W (fun x w' => ∃ v', x = .returned v' ∧ OI w' W.heap.size v' (go2F m u d) ∧ Below W.heap.size W w')) :=
                fun W hb => M_Go2 _ _ _ m u d W _ _ _ (HMw.out W hb) (Hsu.out.below (below_then Hq.out.below hb)) (Hsd.out.below (below_then Hq.out.below hb)) G.out Hu.out Hd.out (by omega) (by omega)
              go_region_held3 (fun W => W.cell? ⟨w.heap.size, 0, none⟩ = some (.int .i64 m.kind) ∧ W.cell? ⟨w.heap.size, 1, none⟩ = some (.int .i64 m.k) ∧ W.cell? ⟨w.heap.size, 2, none⟩ = some (.int .i64 m.o) ∧ W.cell? ⟨w.heap.size, 3, none⟩ = some (.int .i64 m.n) ∧ W.cell? ⟨w.heap.size, 4, none⟩ = some (.slice A1 m.next.length c1) ∧ W.cell? ⟨w.heap.size, 5, none⟩ = some (.slice A2 m.out.length c2) ∧ W.cell? (ad.add i) = some (.slice A' u.length c') ∧ W.cell? (ad2.add i) = some (.slice A'' d.length c''))
                (((try dsimp only); ((repeat' apply And.intro) <;> first | assumption | (apply cell_alloc_drew; assumption))))
                (first | (go_at_call 42
                          ((with_reducible refine (HGa.out _ Hd4.out).mono ?_))
                          rintro e w5 ⟨v5, rfl, ho5, hb5⟩
                          obtain ⟨A5, c5, e⟩ := own_slice ho5
                          subst e
                          replace z0 := below_cell (below_then Hd4.out hb5) z0
                          replace z1 := below_cell (below_then Hd4.out hb5) z1
                          replace z2 := below_cell (below_then Hd4.out hb5) z2
                          replace z3 := below_cell (below_then Hd4.out hb5) z3
                          replace z4 := below_cell (below_then Hd4.out hb5) z4
                          replace z5 := below_cell (below_then Hd4.out hb5) z5
                          replace z6 := below_cell (below_then Hd4.out hb5) z6
                          replace hcd := below_cell (below_then Hd4.out hb5) hcd
                          have Ho5 := Lib.hid ho5; have Hb5 := Lib.hid (below_then Hd4.out hb5)
                          clear ho5 hb5)
                       | (go_at_call 42
                          ((with_reducible refine (HGb.out _ Hb5.out).mono ?_))
                          rintro e w6 ⟨v6, rfl, ho6, hb6⟩
                          obtain ⟨A6, c6, e⟩ := own_slice ho6
                          subst e
                          replace z0 := below_cell hb6 z0
                          replace z1 := below_cell hb6 z1
                          replace z2 := below_cell hb6 z2
                          replace z3 := below_cell hb6 z3
                          replace z4 := below_cell hb6 z4
                          replace z5 := below_cell hb6 z5
                          replace z6 := below_cell hb6 z6
                          replace hcd := below_cell hb6 hcd
                          have Ho6 := Lib.hid ho6; have Hb6 := Lib.hid hb6
                          clear ho6 hb6))
              rename_i hHeld
              clear hHeld HGa HGb
              have HS2 := Lib.hid (W_Same (.slice A5 (go2F m a d).length c5) (.slice A6 (go2F m u d).length c6) (go2F m a d) (go2F m u d) w6 _ _ (own_reads (own_below Ho5.out Hb6.out)) (own_reads Ho6.out))
              by_cases heq : go2F m a d = go2F m u d
              · have Hdd := Lib.hid (decide_eq_true heq)
                clear heq
                go_wp2_with fail
                refine HS2.out.mono ?_
                rintro e w7 ⟨he, hq⟩
                rw [Hdd.out] at he
                subst he
                have Hq7 := Lib.hid hq
                clear hq
                go_wp2_with fail
                go_roundw
                case rel => exact ⟨i + 1, by omega, by go_num, HG3.out.below (below_then (below_then (below_then (below_then Hb3.out Hq.out.below) Hb5.out) Hb6.out) Hq7.out.below)⟩
                case measure => simp [intOf]; omega
              · have Hdd := Lib.hid (decide_eq_false heq)
                have Hne := Lib.hid heq
                clear heq
                go_wp2_with fail
                refine HS2.out.mono ?_
                rintro e w7 ⟨he, hq⟩
                rw [Hdd.out] at he
                subst he
                have Hb7 := Lib.hid hq.below
                replace z6 := below_cell hq.below z6
                replace hcd := below_cell hq.below hcd
                clear hq z0 z1 z2 z3 z4 z5
                have H27 : Hid (Below w2.heap.size w2 w7.drew) := below_then (below_then (below_then (below_then (below_then Hb3.out Hq.out.below) Hb5.out) Hb6.out) Hb7.out) (Below.refl _ _).drew
                have Hb57 : Hid (Below w5.heap.size w5 w7.drew) := below_then (below_then Hb6.out Hb7.out) (Below.refl _ _).drew
                have Hb67 : Hid (Below w6.heap.size w6 w7.drew) := below_then Hb7.out (Below.refl _ _).drew
                have Hb37 : Hid (Below w3.heap.size w3 w7.drew) := below_then (below_then Hq.out.below Hb5.out) Hb57.out
                have HSp : Hid (Calls Try.prog 27 #[.pointer (some ⟨T, 0, none⟩), .int .i64 s, .slice A'' d.length c'', .slice A' u.length c', .slice A5 (go2F m a d).length c5, .slice A6 (go2F m u d).length c6] w7.drew (SplitR w7.drew F2 T (splitNew p' s j d u (go2F m a d) (go2F m u d), p'.access.length, 0))) := by
                  obtain ⟨nw, hnw⟩ := HW2.out
                  have hf2 := Ht2.out.lt
                  have h23 := Hb3.out.size
                  have h34 := Hq.out.below.size
                  have h45 := Hb5.out.size
                  have hpre := TInv.splitPre G.out HI2.out (by omega) HJ2.out Hd.out Hdl Hdk.out Hu.out Hul hnw (by rw [Ha.out]; exact Hne.out)
                  rw [Ha.out] at hpre
                  exact tree_Split1 w7.drew F2 T p' s j s _ _ _ _ d u _ _ _ _ _ _ (Ht2.out.below H27.out) (Hsd.out.below Hb37.out) (Hsu.out.below Hb37.out) (own_reads (own_below Ho5.out Hb57.out)) (own_reads (own_below Ho6.out Hb67.out))
                    (fun k hk hf => by have := HFf.out k hf; omega) (fun k hk hf => by have := hf2 k hf; have := hk.2; have h' : w4.drew.heap.size = w4.heap.size := rfl; omega) (fun k hk hf => by have := hf2 k hf; have := hk.2; omega) hpre
                have HI8 : Hid (TInv m (1 + 3 * i + 1 + 2) (splitNew p' s j d u (go2F m a d) (go2F m u d))) := by
                  obtain ⟨nw, hnw⟩ := HW2.out
                  have := TInv.split G.out HI2.out HJ2.out Hd.out Hdl Hdk.out Hu.out Hul hnw (by rw [Ha.out]; exact Hne.out)
                  rw [Ha.out] at this
                  exact this
                clear HS2 Hb5 Hb6 Hb7 Ho5 Ho6
                go_wp2_with fail
                go_region_held3 (fun W => W.cell? (ad.add i) = some (.slice A' u.length c') ∧ W.cell? (ad2.add i) = some (.slice A'' d.length c''))
                  (((try dsimp only); ((repeat' apply And.intro) <;> first | assumption | (apply cell_alloc_drew; assumption))))
                  (first | (go_at_call 27
                            refine HSp.out.mono ?_
                            rintro e w8 ⟨rfl, hm8, F8, hF8, hS8, ht8⟩
                            have k1 : ∀ {k : Nat}, k < w.heap.size → ¬ F2 k := fun {k} hk hf => by have := HFf.out k hf; omega
                            replace z6 := mod_cell2 hm8 z6 (k1 (by have : (ad.add i).block = ad.block := by { unfold Addr.add; split <;> rfl }
                                                                   omega))
                            replace hcd := mod_cell2 hm8 hcd (k1 (by have : (ad2.add i).block = ad2.block := by { unfold Addr.add; split <;> rfl }
                                                                     omega))
                            have Hm8 := Lib.hid hm8; have HF8 := Lib.hid hF8; have Ht8 := Lib.hid ht8
                            clear hm8 hF8 hS8 ht8 k1))
                rename_i hHeld
                clear hHeld z6 hcd
                have HG8 : Hid (GrI m w (machObj m A1 A2 c1 c2) T (i + 1) w8) := by
                  have hsz : w.heap.size < w7.drew.heap.size := Nat.lt_of_lt_of_le (Array.getElem?_eq_some_iff.1 Hbx2.out).1 H27.out.size
                  refine ⟨below_mod (below_then HB2.out H27.out) Hm8.out (fun k hk => Nat.le_of_lt (HFf.out k hk)), ?_, _, F8, fun k hk => (HF8.out k hk).elim (HFf.out k) (fun h => Nat.lt_of_lt_of_le hsz h), Ht8.out, HI8.out.mono (by omega), fun h => by omega⟩
                  rw [Hm8.out.block _ hsz (fun hf => by have := HFf.out _ hf; omega), H27.out.block _ (Array.getElem?_eq_some_iff.1 Hbx2.out).1]
                  exact Hbx2.out
                have HCn := Lib.hid (tree_Count w8 F8 T _ Ht8.out)
                have hlen : ((splitNew p' s j d u (go2F m a d) (go2F m u d)).access.length : Int) = (p'.access.length : Int) + 1 := by simp [splitNew]
                have Hlen := Lib.hid hlen
                have hal2 : p'.access.length ≤ 100 := by have := HI2.out.acl; omega
                clear hlen
                go_wp2_with fail
                refine (l14_num w8 0).mono ?_
                rintro e w8' ⟨rfl, rfl⟩
                go_wp2_with fail
                refine HCn.out.mono ?_
                rintro e w8' ⟨he, rfl⟩
                rw [Hlen.out] at he
                subst he
                have hx : IntKind.i64.wrap ((p'.access.length : Int) + 1 - 1) = (p'.access.length : Int) := by rw [IntWalk.i64_in _ (by omega)]; omega
                have hx2 : ((p'.access.length : Int) != (p'.access.length : Int) + 1 - 1) = false := by simp
                go_wp2_with fail
                go_roundw
                case rel => exact ⟨i + 1, by omega, by go_num, HG8.out⟩
                case measure => simp [intOf]; omega
      · go_wp2_with fail
        go_roundw
        case rel => exact ⟨i + 1, by omega, by go_num, HG3.out.below Hb3.out⟩
        case measure => simp [intOf]; omega
    · have e : i = words.length := by omega
      obtain ⟨k1, k2, p, F, k3, k4, k5, k6⟩ := HG.out
      have HR : Hid (GrownR m w words.length (.returned (.tuple #[.pointer (some ⟨T, 0, none⟩), .bool true])) wr) := ⟨T, rfl, k1, p, F, fun k hk => Nat.le_of_lt (k3 k hk), k4, by rw [← e]; exact k5, by rw [← e]; exact k6⟩
      clear k1 k2 k3 k4 k5 k6 HG e
      go_wp2_with fail
      go_ret2
      exact HR.out
end Go.Proofs.Ytoafjmfnnbpnoaa
