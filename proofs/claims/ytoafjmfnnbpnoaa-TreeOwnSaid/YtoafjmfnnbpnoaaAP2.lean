/-
  What the reference's W.Apart answers of rows each in memory of its own: true; it writes into these rows' blocks alone.
-/
import Derived.Test.YtoafjmfnnbpnoaaAP1
set_option linter.unusedVariables false
set_option linter.unusedSimpArgs false
namespace Go.Proofs.Ytoafjmfnnbpnoaa
open Go Go.RowKit

def LenOk (yss zss : List (List Int)) : Prop := ∀ j, (gL zss j).length = (gL yss j).length
def FullR (i : Nat) (zss : List (List Int)) : Prop := ∀ j, j < i → ∀ x, x < (gL zss j).length → gI (gL zss j) x = -1000 - j
theorem gI_set_self (xs : List Int) (i : Nat) (x : Int) (h : i < xs.length) : gI (xs.set i x) i = x := by simp [gI, List.getD_eq_getElem?_getD, h]
theorem gI_set_ne (xs : List Int) (i j : Nat) (x : Int) (h : i ≠ j) : gI (xs.set i x) j = gI xs j := by simp [gI, List.getD_eq_getElem?_getD, List.getElem?_set, h]
theorem ints_set (xs : List Int) (i : Nat) (x : Int) : (ints xs).set i (.int .i64 x) = ints (xs.set i x) := by simp [ints, List.map_set]
theorem SVs.at1 {w : World} {ok : Nat → Prop} {v : Value} {n : Nat} {ys : List Value} (h : SVs w ok 1 v n ys) (i : Nat) (hi : i < ys.length) : ∃ ad c, v = .slice (some ad) n c ∧ ok ad.block ∧ w.cell? (ad.add i) = some ys[i] := by
  obtain ⟨A, c, rfl, _, _, _, hr⟩ := h
  obtain ⟨ad, rfl, h1, h2⟩ := hr i hi
  exact ⟨ad, c, rfl, h1, h2⟩
theorem SVs.open1 {w : World} {ok : Nat → Prop} {sz : Nat} {v : Value} {n : Nat} {ys : List Value} (h : SVs w ok sz v n ys) : ∃ A c, v = .slice A n c ∧ n ≤ c ∧ n ≤ 9223372036854775807 := by
  obtain ⟨A, c, rfl, h1, h2, _⟩ := h
  exact ⟨A, c, rfl, h1, h2⟩

set_option maxRecDepth 20000 in
set_option maxHeartbeats 4000000 in
theorem W_Apart (w : World) (v : Value) (vs : List Value) (yss : List (List Int)) (B : Nat) (ok : Nat → Prop) (hs : SVs w ok 1 v vs.length vs) (hr : ARows w B vs yss) (hok : ∀ k, ok k → ¬ RowBlk vs k) (hB : B ≤ w.heap.size)
    (hn : vs.length ≤ 100000) (hl : ∀ j, (gL yss j).length ≤ 100000) :
    Calls Try.prog 44 #[v] w fun e w' => e = .returned (.bool true) ∧ Mod (RowBlk vs) w w' := by
  obtain ⟨A, c, rfl, hnc, hn2⟩ := hs.open1
  have Hs := Lib.hid hs; have Hr := Lib.hid hr; have Hok := Lib.hid hok; have Hl := Lib.hid hl
  have HRlt : Hid (∀ k, RowBlk vs k → k < w.heap.size) := fun k hk => by
    obtain ⟨u, hu, hk⟩ := hk
    obtain ⟨i, hi, rfl⟩ := List.mem_iff_getElem.1 hu
    exact own_lt (hr.own i hi) hk
  clear hs hr hok hl
  go_enter Try.func44, Try.ntmps44
  go_wp2_with fail
  go_loopw [3] (fun t wr => ∃ (i : Nat) (zss : List (List Int)), t = .int .i64 i ∧ i ≤ vs.length ∧ Hid (ARows wr B vs zss) ∧ Hid (LenOk yss zss) ∧ Hid (FullR i zss) ∧ Hid (Mod (RowBlk vs) w wr)) (fun t _ => vs.length - (intOf t).toNat)
  case atStart => exact ⟨0, yss, rfl, Nat.zero_le _, Hr.out, fun _ => rfl, fun j hj => by omega, Mod.refl _ _⟩
  case round =>
    obtain ⟨i, zss, rfl, hi, HA, HL, HF, HM⟩ := hrel
    by_cases hlt : i < vs.length
    · obtain ⟨wo, hwo⟩ : ∃ wo : World, wo = wr := ⟨_, rfl⟩
      obtain ⟨L, hL⟩ : ∃ L, (gL yss i).length = L := ⟨_, rfl⟩
      have hLb : L ≤ 100000 := by rw [← hL]; exact Hl.out i
      obtain ⟨Ai, ci, hvi⟩ := own_slice (HA.out.own i hlt)
      rw [HL.out i, hL] at hvi
      obtain ⟨ad, c2, he, hk1, hk2⟩ := Hs.out.at1 i hlt
      cases he
      have Hcl : Hid (∀ W, Mod (RowBlk vs) w W → W.cell? (ad.add i) = some (.slice Ai L ci)) := fun W hm => by
        rw [hvi] at hk2
        have hb : (ad.add i).block = ad.block := by unfold Addr.add; split <;> rfl
        rw [← hk2]
        exact World.cell?_of_block (hm.block _ (World.block_lt_of_cell? w _ hk2) (by rw [hb]; exact Hok.out _ hk1))
      have hc0 := Hcl.out wr HM.out
      have HLL := Lib.hid hL; have Hvi := Lib.hid hvi
      clear hL hvi hk1 hk2 hwo
      go_wp2_with fail
      go_loopw [4] (fun t wq => ∃ (k : Nat) (zs : List (List Int)), t = .int .i64 k ∧ k ≤ L ∧ Hid (ARows wq B vs zs) ∧ Hid (LenOk yss zs) ∧ Hid (FullR i zs) ∧ Hid (∀ x, x < k → gI (gL zs i) x = -1000 - i) ∧ Hid (Mod (RowBlk vs) w wq)) (fun t _ => L - (intOf t).toNat)
      case atStart => exact ⟨0, zss, rfl, Nat.zero_le _, HA.out, HL.out, HF.out, fun x hx => by omega, HM.out⟩
      case round =>
        clear HA HL HF HM hc0
        obtain ⟨k, zs, rfl, hk, HA, HL, HF, HX, HM⟩ := hrel
        have hc0 := Hcl.out wr HM.out
        by_cases hkl : k < L
        · have ho := HA.out.own i hlt
          have hlen : (gL zs i).length = L := by rw [HL.out i, HLL.out]
          obtain ⟨g, cap, e, hg1, hg2, hg3, hg4⟩ := own_form ho (by omega)
          have e2 := Hvi.out
          rw [e, hlen] at e2
          cases e2
          have Hvg := Lib.hid e
          rw [e] at ho
          have k1 := ho.cellAt k (by omega)
          have k2 := ho.frozenAt k
          obtain ⟨y, k3⟩ : ∃ y, wr.cell? ⟨g, k, none⟩ = some (.int .i64 y) := ⟨(gL zs i)[k]'(by omega), by rw [k1]; simp [ints, show k < (gL zs i).length by omega]⟩
          have Hst := Lib.hid (ho.stored k (.int .i64 (-1000 - i)))
          have hw1 : IntKind.i64.wrap (-1000 - (i : Int)) = -1000 - (i : Int) := IntWalk.i64_in _ (by omega)
          have Hlen := Lib.hid hlen
          clear k1 ho e hlen hg1 hg2 hg3 hg4
          go_wp2_with fail
          go_roundw
          case rel =>
            refine ⟨k + 1, zs.set i ((gL zs i).set k (-1000 - i)), by go_num, by omega, ?_, ?_, ?_, ?_, ?_⟩
            · have h1 := Hst.out.1
              rw [ints_set] at h1
              refine HA.out.put hlt (by rw [Hvg.out]; rfl) ?_ Hst.out.2
              rw [Hvg.out, List.length_set]
              exact h1
            · intro j
              by_cases e : i = j
              · subst e; rw [gL_set_self _ _ _ (by rw [← HA.out.len]; exact hlt), List.length_set]; exact HL.out i
              · rw [gL_set_ne _ _ _ _ e]; exact HL.out j
            · intro j hj
              rw [gL_set_ne _ _ _ _ (by omega)]; exact HF.out j hj
            · intro x hx
              rw [gL_set_self _ _ _ (by rw [← HA.out.len]; exact hlt)]
              by_cases e : k = x
              · subst e; exact gI_set_self _ _ _ (by rw [Hlen.out]; exact hkl)
              · rw [gI_set_ne _ _ _ _ e]; exact HX.out x (by omega)
            · exact HM.out.setCell (p := ⟨g, k, none⟩) (fun _ => ⟨vs[i], List.getElem_mem hlt, by rw [Hvg.out]; rfl⟩) _
          case measure => simp [intOf]; omega
        · have HF2 : Hid (FullR (i + 1) zs) := fun j hj x hx => by
            by_cases e : j < i
            · exact HF.out j e x hx
            · obtain rfl : j = i := by omega
              exact HX.out x (by rw [HL.out j, HLL.out] at hx; omega)
          go_wp2_with fail
          go_roundw
          case rel => exact ⟨i + 1, zs, by go_num, by omega, HA.out, HL.out, HF2.out, HM.out⟩
          case measure => simp [intOf]; omega
    · obtain rfl : i = vs.length := by omega
      clear hlt hi
      obtain ⟨w2, hw2⟩ : ∃ w2 : World, w2 = wr := ⟨_, rfl⟩
      go_wp2_with fail
      go_loopw [5] (fun t wr => ∃ (i : Nat), t = .int .i64 i ∧ i ≤ vs.length ∧ Hid (ARows wr B vs zss) ∧ Hid (Mod (RowBlk vs) w wr)) (fun t _ => vs.length - (intOf t).toNat)
      case atStart => exact ⟨0, rfl, Nat.zero_le _, HA.out, HM.out⟩
      case round =>
        clear HA HM hw2
        obtain ⟨i, rfl, hi, HA, HM⟩ := hrel
        by_cases hlt : i < vs.length
        · obtain ⟨L, hL⟩ : ∃ L, (gL yss i).length = L := ⟨_, rfl⟩
          have hLb : L ≤ 100000 := by rw [← hL]; exact Hl.out i
          obtain ⟨Ai, ci, hvi⟩ := own_slice (HA.out.own i hlt)
          have hLz : (gL zss i).length = L := by rw [HL.out i, hL]
          rw [hLz] at hvi
          obtain ⟨ad, c2, he, hk1, hk2⟩ := Hs.out.at1 i hlt
          cases he
          have hc0 : wr.cell? (ad.add i) = some (.slice Ai L ci) := by
            rw [hvi] at hk2
            have hb : (ad.add i).block = ad.block := by unfold Addr.add; split <;> rfl
            rw [← hk2]
            exact World.cell?_of_block (HM.out.block _ (World.block_lt_of_cell? w _ hk2) (by rw [hb]; exact Hok.out _ hk1))
          have Hvi := Lib.hid hvi; have HLz := Lib.hid hLz
          have Ho0 := Lib.hid (HA.out.own i hlt)
          clear hL hvi hk1 hk2 hLz
          go_wp2_with fail
          go_loopw [6, 7] (fun x t wq => ∃ (k : Nat) (zs : List Int) (xv : Value), t = .int .i64 k ∧ k ≤ 6 ∧ Hid (x = xv) ∧ Hid (wq.ownsRow B 3 1 xv zs.length (ints zs)) ∧ Hid (zs.length = L + k) ∧ Hid (ARows wq B vs zss) ∧ Hid (Mod (RowBlk vs) w wq) ∧
            Hid ((∃ g cap, xv = .slice (some ⟨g, 0, none⟩) zs.length cap ∧ vs[i] = .slice (some ⟨g, 0, none⟩) L cap ∧ (gL zss i) <+: zs) ∨ ∀ b, xv.ownBlock = some b → w.heap.size ≤ b)) (fun _ t _ => 6 - (intOf t).toNat)
          case atStart =>
            refine ⟨0, gL zss i, _, rfl, by omega, rfl, ?_, HLz.out, HA.out, HM.out, ?_⟩
            · show World.ownsRow ..
              rw [← Hvi.out]; exact Ho0.out
            · show _ ∨ _
              rw [HLz.out]
              rcases Ho0.out.2 with ⟨e, _⟩ | ⟨g, cap, cur, e, _⟩
              · right
                rw [Hvi.out] at e
                cases e
                intro b hb; simp [Value.ownBlock] at hb
              · left
                rw [Hvi.out, HLz.out] at e
                cases e
                exact ⟨g, _, rfl, Hvi.out, List.prefix_refl _⟩
          case round =>
            clear HA HM hc0 Ho0
            obtain ⟨k, zs, xv, rfl, hk, HXv, HO, HZ, HA, HM, HP⟩ := hrel
            by_cases hk6 : k < 6
            · have hw1 : IntKind.i64.wrap (-5000 - (i : Int)) = -5000 - (i : Int) := IntWalk.i64_in _ (by omega)
              have hO2 : Hid ((wr.alloc (.cells #[.int .i64 (-5000 - i)] 3)).ownsRow B 3 1 _ _ _) := HO.out.alloc _
              have HA2 := Lib.hid (HA.out.below (below_alloc wr (.cells #[.int .i64 (-5000 - i)] 3)))
              have HM2 := Lib.hid (HM.out.alloc (.cells #[.int .i64 (-5000 - i)] 3))
              have hsz : w.heap.size ≤ wr.heap.size := HM.out.size
              have Hsz := Lib.hid hsz
              have Hzl : Hid (zs.length + 1 ≤ 1000000) := by show _ ≤ _; have := HZ.out; omega
              have HBs : Hid (B ≤ (wr.alloc (.cells #[.int .i64 (-5000 - i)] 3)).heap.size) := by show _ ≤ _; simp; omega
              have Hnc : Hid ((wr.alloc (.cells #[.int .i64 (-5000 - i)] 3)).cell? ⟨wr.heap.size, 0, none⟩ = some (.int .i64 (-5000 - i))) := by show _ = _; simp only [World.cell?, heap_alloc_new]; rfl
              clear hsz
              go_wp2_with (at_builtin; refine wpl_append_one rfl (.tmp 47) (.tmp 50) rfl B xv _ _ HXv.out hO2.out ⟨wr.heap.size, 0, none⟩ 1 (-5000 - i) rfl Hnc.out Hzl.out HBs.out ?_; intro v4 w4 hown4 hcase; have Hown4 := Lib.hid hown4; have Hcase := Lib.hid hcase; clear hown4 hcase)
              go_roundw
              case rel =>
                have hlen : (zs ++ [-5000 - (i : Int)]).length = zs.length + 1 := by simp
                have ho4 : w4.ownsRow B 3 1 v4 (zs ++ [-5000 - (i : Int)]).length (ints (zs ++ [-5000 - (i : Int)])) := by
                  rw [hlen, ints_append]; exact Hown4.out
                refine ⟨k + 1, zs ++ [-5000 - (i : Int)], v4, by go_num, by omega, rfl, ho4, by show _ = _; rw [hlen, HZ.out]; omega, ?_⟩
                rcases Hcase.out with ⟨g, cap, e1, e2, hg⟩ | ⟨e1, hb⟩
                · rcases HP.out with ⟨g', cap', f1, f2, f3⟩ | f1
                  · have e3 := f1.symm.trans e1
                    cases e3
                    have f4 : gL zss i <+: zs ++ [-5000 - (i : Int)] := f3.trans (List.prefix_append _ _)
                    refine ⟨?_, ?_, .inl ⟨g, cap, by rw [e2, hlen], f2, f4⟩⟩
                    · refine HA2.out.over hlt (by rw [f2, HLz.out]) f4 (n := (zs ++ [-5000 - (i : Int)]).length) ?_ hg
                      rw [e2, ← hlen] at ho4; exact ho4
                    · exact HM2.out.grown hg (fun k hk _ => by cases hk; exact ⟨vs[i], List.getElem_mem hlt, by rw [f2]; rfl⟩)
                  · have hge := f1 g (by rw [e1]; rfl)
                    refine ⟨HA2.out.grown hg (fun hk => by have := HRlt.out _ hk; omega), HM2.out.grown hg (fun k hk hl => by cases hk; omega), .inr fun b hb => ?_⟩
                    rw [e2] at hb; cases hb; exact hge
                · refine ⟨HA2.out.below hb, HM2.out.then_below hb, .inr fun b hb' => ?_⟩
                  rw [e1] at hb'; cases hb'
                  have := Hsz.out; simp; omega
              case measure => simp [intOf]; omega
            · clear HO HZ HP
              go_wp2_with fail
              go_roundw
              case rel => exact ⟨i + 1, by go_num, by omega, HA.out, HM.out⟩
              case measure => simp [intOf]; omega
        · obtain rfl : i = vs.length := by omega
          clear hlt hi
          have Hcl : Hid (∀ i (hi : i < vs.length), ∃ ad c2, Value.slice A vs.length c = .slice (some ad) vs.length c2 ∧ wr.cell? (ad.add i) = some vs[i]) := fun i hi => by
            obtain ⟨ad, c2, he, hk1, hk2⟩ := Hs.out.at1 i hi
            have hb : (ad.add i).block = ad.block := by unfold Addr.add; split <;> rfl
            exact ⟨ad, c2, he, by rw [← hk2]; exact World.cell?_of_block (HM.out.block _ (World.block_lt_of_cell? w _ hk2) (by rw [hb]; exact Hok.out _ hk1))⟩
          go_wp2_with fail
          go_loop [8] (fun t => ∃ (i : Nat), t = .int .i64 i ∧ i ≤ vs.length) (fun t => vs.length - (intOf t).toNat)
          case atStart => exact ⟨0, rfl, Nat.zero_le _⟩
          case round =>
            obtain ⟨i, rfl, hi⟩ := hrel
            by_cases hlt : i < vs.length
            · obtain ⟨L, hL⟩ : ∃ L, (gL yss i).length = L := ⟨_, rfl⟩
              have hLb : L ≤ 100000 := by rw [← hL]; exact Hl.out i
              obtain ⟨Ai, ci, hvi⟩ := own_slice (HA.out.own i hlt)
              have hLz : (gL zss i).length = L := by rw [HL.out i, hL]
              rw [hLz] at hvi
              obtain ⟨ad, c2, he, hc0⟩ := Hcl.out i hlt
              cases he
              rw [hvi] at hc0
              have Hvi := Lib.hid hvi; have HLz := Lib.hid hLz
              clear hvi hLz hL
              go_wp2_with fail
              go_loop [9] (fun t => ∃ (k : Nat), t = .int .i64 k ∧ k ≤ L) (fun t => L - (intOf t).toNat)
              case atStart => exact ⟨0, rfl, Nat.zero_le _⟩
              case round =>
                obtain ⟨k, rfl, hk⟩ := hrel
                by_cases hkl : k < L
                · have ho := HA.out.own i hlt
                  obtain ⟨g, cap, e, hg1, hg2, hg3, hg4⟩ := own_form ho (by rw [HLz.out]; omega)
                  have e2 := Hvi.out
                  rw [e, HLz.out] at e2
                  cases e2
                  rw [e] at ho
                  have k1 := ho.cellAt k (by rw [HLz.out]; omega)
                  have k3 : wr.cell? ⟨g, k, none⟩ = some (.int .i64 (-1000 - i)) := by
                    rw [k1]
                    have h1 := HF.out i hlt k (by rw [HLz.out]; exact hkl)
                    rw [gI_get _ _ (by rw [HLz.out]; exact hkl)] at h1
                    simp [ints, HLz.out, hkl, h1]
                  have hw1 : IntKind.i64.wrap (-1000 - (i : Int)) = -1000 - (i : Int) := IntWalk.i64_in _ (by omega)
                  clear k1 ho e hg1 hg2 hg3 hg4
                  go_wp2_with fail
                  go_round
                  case rel => exact ⟨k + 1, by go_num, by omega⟩
                  case measure => simp [intOf]; omega
                · go_wp2_with fail
                  go_round
                  case rel => exact ⟨i + 1, by go_num, by omega⟩
                  case measure => simp [intOf]; omega
            · go_wp2_with fail
              go_ret
              exact ⟨rfl, HM.out⟩
end Go.Proofs.Ytoafjmfnnbpnoaa
