/-
  What the tree's Common computes.
-/
import Derived.Test.YtoafjmfnnbpnoaaTR12
set_option linter.unusedVariables false
set_option linter.unusedSimpArgs false
namespace Go.Proofs.Ytoafjmfnnbpnoaa
open Go Go.RowKit

def bothP (all : List PB) (s u : Int) (c : Nat) : Bool := underP all s c && underP all u c
def commonF (all : List PB) (s u : Int) : Nat → Nat → Option (List Int)
  | 0, _ => none
  | n + 1, i => match all[i]? with
    | some (.node b ch) => match ch.find? (fun q => bothP all s u q.2) with
      | some q => commonF all s u n q.2
      | none => some b
    | _ => none
/-- Both states stand under one child at most. -/
def OneBoth (all : List PB) (s u : Int) : Prop := ∀ (i : Nat) (b : List Int) (ch : List (List Int × Nat)), all[i]? = some (PB.node b ch) → ∀ q ∈ ch, ∀ q' ∈ ch, bothP all s u q.2 = true → bothP all s u q'.2 = true → q.2 = q'.2
def commonR : Option (List Int) → List Int × Int
  | none => ([], 1)
  | some b => (b, 0)
def commonP (p : PT) (s u : Int) : List Int × Int :=
  if s < 0 ∨ u < 0 ∨ s ≥ p.access.length ∨ u ≥ p.access.length then ([], 32) else if s = u then ([], 1) else commonR (commonF p.all s u p.all.length 0)
def boI : Option Nat → Int
  | none => -1
  | some c => c

set_option maxRecDepth 20000 in
set_option maxHeartbeats 4000000 in
theorem tree_Common0 (w : World) (F : Nat → Prop) (T : Nat) (p : PT) (s u : Int) (ht : TreeAt w F T p) (hbad : (s < 0 ∨ u < 0 ∨ s ≥ p.access.length ∨ u ≥ p.access.length) ∨ s = u) :
    Calls Try.prog 33 #[.pointer (some ⟨T, 0, none⟩), .int .i64 s, .int .i64 u] w (WordR w (commonP p s u)) := by
  obtain ⟨vall, vacc, vplace, vword, vaccs, gall, h⟩ := ht
  have c7 := h.c7
  have hl := h.accl
  have hla := h.lacc
  obtain ⟨Aa, ca, rfl⟩ := own_slice h.acc
  obtain ⟨r, hr⟩ : ∃ r, commonP p s u = r := ⟨_, rfl⟩
  rw [hr]
  have Hr := Lib.hid hr
  clear hr h
  by_cases h1 : s < 0
  · have e : r = ([], 32) := by rw [← Hr.out]; unfold commonP; rw [if_pos (by omega)]
    subst e
    clear Hr hbad hl
    go_enter Try.func33, Try.ntmps33
    go_wp2_with fail
    go_ret2
    exact ⟨_, rfl, World.ownsRow_nil .., Below.refl _ _⟩
  · by_cases h2 : u < 0
    · have e : r = ([], 32) := by rw [← Hr.out]; unfold commonP; rw [if_pos (by omega)]
      subst e
      clear Hr hbad hl
      go_enter Try.func33, Try.ntmps33
      go_wp2_with fail
      go_ret2
      exact ⟨_, rfl, World.ownsRow_nil .., Below.refl _ _⟩
    · by_cases h3 : s ≥ vaccs.length
      · have e : r = ([], 32) := by rw [← Hr.out]; unfold commonP; rw [if_pos (by omega)]
        subst e
        clear Hr hbad hl
        go_enter Try.func33, Try.ntmps33
        go_wp2_with fail
        go_ret2
        exact ⟨_, rfl, World.ownsRow_nil .., Below.refl _ _⟩
      · by_cases h4 : u ≥ vaccs.length
        · have e : r = ([], 32) := by rw [← Hr.out]; unfold commonP; rw [if_pos (by omega)]
          subst e
          clear Hr hbad hl
          go_enter Try.func33, Try.ntmps33
          go_wp2_with fail
          go_ret2
          exact ⟨_, rfl, World.ownsRow_nil .., Below.refl _ _⟩
        · have e5 : s = u := by omega
          have e : r = ([], 1) := by rw [← Hr.out]; unfold commonP; rw [if_neg (by omega), if_pos e5]
          subst e
          subst e5
          clear Hr hbad hl
          go_enter Try.func33, Try.ntmps33
          go_wp2_with fail
          go_ret2
          exact ⟨_, rfl, World.ownsRow_nil .., Below.refl _ _⟩

theorem own_up {w : World} {B B' : Nat} {e : TypeId} {sz n : Nat} {v : Value} {ys : List Value} (h : w.ownsRow B e sz v n ys) (hB : B' ≤ B) : w.ownsRow B' e sz v n ys := by
  refine ⟨h.1, ?_⟩
  rcases h.2 with h2 | ⟨g, cap, cur, hv, hb, r⟩
  · exact .inl h2
  · exact .inr ⟨g, cap, cur, hv, Nat.le_trans hB hb, r⟩
/-- What the loop over the children has found. -/
def BoInv (all : List PB) (s u : Int) (ch : List (List Int × Nat)) (seen : Array Nat) : Option Nat → Prop
  | none => ∀ (i : Nat) (k : List Int) (c : Nat), seen.contains i = true → ch[i]? = some (k, c) → bothP all s u c = false
  | some c => ∃ k, (k, c) ∈ ch ∧ bothP all s u c = true

set_option maxRecDepth 20000 in
set_option maxHeartbeats 4000000 in
theorem tree_Common1 (w : World) (F : Nat → Prop) (T : Nat) (p : PT) (s u : Int) (ht : TreeAt w F T p) (hsane : Sane p.all) (hone : OneBoth p.all s u) (hne : p.all ≠ []) (hby : ∀ (i : Nat) b ch, p.all[i]? = some (PB.node b ch) → b.length ≤ 4096)
    (hs0 : 0 ≤ s) (hu0 : 0 ≤ u) (hs1 : s < p.access.length) (hu1 : u < p.access.length) (hsu : ¬ s = u) :
    Calls Try.prog 33 #[.pointer (some ⟨T, 0, none⟩), .int .i64 s, .int .i64 u] w (WordR w (commonP p s u)) := by
  have HT := Lib.hid ht
  obtain ⟨vall, vacc, vplace, vword, vaccs, gall, h⟩ := ht
  have c7 := h.c7
  have hl := h.accl
  have hla := h.lacc
  have hlen := h.lall
  have HG := Lib.hid h
  obtain ⟨Aa, ca, rfl⟩ := own_slice h.acc
  obtain ⟨Al, cl, rfl⟩ := own_slice h.all
  obtain ⟨r, hr⟩ : ∃ r, commonF p.all s u p.all.length 0 = r := ⟨_, rfl⟩
  have hcp : commonP p s u = commonR r := by unfold commonP; rw [if_neg (by omega), if_neg hsu, hr]
  rw [hcp]
  have Hr := Lib.hid hr
  have Hsane := Lib.hid hsane
  have Hone := Lib.hid hone
  have Hby := Lib.hid hby
  have hpos : 0 < p.all.length := by
    cases e : p.all with
    | nil => exact absurd e hne
    | cons x l => simp
  have h3 : ¬ s < 0 := by omega
  have h4 : ¬ u < 0 := by omega
  have h5 : ¬ s ≥ vaccs.length := by omega
  have h6 : ¬ u ≥ vaccs.length := by omega
  clear hr h hsane hone hby hcp hne hs0 hu0 hs1 hu1 hl
  go_enter Try.func33, Try.ntmps33
  go_wp2_with fail
  have Hpos := Lib.hid hpos
  clear hpos
  go_loopw [8] (fun t wr => ∃ a n : Nat, t = .int .i64 a ∧ Hid (a < p.all.length) ∧ Hid (Below w.heap.size w wr) ∧ Hid (p.all.length - a ≤ n) ∧ Hid (commonF p.all s u n a = r)) (fun t _ => p.all.length - (intOf t).toNat)
  case atStart => exact ⟨0, p.all.length, rfl, Hpos, Below.refl _ _, Nat.sub_le _ _, Hr.out⟩
  case round =>
    rename World => wo
    obtain ⟨a, n, rfl, Ha, HB, HN, HR⟩ := hrel
    have hG := HG.out.below HB.out
    have c6 := hG.c6
    obtain ⟨g, hg⟩ : ∃ g, gall[a]? = some g := ⟨_, List.getElem?_eq_getElem (by have := Ha.out; rw [← hG.pall] at this; simpa using this)⟩
    have hp' := (List.getElem?_eq_some_iff.1 hg).1
    have hpb : p.all[a]? = some g.pb := by rw [← hG.pall, List.getElem?_map, hg]; rfl
    obtain ⟨ga, e, hcell, _⟩ := own_cell hG.all a (v := g.val) (by simp [hg])
    subst e
    have ha63 : a ≤ 9223372036854775807 := by omega
    cases n with
    | zero => exact absurd HN.out (by have := Ha.out; omega)
    | succ n =>
    cases g with
    | leaf t =>
      have e : r = none := by rw [← HR.out]; unfold commonF; rw [hpb]; rfl
      subst e
      have hta := ta_node_leaf t
      simp only [GB.val] at hcell
      clear hG hg hpb
      go_wp2_with fail
      go_ret2
      exact ⟨_, rfl, World.ownsRow_nil .., HB.out⟩
    | node nb mb vby b ch =>
      have hmem := List.mem_of_getElem? hg
      obtain ⟨n1, n2, n3, n4, n5⟩ := hG.nodes _ _ _ _ _ hmem
      have y1 := cell_of_block n1 1 rfl
      have hta := ta_node ⟨nb, 0, none⟩
      obtain ⟨hra, hit⟩ := IterAt.start n2
      have Hit := Lib.hid hit
      have Hn1 := Lib.hid n1
      have Hn3 := Lib.hid n3
      have hbl := Hby.out a b ch hpb
      obtain ⟨Ab, cb, e, _⟩ := n3.open
      subst e
      have hch : ∀ q ∈ ch, a < q.2 ∧ q.2 < p.all.length := Hsane.out a b ch hpb
      have Hch := Lib.hid hch
      have h1b : ∀ q ∈ ch, ∀ q' ∈ ch, bothP p.all s u q.2 = true → bothP p.all s u q'.2 = true → q.2 = q'.2 := Hone.out a b ch hpb
      have H1b := Lib.hid h1b
      have HR2 : Hid ((match ch.find? (fun q => bothP p.all s u q.2) with | some q => commonF p.all s u n q.2 | none => some b) = r) := by
        show _ = r
        rw [← HR.out]
        conv => rhs; unfold commonF
        rw [hpb]; rfl
      simp only [GB.val] at hcell
      clear hG hg hpb n1 n2 n3 n4 n5 hmem hit hch h1b
      go_wp2_with fail
      go_loopw [11] (fun bo wq => ∃ (seen : Array Nat) (o : Option Nat), bo = .int .i64 (boI o) ∧ Hid (IterAt wq wo.heap.size mb ch seen) ∧ Hid (Below wo.heap.size wo wq) ∧ Hid (BoInv p.all s u ch seen o)) (fun _ wq => leftN wq wo.heap.size ch)
      case atStart => exact ⟨#[], none, rfl, Hit, below_alloc .., fun i k c e => by simp at e⟩
      case round =>
        obtain ⟨seen, o, rfl, HI, HB1, HS⟩ := hrel
        rcases HI.out.next 0 with ⟨hall, hnx⟩ | ⟨j, k, c, wn, hq, hns, hnx, hI2, hB2, hlt, hen⟩
        · cases o with
          | none =>
            have hfn : ch.find? (fun q => bothP p.all s u q.2) = none := by
              rw [List.find?_eq_none]
              intro q hq hu
              obtain ⟨i, hi⟩ := List.getElem?_of_mem hq
              rw [HS.out i q.1 q.2 (hall i (List.getElem?_eq_some_iff.1 hi).1) hi] at hu
              cases hu
            have e : r = some b := by rw [← HR2.out, hfn]
            subst e
            have y0 := cell_of_block (blk_keep Hn1.out (fun hk => HB1.out.block _ hk)) 0 rfl
            have HB3 := Lib.hid (below_then HB.out HB1.out)
            simp only [boI]
            clear hall hfn
            go_wp2_with fail
            refine (slices_Clone _ b _ _ (Hn3.out.below HB1.out) (by omega)).mono ?_
            rintro e w1 ⟨v1, rfl, ho, hb1⟩
            have H1 : Hid (OI w1 w.heap.size v1 b ∧ Below w.heap.size w w1) := ⟨own_up ho HB3.out.size, below_then HB3.out hb1⟩
            clear ho hb1
            go_wp2_with fail
            go_ret2
            exact ⟨_, rfl, H1.out⟩
          | some c =>
            obtain ⟨k, hk, hbo⟩ := HS.out
            have hc := Hch.out _ hk
            obtain ⟨q, hfq, hq2⟩ : ∃ q, ch.find? (fun q => bothP p.all s u q.2) = some q ∧ q.2 = c := by
              cases hf : ch.find? (fun q => bothP p.all s u q.2) with
              | none => exact absurd hbo (by have := List.find?_eq_none.1 hf _ hk; simpa using this)
              | some q => exact ⟨q, rfl, H1b.out q (List.mem_of_find?_eq_some hf) (k, c) hk (by simpa using List.find?_some hf) hbo⟩
            have HR3 : Hid (commonF p.all s u n c = r) := by show _ = r; rw [← HR2.out, hfq, ← hq2]
            have HB3 := Lib.hid (below_then HB.out HB1.out)
            have hnn := HN.out
            have hn' : p.all.length - c ≤ n := by simp only at hc; omega
            have hc1 := hc.1
            have hc2 := hc.2
            have Hc2 := Lib.hid hc2
            have Hn' := Lib.hid hn'
            have hc0 : ¬ ((c : Int) < 0) := by omega
            simp only [boI]
            clear hall hfq hq2 hc hbo hk hnn hn'
            go_wp2_with fail
            go_roundw
            case rel => exact ⟨c, n, rfl, Hc2.out, HB3.out, Hn'.out, HR3.out⟩
            case measure => simp [intOf]; omega
        · have Hq := Lib.hid hq
          have Hlt := Lib.hid hlt
          have HI2 := Lib.hid hI2
          have HB2 := Lib.hid hB2
          have hcc := Hch.out _ (List.mem_of_getElem? hq)
          have Hcc := Lib.hid hcc
          have hbn := below_then HB.out (below_same HB1.out HB2.out)
          have Hbn := Lib.hid hbn
          have Hb1 := Lib.hid (below_same HB1.out HB2.out)
          clear hq hns hlt hI2 hB2 hcc hbn
          go_wp2_with fail
          refine (tree_under F T p s Hsane.out p.all.length wn c (Nat.sub_le _ _) Hcc.out.2 (HT.out.below Hbn.out)).mono ?_
          rintro e w2 ⟨rfl, hb2⟩
          have Hb2 := Lib.hid hb2
          have Hbn2 := Lib.hid (below_then Hbn.out hb2)
          have Hb12 := Lib.hid (below_then Hb1.out hb2)
          have HI3 := Lib.hid (HI2.out.keep hb2)
          have Hl3 : Hid (leftN w2 wo.heap.size ch < leftN wr wo.heap.size ch) := by show _ < _; rw [HI3.out.leftN, ← HI2.out.leftN]; exact Hlt.out
          have hstay : ∀ w3, IterAt w3 wo.heap.size mb ch (seen.push j) → bothP p.all s u c = false → BoInv p.all s u ch (seen.push j) o := by
            intro w3 _ hbf
            cases o with
            | some c' => exact HS.out
            | none =>
              intro i' k' c' hc hq'
              rw [contains_push] at hc
              cases hh : seen.contains i' with
              | true => exact HS.out i' k' c' hh hq'
              | false =>
                rw [hh, Bool.false_or, beq_iff_eq] at hc
                subst hc
                rw [Hq.out] at hq'
                injection hq' with hq'
                injection hq' with _ e2
                rw [← e2]; exact hbf
          have Hstay := Lib.hid hstay
          clear hb2 hstay
          cases hu : underF p.all s p.all.length c with
          | false =>
            have Hu : Hid (bothP p.all s u c = false) := by show _ = _; unfold bothP underP; rw [hu]; rfl
            clear hu hnx hen
            go_wp2_with fail
            go_roundw
            case rel => exact ⟨seen.push j, o, rfl, HI3.out, Hb12.out, Hstay.out _ HI3.out Hu.out⟩
            case measure => exact Hl3.out
          | true =>
            have Hu := Lib.hid hu
            clear hu hnx hen
            go_wp2_with fail
            refine (tree_under F T p u Hsane.out p.all.length w2 c (Nat.sub_le _ _) Hcc.out.2 (HT.out.below Hbn2.out)).mono ?_
            rintro e w3 ⟨rfl, hb3⟩
            have Hb13 := Lib.hid (below_then Hb12.out hb3)
            have HI4 := Lib.hid (HI3.out.keep hb3)
            have Hl4 : Hid (leftN w3 wo.heap.size ch < leftN wr wo.heap.size ch) := by show _ < _; rw [HI4.out.leftN, ← HI2.out.leftN]; exact Hlt.out
            clear hb3
            cases hu2 : underF p.all u p.all.length c with
            | false =>
              have Hu2 : Hid (bothP p.all s u c = false) := by show _ = _; unfold bothP underP; rw [hu2, Bool.and_false]
              clear hu2
              go_wp2_with fail
              go_roundw
              case rel => exact ⟨seen.push j, o, rfl, HI4.out, Hb13.out, Hstay.out _ HI4.out Hu2.out⟩
              case measure => exact Hl4.out
            | true =>
              have Hu2 : Hid (bothP p.all s u c = true) := by show _ = _; unfold bothP underP; rw [hu2, Hu.out]; rfl
              clear hu2
              go_wp2_with fail
              go_roundw
              case rel => exact ⟨seen.push j, some c, rfl, HI4.out, Hb13.out, k, List.mem_of_getElem? Hq.out, Hu2.out⟩
              case measure => exact Hl4.out

theorem tree_Common (w : World) (F : Nat → Prop) (T : Nat) (p : PT) (s u : Int) (ht : TreeAt w F T p) (hsane : Sane p.all) (hone : ¬ s = u → OneBoth p.all s u) (hne : p.all ≠ []) (hby : ∀ (i : Nat) b ch, p.all[i]? = some (PB.node b ch) → b.length ≤ 4096) :
    Calls Try.prog 33 #[.pointer (some ⟨T, 0, none⟩), .int .i64 s, .int .i64 u] w (WordR w (commonP p s u)) := by
  by_cases hb : (s < 0 ∨ u < 0 ∨ s ≥ p.access.length ∨ u ≥ p.access.length) ∨ s = u
  · exact tree_Common0 w F T p s u ht hb
  · exact tree_Common1 w F T p s u ht hsane (hone (by omega)) hne hby (by omega) (by omega) (by omega) (by omega) (by omega)
end Go.Proofs.Ytoafjmfnnbpnoaa
