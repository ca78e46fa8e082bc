/-
  What live of the tree's statements answers: true.
-/
import Derived.Test.YtoafjmfnnbpnoaaLA1
set_option linter.unusedVariables false
set_option linter.unusedSimpArgs false
namespace Go.Proofs.Ytoafjmfnnbpnoaa
open Go Go.RowKit

theorem below_mod {w a b : World} {F : Nat → Prop} (h : Below w.heap.size w a) (k : Mod F a b) (hF : ∀ i, F i → w.heap.size ≤ i) : Below w.heap.size w b :=
  ⟨k.os.trans h.os, k.tape.trans h.tape, k.output.trans h.output, Nat.le_trans h.size k.size, fun i hi => (k.block i (Nat.lt_of_lt_of_le hi h.size) (fun f => by have := hF i f; omega)).trans (h.block i hi)⟩
theorem fresh_of {w a : World} {F F' : Nat → Prop} (h : w.heap.size ≤ a.heap.size) (hF : ∀ i, F i → w.heap.size ≤ i) (k : ∀ i, F' i → F i ∨ a.heap.size ≤ i) : ∀ i, F' i → w.heap.size ≤ i :=
  fun i hi => (k i hi).elim (hF i) (Nat.le_trans h)
/-- A list that was written out. -/
theorem lit_SI (W : World) (g : Nat) (cs : Array Value) (xs : List Int) (h : cs.toList = ints xs) (hl : xs.length ≤ 9223372036854775807) (hg : W.heap.size = g) :
    SI (W.alloc (.cells cs 3)) (fun k => g ≤ k) (.slice (some ⟨g, 0, none⟩) xs.length xs.length) xs := by
  subst hg
  exact (own_lit W W.heap.size W.heap.size cs xs h (Nat.le_refl _) hl rfl).si
theorem TreeAt.lt {w : World} {F : Nat → Prop} {T : Nat} {p : PT} (h : TreeAt w F T p) : ∀ k, F k → k < w.heap.size := by
  obtain ⟨_, _, _, _, _, _, h⟩ := h; exact h.flt

theorem own_ge {w : World} {B : Nat} {e : TypeId} {sz n : Nat} {v : Value} {ys : List Value} (h : w.ownsRow B e sz v n ys) {k : Nat} (hk : v.ownBlock = some k) : B ≤ k := by
  rcases h.2 with ⟨rfl, _⟩ | ⟨g, cap, cur, rfl, hb, hh, _⟩
  · cases hk
  · injection hk with hk; subst hk; exact hb
theorem own_lt {w : World} {B : Nat} {e : TypeId} {sz n : Nat} {v : Value} {ys : List Value} (h : w.ownsRow B e sz v n ys) {k : Nat} (hk : v.ownBlock = some k) : k < w.heap.size := by
  obtain ⟨cur, hh⟩ := own_block_lt h hk
  exact (Array.getElem?_eq_some_iff.1 hh).1

def lv1 : PT := splitNew (newP 1 1 2) 0 0 [] [0] [0] [1]
def lv2 : PT := (siftP lv1 [0, 0]).1
def lv3 : PT := (tellP lv2 [0]).1
theorem lv_pre : SplitPre (newP 1 1 2) 0 0 0 [] [0] [0] [1] where
  sl := by decide
  pl := rfl
  pj := rfl
  lf := rfl
  cd := by decide
  cw := by decide
  dk := fun _ => by decide
  sw := by decide
  sn := by decide
  ne := by decide
  nw := by decide
  most := by decide
  all := by decide
  o := by decide
  dl := by decide
  wl := by decide
theorem lv_tell : TellPre lv2 where
  pos := by decide
  word := by decide
  by_ := fun b c e => by
    have : hereP lv2 = some ([], [([0], 1), ([1], 2)]) := rfl
    rw [this] at e; cases e
    refine ⟨by simp, fun h => by revert h; decide, fun q hq => ?_⟩
    simp only [List.mem_cons, List.not_mem_nil, or_false] at hq
    rcases hq with rfl | rfl
    · intro x hx; simp at hx; omega
    · intro x hx; simp at hx; omega
  acc := by decide
  place := by decide
  all := by decide
  o := by decide
  kind := .inl rfl
theorem lv_sane : Sane lv3.all := by
  intro i b ch h q hq
  have e : lv3.all = [PB.node [] [([0], 1), ([1], 2)], PB.leaf 0, PB.leaf 1] := rfl
  rw [e] at h ⊢
  rcases i with _ | _ | _ | i
  · simp at h
    obtain ⟨rfl, rfl⟩ := h
    simp only [List.mem_cons, List.not_mem_nil, or_false] at hq
    rcases hq with rfl | rfl <;> simp
  · simp at h
  · simp at h
  · simp at h
theorem lv_one : OneBoth lv3.all 0 1 := by
  intro i b ch h q hq q' hq' h1 h2
  have e : lv3.all = [PB.node [] [([0], 1), ([1], 2)], PB.leaf 0, PB.leaf 1] := rfl
  rw [e] at h h1 h2
  rcases i with _ | _ | _ | i
  · simp at h
    obtain ⟨rfl, rfl⟩ := h
    simp only [List.mem_cons, List.not_mem_nil, or_false] at hq
    rcases hq with rfl | rfl
    · exact absurd h1 (by decide)
    · exact absurd h1 (by decide)
  · simp at h
  · simp at h
  · simp at h
theorem lv_by : ∀ (i : Nat) b ch, lv3.all[i]? = some (PB.node b ch) → b.length ≤ 4096 := by
  intro i b ch h
  have e : lv3.all = [PB.node [] [([0], 1), ([1], 2)], PB.leaf 0, PB.leaf 1] := rfl
  rw [e] at h
  rcases i with _ | _ | _ | i
  · simp at h; rw [h.1]; simp
  · simp at h
  · simp at h
  · simp at h

set_option maxRecDepth 20000 in
set_option maxHeartbeats 4000000 in
theorem l14_live (w : World) : Calls Try.prog 18 #[] w fun e w' => e = .returned (.bool true) ∧ Below w.heap.size w w' := by
  go_enter Try.func18, Try.ntmps18
  go_wp2_with fail
  refine (tree_New 1 1 2 w).mono ?_
  rintro e w1 ⟨hb1, hx⟩
  obtain ⟨T, rfl, ht⟩ : ∃ T, e = .returned (.tuple #[.pointer (some ⟨T, 0, none⟩), .int .i64 0]) ∧ TreeAt w1 (fun x => w.heap.size ≤ x ∧ x < w1.heap.size) T (newP 1 1 2) := by
    rcases hx with ⟨h, _⟩ | ⟨_, h⟩
    · exact absurd (show newErr 1 1 2 = 0 by decide) h
    · exact h
  have HB1 := Lib.hid hb1; have HT1 := Lib.hid ht
  clear hb1 hx ht
  go_wp2_with fail
  refine (l14_num w1 0).mono ?_
  rintro e w1' ⟨rfl, rfl⟩
  go_wp2_with fail
  obtain ⟨W, hW⟩ : ∃ W, W = ((w1.alloc (.cells #[.int .i64 0] 3)).alloc (.cells #[.int .i64 0] 3)).alloc (.cells #[.int .i64 1] 3) := ⟨_, rfl⟩
  have hbW : Below w1.heap.size w1 W := by rw [hW]; exact (((Below.refl _ _).alloc (Nat.le_refl _) _).alloc (by simp) _).alloc (by simp; omega) _
  have hs1 : SI W (fun k => w1.heap.size ≤ k) (.slice (some ⟨w1.heap.size, 0, none⟩) 1 1) [0] := by
    rw [hW]; exact ((lit_SI w1 _ #[.int .i64 0] [0] rfl (by simp) rfl).below (below_alloc ..)).below (below_alloc ..)
  have hs2 : SI W (fun k => w1.heap.size ≤ k) (.slice (some ⟨w1.heap.size + 1, 0, none⟩) 1 1) [0] := by
    rw [hW]; exact ((lit_SI (w1.alloc _) (w1.heap.size + 1) #[.int .i64 0] [0] rfl (by simp) (by simp)).below (below_alloc ..)).keep (fun _ _ _ => rfl) (fun k hk _ => by omega)
  have hs3 : SI W (fun k => w1.heap.size ≤ k) (.slice (some ⟨w1.heap.size + 1 + 1, 0, none⟩) 1 1) [1] := by
    rw [hW]; exact (lit_SI ((w1.alloc _).alloc _) (w1.heap.size + 1 + 1) #[.int .i64 1] [1] rfl (by simp) (by simp)).keep (fun _ _ _ => rfl) (fun k hk _ => by omega)
  rw [← hW]
  have HbW := Lib.hid hbW; have H1 := Lib.hid hs1; have H2 := Lib.hid hs2; have H3 := Lib.hid hs3
  clear hW hbW hs1 hs2 hs3
  refine (tree_Split1 W _ T (newP 1 1 2) 0 0 0 _ _ _ _ [] [0] [0] [1] (fun _ => False) _ _ _ (HT1.out.below HbW.out) (SI.nil _ _) H1.out H2.out H3.out (fun k hk hf => by omega) (fun k hk hf => by omega) (fun k hk hf => by omega) lv_pre).mono ?_
  rintro e w2 ⟨he, hm2, F2, hF2, hS2, ht2⟩
  have he' : e = .returned (.tuple #[.int .i64 1, .int .i64 0]) := he
  clear he
  subst he'
  have HB2 : Hid (Below w.heap.size w w2) := below_mod (below_then HB1.out HbW.out) hm2 (fun k hk => hk.1)
  have HF2 : Hid (∀ k, F2 k → w.heap.size ≤ k) := fresh_of (below_then HB1.out HbW.out).size (fun k hk => hk.1) hF2
  have HT2 : Hid (TreeAt w2 F2 T lv1) := ht2
  clear hm2 hF2 hS2 ht2 H1 H2 H3 HT1 HbW HB1
  go_wp2_with fail
  obtain ⟨W, hW⟩ : ∃ W, W = w2.alloc (.cells #[.int .i64 0, .int .i64 0] 3) := ⟨_, rfl⟩
  have hbW : Below w2.heap.size w2 W := by rw [hW]; exact below_alloc ..
  have hs1 : SI W (fun k => w2.heap.size ≤ k) (.slice (some ⟨w2.heap.size, 0, none⟩) 2 2) [0, 0] := by
    rw [hW]; exact lit_SI w2 _ #[.int .i64 0, .int .i64 0] [0, 0] rfl (by simp) rfl
  rw [← hW]
  have HbW := Lib.hid hbW; have H1 := Lib.hid hs1
  clear hW hbW hs1
  refine (tree_Sift W F2 T lv1 _ [0, 0] _ (HT2.out.below HbW.out) H1.out (by simp)).mono ?_
  rintro e w3 ⟨rfl, hm3, F3, hF3, hS3, ht3⟩
  have HB3 : Hid (Below w.heap.size w w3) := below_mod (below_then HB2.out HbW.out) hm3 HF2.out
  have HF3 : Hid (∀ k, F3 k → w.heap.size ≤ k) := fresh_of (below_then HB2.out HbW.out).size HF2.out hF3
  have HT3 : Hid (TreeAt w3 F3 T lv2) := ht3
  have e3 : (siftP lv1 [0, 0]).2 = 0 := by decide
  rw [e3]
  clear hm3 hF3 hS3 ht3 H1 HT2 HbW HB2 HF2 e3
  have HA := Lib.hid (tree_Ask w3 F3 T lv2 HT3.out lv_tell.pos lv_tell.word (fun b c e => (lv_tell.by_ b c e).1))
  go_wp2_with fail
  refine HA.out.mono ?_
  rintro e w4 ⟨vq, rfl, ho4, hb4⟩
  obtain ⟨Aq, cq, e⟩ := own_slice ho4
  subst e
  have e4 : askP lv2 = ([0, 0], true) := rfl
  rw [e4] at ho4 ⊢
  have HB4 : Hid (Below w.heap.size w w4) := below_then HB3.out hb4
  have HT4 : Hid (TreeAt w4 F3 T lv2) := HT3.out.below hb4
  have HQ : Hid (OI w4 w3.heap.size (.slice Aq 2 cq) [0, 0]) := ho4
  have HQF : Hid (∀ k, F3 k → k < w3.heap.size) := HT3.out.lt
  clear ho4 hb4 e4 HA
  go_wp2_with fail
  obtain ⟨W, hW⟩ : ∃ W, W = w4.alloc (.cells #[.int .i64 0] 3) := ⟨_, rfl⟩
  have hbW : Below w4.heap.size w4 W := by rw [hW]; exact below_alloc ..
  have hs1 : SI W (fun k => w4.heap.size ≤ k) (.slice (some ⟨w4.heap.size, 0, none⟩) 1 1) [0] := by
    rw [hW]; exact lit_SI w4 _ #[.int .i64 0] [0] rfl (by simp) rfl
  rw [← hW]
  have HbW := Lib.hid hbW; have H1 := Lib.hid hs1
  clear hW hbW hs1
  refine (tree_Tell W F3 T lv2 _ [0] _ (HT4.out.below HbW.out) H1.out lv_tell).mono ?_
  rintro e w5 ⟨rfl, hm5, F5, hF5, hS5, ht5⟩
  have HB5 : Hid (Below w.heap.size w w5) := below_mod (below_then HB4.out HbW.out) hm5 HF3.out
  have HF5 : Hid (∀ k, F5 k → w.heap.size ≤ k) := fresh_of (below_then HB4.out HbW.out).size HF3.out hF5
  have HT5 : Hid (TreeAt w5 F5 T lv3) := ht5
  have HQ5 : Hid (OI w5 w3.heap.size (.slice Aq 2 cq) [0, 0]) := own_mod (own_below HQ.out HbW.out) hm5 (fun k hk hf => by
    have := own_ge HQ.out hk
    have := HQF.out k hf; omega)
  have e5 : (tellP lv2 [0]).2 = 0 := by decide
  rw [e5]
  clear hm5 hF5 hS5 ht5 H1 HT4 HT3 HbW HB4 HB3 HF3 HQ HQF e5
  have HL := Lib.hid (tree_Leaf w5 F5 T lv3 HT5.out (by decide))
  go_wp2_with fail
  refine HL.out.mono ?_
  rintro e w6 ⟨rfl, hb6⟩
  have e6 : leafP lv3 = (0, true) := rfl
  rw [e6]
  have HB6 : Hid (Below w.heap.size w w6) := below_then HB5.out hb6
  have HT6 : Hid (TreeAt w6 F5 T lv3) := HT5.out.below hb6
  have HQ6 := Lib.hid (own_below HQ5.out hb6)
  have HC := Lib.hid (tree_Common w6 F5 T lv3 0 1 HT6.out lv_sane (fun _ => lv_one) (by decide) lv_by)
  clear hb6 HB5 HT5 HQ5 HL e6
  go_wp2_with fail
  refine HC.out.mono ?_
  rintro e w7 ⟨vc, rfl, ho7, hb7⟩
  have e7 : commonP lv3 0 1 = ([], 0) := rfl
  rw [e7] at ho7 ⊢
  obtain ⟨Ac, cc, e⟩ := own_slice ho7
  subst e
  have HB7 : Hid (Below w.heap.size w w7) := below_then HB6.out hb7
  have HT7 : Hid (TreeAt w7 F5 T lv3) := HT6.out.below hb7
  have HQ7 := Lib.hid (own_below HQ6.out hb7)
  clear hb7 HB6 HT6 HQ6 HC e7 ho7
  go_wp2_with (go_at_call 21; refine (l14_num _ 0).mono ?_; rintro e w7' ⟨rfl, rfl⟩)
  obtain ⟨W, hW⟩ : ∃ W, W = w7.alloc (.cells #[.int .i64 0, .int .i64 0] 3) := ⟨_, rfl⟩
  have hbW : Below w7.heap.size w7 W := by rw [hW]; exact below_alloc ..
  have hs1 : SI W (fun k => w7.heap.size ≤ k) (.slice (some ⟨w7.heap.size, 0, none⟩) 2 2) [0, 0] := by
    rw [hW]; exact lit_SI w7 _ #[.int .i64 0, .int .i64 0] [0, 0] rfl (by simp) rfl
  rw [← hW]
  have HB8 := Lib.hid (below_then HB7.out hbW)
  have HT8 := Lib.hid (HT7.out.below hbW)
  have HS := Lib.hid (W_Same (.slice Aq 2 cq) (.slice (some ⟨w7.heap.size, 0, none⟩) 2 2) [0, 0] [0, 0] W _ _ (own_reads (own_below HQ7.out hbW)) hs1)
  clear hW hbW hs1
  refine HS.out.mono ?_
  rintro e w8 ⟨he, hq⟩
  rw [show decide (([0, 0] : List Int) = [0, 0]) = true from rfl] at he
  subst he
  have HB9 := Lib.hid (below_then HB8.out hq.below)
  have HT9 := Lib.hid (HT8.out.below hq.below)
  clear hq HS HB8 HT8
  have e9 : lv3.access.length = 2 := rfl
  have HCn := Lib.hid (tree_Count w8 F5 T lv3 HT9.out)
  go_wp2_with fail
  refine HCn.out.mono ?_
  rintro e w9 ⟨he, rfl⟩
  rw [e9] at he
  subst he
  have HD := Lib.hid (tree_Depth w8 F5 T lv3 HT9.out lv_sane (by decide))
  have e10 : depthP lv3 = 1 := rfl
  clear e9 HCn
  have H10 := Lib.hid e10
  clear e10
  go_wp2_with fail
  refine HD.out.mono ?_
  rintro e w9 ⟨he, hb⟩
  rw [H10.out] at he
  subst he
  have HB10 := Lib.hid (below_then HB9.out hb)
  clear hb
  go_wp2_with fail
  go_ret
  exact ⟨rfl, HB10.out⟩
end Go.Proofs.Ytoafjmfnnbpnoaa
