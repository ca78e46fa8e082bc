/-
  What the tree's Depth computes.
-/
import Derived.Test.YtoafjmfnnbpnoaaTR13
set_option linter.unusedVariables false
set_option linter.unusedSimpArgs false
namespace Go.Proofs.Ytoafjmfnnbpnoaa
open Go Go.RowKit

def maxL : List Nat → Nat
  | [] => 0
  | x :: l => max x (maxL l)
theorem maxL_le {l : List Nat} {x : Nat} (h : x ∈ l) : x ≤ maxL l := by
  induction l with
  | nil => cases h
  | cons y l ih =>
    unfold maxL
    rcases List.mem_cons.1 h with rfl | h
    · exact Nat.le_max_left ..
    · exact Nat.le_trans (ih h) (Nat.le_max_right ..)
theorem maxL_ub {l : List Nat} {m : Nat} (h : ∀ x ∈ l, x ≤ m) : maxL l ≤ m := by
  induction l with
  | nil => exact Nat.zero_le _
  | cons y l ih =>
    unfold maxL
    exact Nat.max_le.2 ⟨h y (by simp), ih fun x hx => h x (by simp [hx])⟩
def depthF (all : List PB) : Nat → Nat → Nat
  | 0, _ => 0
  | n + 1, i => match all[i]? with
    | some (.node _ ch) => maxL (ch.map (fun q => depthF all n q.2)) + 1
    | _ => 0
theorem depthF_node {all : List PB} {n i : Nat} {b : List Int} {ch : List (List Int × Nat)} (h : all[i]? = some (PB.node b ch)) : depthF all (n + 1) i = maxL (ch.map (fun q => depthF all n q.2)) + 1 := by
  rw [depthF, h]
theorem depthF_leaf {all : List PB} {n i s : Nat} (h : all[i]? = some (PB.leaf s)) : depthF all n i = 0 := by
  cases n with
  | zero => rfl
  | succ n => rw [depthF, h]
theorem depthF_le (all : List PB) : ∀ n i, depthF all n i ≤ n := by
  intro n
  induction n with
  | zero => intro i; exact Nat.le_refl _
  | succ n ih =>
    intro i
    unfold depthF
    split
    · refine Nat.succ_le_succ (maxL_ub fun x hx => ?_)
      obtain ⟨q, _, rfl⟩ := List.mem_map.1 hx
      exact ih _
    · exact Nat.zero_le _
def depthP (p : PT) : Nat := depthF p.all p.all.length 0
def DepthR (w : World) (r : Nat) (e : Ending) (w' : World) : Prop := e = .returned (.int .i64 r) ∧ Below w.heap.size w w'

theorem leaf_depth (w : World) (s : Int) : Calls Try.prog 243 #[.agg #[.int .i64 s]] w (DepthR w 0) := by
  go_enter Try.func243, Try.ntmps243
  go_wp2_with fail
  go_ret
  exact ⟨rfl, below_alloc ..⟩

theorem meth_node (a : Addr) (w : World) : Sem.run Try.prog (method 434 150 (.pointer (some a)) "tutor/tree.depth") w = .ok (244, .pointer (some a)) w := by kernel_rfl
theorem meth_leaf (s : Int) (w : World) : Sem.run Try.prog (method 434 140 (.agg #[.int .i64 s]) "tutor/tree.depth") w = .ok (243, .agg #[.int .i64 s]) w := by kernel_rfl
theorem call_node (v : Value) (w : World) : Sem.run Try.prog (callFunc 244 #[v]) w = .ok (.enter 244 #[v]) w := by kernel_rfl
theorem call_leaf (v : Value) (w : World) : Sem.run Try.prog (callFunc 243 #[v]) w = .ok (.enter 243 #[v]) w := by kernel_rfl

/-- What the loop over the children has found. -/
def MaxInv (all : List PB) (n : Nat) (ch : List (List Int × Nat)) (seen : Array Nat) (m : Nat) : Prop :=
  (∀ (i : Nat) (k : List Int) (c : Nat), seen.contains i = true → ch[i]? = some (k, c) → depthF all n c ≤ m) ∧ m ≤ maxL (ch.map (fun q => depthF all n q.2))

set_option maxRecDepth 20000 in
set_option maxHeartbeats 4000000 in
theorem node_depth (F : Nat → Prop) (T : Nat) (p : PT) (gall : List GB) (hsane : Sane p.all) : ∀ (n : Nat) (w : World) (i nb mb : Nat) (vby : Value) (b : List Int) (ch : List (List Int × Nat)), p.all.length - i ≤ n → n ≤ p.all.length → gall[i]? = some (.node nb mb vby b ch) → TreeAtG w F T p gall →
    Calls Try.prog 244 #[.pointer (some ⟨nb, 0, none⟩)] w (DepthR w (depthF p.all n i)) := by
  intro n
  induction n with
  | zero =>
    intro w i nb mb vby b ch h1 h2 hg ht
    obtain ⟨_, _, _, _, _, h⟩ := ht
    have := (List.getElem?_eq_some_iff.1 hg).1
    have h3 := h.pall
    have h4 := congrArg List.length h3
    rw [List.length_map] at h4
    omega
  | succ n ih =>
  intro w i nb mb vby b ch hn hn2 hg ht
  obtain ⟨vall, vacc, vplace, vword, vaccs, h⟩ := ht
  have HG := Lib.hid h
  have hp' := (List.getElem?_eq_some_iff.1 hg).1
  have hlen := h.lall
  have hgl : gall.length = p.all.length := by rw [← List.length_map (f := GB.pb), h.pall]
  have hpb : p.all[i]? = some (PB.node b ch) := by rw [← h.pall, List.getElem?_map, hg]; rfl
  have hmem := List.mem_of_getElem? hg
  obtain ⟨n1, n2, n3, n4, n5⟩ := h.nodes _ _ _ _ _ hmem
  have y1 := cell_of_block n1 1 rfl
  have Hn1 := Lib.hid n1
  have hra := (IterAt.start n2).1
  have Hit := Lib.hid (IterAt.start n2).2
  have hch : ∀ q ∈ ch, i < q.2 ∧ q.2 < p.all.length := hsane i b ch hpb
  have Hch := Lib.hid hch
  have Hih := Lib.hid ih
  obtain ⟨r, hr⟩ : ∃ r, maxL (ch.map (fun q => depthF p.all n q.2)) = r := ⟨_, rfl⟩
  have hrn : r ≤ n := by rw [← hr]; refine maxL_ub fun x hx => ?_; obtain ⟨q, _, rfl⟩ := List.mem_map.1 hx; exact depthF_le ..
  rw [depthF_node hpb, hr]
  have Hr := Lib.hid hr
  have Hgl := Lib.hid hgl
  have Hn := Lib.hid hn
  have Hn2 := Lib.hid hn2
  have hr63 : r < 9223372036854775807 := by omega
  clear h hg hpb hmem n1 n2 n3 n4 n5 hch ih hr hsane hgl hn hn2 hp'
  go_enter Try.func244, Try.ntmps244
  go_wp2_with fail
  go_loopw [3] (fun t wr => ∃ (seen : Array Nat) (m : Nat), t = .int .i64 m ∧ Hid (IterAt wr w.heap.size mb ch seen) ∧ Hid (Below w.heap.size w wr) ∧ Hid (MaxInv p.all n ch seen m)) (fun _ wr => leftN wr w.heap.size ch)
  case atStart => exact ⟨#[], 0, rfl, Hit, below_alloc .., fun i k c e => by simp at e, Nat.zero_le _⟩
  case round =>
    obtain ⟨seen, m, rfl, HI, HB, HS⟩ := hrel
    have hmr : m ≤ r := by have := HS.out.2; rw [Hr.out] at this; exact this
    rcases HI.out.next 0 with ⟨hall, hnx⟩ | ⟨j, k, c, wn, hq, hns, hnx, hI2, hB2, hlt, hen⟩
    · have e : m = r := by
        refine Nat.le_antisymm hmr ?_
        rw [← Hr.out]
        refine maxL_ub fun x hx => ?_
        obtain ⟨q, hq, rfl⟩ := List.mem_map.1 hx
        obtain ⟨i, hi⟩ := List.getElem?_of_mem hq
        exact HS.out.1 i q.1 q.2 (hall i (List.getElem?_eq_some_iff.1 hi).1) hi
      subst e
      clear hall
      go_wp2_with fail
      go_ret
      exact ⟨ret_int (by simp), HB.out⟩
    · have Hq := Lib.hid hq
      have Hlt := Lib.hid hlt
      have HI2 := Lib.hid hI2
      have HB2 := Lib.hid hB2
      have hcc := Hch.out _ (List.mem_of_getElem? hq)
      have Hcc := Lib.hid hcc
      have hbn := below_same HB.out HB2.out
      have Hbn := Lib.hid hbn
      have hG := HG.out.below hbn
      have c6 := hG.c6
      have hcg : c < gall.length := by rw [Hgl.out]; exact hcc.2
      obtain ⟨g, hg⟩ : ∃ g, gall[c]? = some g := ⟨_, List.getElem?_eq_getElem hcg⟩
      have hpb : p.all[c]? = some g.pb := by rw [← hG.pall, List.getElem?_map, hg]; rfl
      obtain ⟨Al, cl, el⟩ := own_slice hG.all
      rw [el] at c6
      have hall' := hG.all
      rw [el] at hall'
      obtain ⟨ga, e, hcell, _⟩ := own_cell hall' c (v := g.val) (by simp [hg])
      subst e
      have y2 := cell_of_block (blk_keep Hn1.out (fun hk => hbn.block _ hk)) 2 rfl
      have hc63 : c ≤ 9223372036854775807 := by omega
      have Hmu : Hid (m ≤ maxL (ch.map (fun q => depthF p.all n q.2)) ∧ depthF p.all n c ≤ maxL (ch.map (fun q => depthF p.all n q.2))) := ⟨HS.out.2, maxL_le (List.mem_map.2 ⟨(k, c), List.mem_of_getElem? hq, rfl⟩)⟩
      have Hnew : Hid (∀ m', m ≤ m' → depthF p.all n c ≤ m' → m' = m ∨ m' = depthF p.all n c → MaxInv p.all n ch (seen.push j) m') := by
        intro m' h1 h2 h3
        refine ⟨fun i' k' c' hc hq' => ?_, ?_⟩
        · rw [contains_push] at hc
          cases hh : seen.contains i' with
          | true => exact Nat.le_trans (HS.out.1 i' k' c' hh hq') h1
          | false =>
            rw [hh, Bool.false_or, beq_iff_eq] at hc
            subst hc
            rw [Hq.out] at hq'
            injection hq' with hq'
            injection hq' with _ e2
            rw [← e2]; exact h2
        · rcases h3 with rfl | rfl
          · exact Hmu.out.1
          · exact Hmu.out.2
      cases g with
      | leaf s =>
        have hd : depthF p.all n c = 0 := depthF_leaf hpb
        simp only [GB.val] at hcell
        have hm1 := meth_leaf s
        have hm2 := call_leaf (.agg #[.int .i64 s])
        clear hq hns hlt hI2 hB2 hcc hbn hG hg hpb el hall'
        go_wp2_with fail
        refine (leaf_depth wn s).mono ?_
        rintro e w2 ⟨rfl, hb2⟩
        have Hd := Lib.hid hd
        have HI3 := Lib.hid (HI2.out.keep hb2)
        have HB3 := Lib.hid (below_then Hbn.out hb2)
        clear hb2 hd hm1 hm2
        go_wp2_with fail
        refine ⟨⟨seen.push j, m, rfl, HI3.out, HB3.out, Hnew.out m (Nat.le_refl _) (by rw [Hd.out]; exact Nat.zero_le _) (.inl rfl)⟩, ?_⟩
        rw [HI3.out.leftN, ← HI2.out.leftN]; exact Hlt.out
      | node nb' mb' vby' b' ch' =>
        simp only [GB.val] at hcell
        have Hg := Lib.hid hg
        have hm1 := meth_node ⟨nb', 0, none⟩
        have hm2 := call_node (.pointer (some ⟨nb', 0, none⟩))
        clear hq hns hlt hI2 hB2 hcc hbn hG hg hpb el hall'
        go_wp2_with fail
        refine (Hih.out wn c nb' mb' vby' b' ch' (by have h1 := Hcc.out; have h2 := Hn.out; have h3 : i < c := h1.1; have h4 : c < p.all.length := h1.2; omega) (by have := Hn2.out; omega) Hg.out ⟨_, _, _, _, _, HG.out.below Hbn.out⟩).mono ?_
        rintro e w2 ⟨rfl, hb2⟩
        obtain ⟨dd, hdd⟩ : ∃ dd, depthF p.all n c = dd := ⟨_, rfl⟩
        rw [hdd]
        have Hd := Lib.hid hdd
        have HI3 := Lib.hid (HI2.out.keep hb2)
        have HB3 := Lib.hid (below_then Hbn.out hb2)
        clear hb2 hdd hm1 hm2
        go_wp2_with fail
        have hmx : (if m < dd then (dd : Int) else (m : Int)) = ((max m dd : Nat) : Int) := by
          rw [Nat.max_def]; split <;> split <;> omega
        refine ⟨⟨seen.push j, max m dd, congrArg _ hmx, HI3.out, HB3.out, Hnew.out _ (Nat.le_max_left ..) (by rw [Hd.out]; exact Nat.le_max_right ..) (by rw [Hd.out, Nat.max_def]; split <;> simp)⟩, ?_⟩
        rw [HI3.out.leftN, ← HI2.out.leftN]; exact Hlt.out

set_option maxRecDepth 20000 in
set_option maxHeartbeats 4000000 in
theorem tree_Depth (w : World) (F : Nat → Prop) (T : Nat) (p : PT) (ht : TreeAt w F T p) (hsane : Sane p.all) (hne : p.all ≠ []) :
    Calls Try.prog 39 #[.pointer (some ⟨T, 0, none⟩)] w (DepthR w (depthP p)) := by
  obtain ⟨gall, hg'⟩ := ht.ghost
  have HG := Lib.hid hg'
  obtain ⟨vall, vacc, vplace, vword, vaccs, h⟩ := hg'
  have hlen := h.lall
  have c6 := h.c6
  have hpos : 0 < p.all.length := by
    cases e : p.all with
    | nil => exact absurd e hne
    | cons x l => simp
  have hgl : gall.length = p.all.length := by rw [← List.length_map (f := GB.pb), h.pall]
  have hcg : 0 < gall.length := by omega
  obtain ⟨g, hg⟩ : ∃ g, gall[0]? = some g := ⟨_, List.getElem?_eq_getElem hcg⟩
  have hpb : p.all[0]? = some g.pb := by rw [← h.pall, List.getElem?_map, hg]; rfl
  obtain ⟨Al, cl, el⟩ := own_slice h.all
  rw [el] at c6
  have hall' := h.all
  rw [el] at hall'
  obtain ⟨ga, e, hcell, _⟩ := own_cell hall' 0 (v := g.val) (by simp [hg])
  subst e
  obtain ⟨r, hr⟩ : ∃ r, depthP p = r := ⟨_, rfl⟩
  rw [hr]
  have Hr := Lib.hid hr
  have Hsane := Lib.hid hsane
  cases g with
  | leaf s =>
    have hd : r = 0 := by rw [← hr]; exact depthF_leaf hpb
    subst hd
    simp only [GB.val] at hcell
    have hm1 := meth_leaf s
    have hm2 := call_leaf (.agg #[.int .i64 s])
    clear h hg hpb el hall' hr hsane hne hgl
    go_enter Try.func39, Try.ntmps39
    go_wp2_with fail
    refine (leaf_depth w s).mono ?_
    rintro e w2 ⟨rfl, hb2⟩
    go_wp2_with fail
    go_ret
    exact ⟨rfl, hb2⟩
  | node nb mb vby b ch =>
    simp only [GB.val] at hcell
    have hm1 := meth_node ⟨nb, 0, none⟩
    have hm2 := call_node (.pointer (some ⟨nb, 0, none⟩))
    have HGi := Lib.hid hg
    clear h hg hpb el hall' hr hsane hne hgl
    go_enter Try.func39, Try.ntmps39
    go_wp2_with fail
    refine (node_depth F T p gall Hsane.out p.all.length w 0 nb mb vby b ch (Nat.sub_le _ _) (Nat.le_refl _) HGi.out HG.out).mono ?_
    rintro e w2 ⟨he, hb2⟩
    rw [show depthF p.all p.all.length 0 = r from Hr.out] at he
    subst he
    go_wp2_with fail
    go_ret
    exact ⟨rfl, hb2⟩
end Go.Proofs.Ytoafjmfnnbpnoaa
