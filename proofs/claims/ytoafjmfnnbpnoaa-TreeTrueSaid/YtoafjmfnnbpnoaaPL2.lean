/-
  The plain law of a tree that is told what one machine says: a word brought in, a state split, where two states part. Plain theorems.
-/
import Derived.Test.YtoafjmfnnbpnoaaPL1
set_option linter.unusedVariables false
set_option linter.unusedSimpArgs false
namespace Go.Proofs.Ytoafjmfnnbpnoaa
open Go Go.RowKit

theorem hereP_node {p : PT} {b : List Int} {ch : List (List Int × Nat)} (hb : p.busy = true) (h : p.all[p.pos]? = some (PB.node b ch)) : hereP p = some (b, ch) := by
  unfold hereP; rw [if_pos hb, h]
theorem hereP_leaf {p : PT} {s : Nat} (h : p.all[p.pos]? = some (PB.leaf s)) : hereP p = none := by
  unfold hereP; split
  · rw [h]
  · rfl
theorem askP_node {p : PT} {b : List Int} {ch : List (List Int × Nat)} (hb : p.busy = true) (h : p.all[p.pos]? = some (PB.node b ch)) : askP p = (p.word ++ b, true) := by
  unfold askP; rw [hereP_node hb h]
theorem askP_leaf {p : PT} {s : Nat} (h : p.all[p.pos]? = some (PB.leaf s)) : askP p = ([], false) := by
  unfold askP; rw [hereP_leaf h]
theorem leafP_leaf {p : PT} {s : Nat} (hb : p.busy = true) (h : p.all[p.pos]? = some (PB.leaf s)) : leafP p = ((s : Int), true) := by
  unfold leafP; rw [if_pos hb, h]

theorem TInv.tellPre {m : Mach} (g : Good m) {c : Nat} {p : PT} (h : TInv m c p) (hc : c ≤ 900) (hu : p.word.length ≤ 12) (hp : p.pos < p.all.length) : TellPre p where
  pos := hp
  word := by omega
  by_ := fun b ch e => by
    unfold hereP at e
    split at e
    · cases hg : p.all[p.pos]? with
      | none => rw [hg] at e; cases e
      | some q =>
        rw [hg] at e
        cases q with
        | leaf s => cases e
        | node b' ch' =>
          cases e
          obtain ⟨x1, x2, x3, x4⟩ := h.nodes _ _ _ hg
          exact ⟨by omega, fun hk => x3 (by rw [← h.kind]; exact hk), x4⟩
    · cases e
  acc := by have := h.acl; omega
  place := by have := h.acl; have := h.plen; omega
  all := by have := h.al; omega
  o := by rw [h.o]; exact g.o3
  kind := by rw [h.kind]; exact g.kind

def Same3 (p p' : PT) : Prop := p'.all = p.all ∧ p'.access = p.access ∧ p'.place = p.place
/-- How a word's way through the tree ends. -/
structure BrEnd (m : Mach) (c : Nat) (p : PT) (u : List Int) (d : Nat) (p' : PT) (s j n' : Nat) : Prop where
  inv : TInv m (c + 1) p'
  leaf : p'.all[j]? = some (PB.leaf s)
  way : ∃ n1, Rch p'.all (go2F m u) 0 j n1
  deep : n' ≤ d
  what : Same3 p p' ∨ (p'.access = p.access ++ [u] ∧ s = p.access.length ∧ ∃ x n2 b ch, Rch p.all (go2F m u) 0 x n2 ∧ p.all[x]? = some (PB.node b ch) ∧ stepA p.all (go2F m u) x = none)

theorem broughtF_leaf {m : Mach} {k : Nat} {p : PT} {n : Int} {s : Nat} (hb : p.busy = true) (h : p.all[p.pos]? = some (PB.leaf s)) : broughtF m (k + 1) p n = (p, (s : Int), n, true) := by
  rw [broughtF, askP_leaf h, if_pos rfl, leafP_leaf hb h]
theorem okBr_leaf {m : Mach} {k : Nat} {p : PT} {s : Nat} (h : p.all[p.pos]? = some (PB.leaf s)) (hp : TellPre p) : OkBr m (k + 1) p := by
  refine ⟨hp, fun e => ?_⟩
  rw [askP_leaf h] at e; cases e

theorem br_run {m : Mach} (g : Good m) {c : Nat} (hc : c ≤ 800) (u : List Int) (hu : OkW m.k u) (hul : u.length ≤ 12) : ∀ (k : Nat) (p : PT) (n : Int) (n0 : Nat), TInv m c p → p.busy = true → p.word = u → p.pos < p.all.length →
    Rch p.all (go2F m u) 0 p.pos n0 → p.all.length - p.pos < k →
    OkBr m k p ∧ ∃ (p' : PT) (s j n' : Nat), broughtF m k p n = (p', (s : Int), n + (n' : Nat), true) ∧ BrEnd m c p u (depthF p.all (p.all.length - p.pos) p.pos) p' s j n' ∧ p'.kind = p.kind := by
  intro k
  induction k with
  | zero => intro p n n0 _ _ _ _ _ h; omega
  | succ k ih =>
    intro p n n0 h hb hw hp hr hk
    have hpre := h.tellPre g (by omega) (by rw [hw]; exact hul) hp
    obtain ⟨gg, hg⟩ : ∃ gg, p.all[p.pos]? = some gg := ⟨_, List.getElem?_eq_getElem hp⟩
    cases gg with
    | leaf s =>
      refine ⟨okBr_leaf hg hpre, p, s, p.pos, 0, ?_, ⟨h.mono (by omega), hg, ⟨n0, hr⟩, Nat.zero_le _, .inl ⟨rfl, rfl, rfl⟩⟩, rfl⟩
      rw [broughtF_leaf hb hg]; simp
    | node b ch =>
      obtain ⟨x1, x2, x3, x4⟩ := h.nodes _ _ _ hg
      have hask := askP_node hb hg
      have hok : OkW m.k (u ++ b) := hu.append x1
      have hrun : runF m (askP p).1 = (goOut m 0 (u ++ b), 0) := by rw [hask, hw]; exact runF_good g hok (by simp; omega)
      have hsaid : saidF p.kind p.o (p.word ++ b).length (goOut m 0 (u ++ b)) = true := by
        rw [h.kind, h.o, hw]
        exact saidF_of g.kind g.o2 (goOut_ok g ⟨by omega, by have := g.n1; omega⟩ hok) (goOut_length m 0 _)
      have hans : ansP p b (goOut m 0 (u ++ b)) = go2F m u b := by
        unfold ansP; rw [h.kind]; exact tail_go2 g
      have hdep : ∃ d, p.all.length - p.pos = d + 1 := ⟨p.all.length - p.pos - 1, by omega⟩
      cases hl : lookA ch (go2F m u b) with
      | some c1 =>
        have htell : tellP p (goOut m 0 (u ++ b)) = ({ p with pos := c1 }, 0) := by
          unfold tellP; rw [hereP_node hb hg]
          simp only
          rw [if_neg (by rw [hsaid]; simp), hans, hl]
        have hst : stepA p.all (go2F m u) p.pos = some c1 := by rw [stepA_node hg]; exact hl
        obtain ⟨_, y2, y3, y4⟩ := depth_step h.sane hst
        have h' : TInv m c { p with pos := c1 } := { h with }
        obtain ⟨hO, p', s, j, n', hB, hE, hK⟩ := ih { p with pos := c1 } (n + 1) (n0 + 1) h' hb hw y2 (hr.snoc hst) (by show p.all.length - c1 < k; omega)
        refine ⟨⟨hpre, fun _ _ => by rw [hrun, htell]; exact hO⟩, p', s, j, n' + 1, ?_, ⟨hE.inv, hE.leaf, hE.way, Nat.le_trans (Nat.succ_le_succ hE.deep) y4, hE.what⟩, hK⟩
        rw [broughtF, if_neg (by rw [hask]; simp), hrun, htell, if_pos rfl, hB]
        simp only [Prod.mk.injEq, true_and, and_true]
        push_cast; omega
      | none =>
        have hne : ¬ p.access.length = 1024 := by have := h.acl; omega
        have htell : tellP p (goOut m 0 (u ++ b)) = (addP p b ch (go2F m u b), 0) := by
          unfold tellP; rw [hereP_node hb hg]
          simp only
          rw [if_neg (by rw [hsaid]; simp), hans, hl]
          simp only [if_neg hne]
        obtain ⟨k', rfl⟩ : ∃ k', k = k' + 1 := ⟨k - 1, by omega⟩
        have hadd := TInv.add g h (b := b) (ch := ch) hg (n := n0) (by rw [hw]; exact hu) (by rw [hw]; exact hul) (by rw [hw]; exact hr) (by rw [hw]; exact hl)
        rw [hw] at hadd
        have hall := addP_all (p := p) (b := b) (ch := ch) (a := go2F m u b) hp
        have hpos : (addP p b ch (go2F m u b)).pos = p.all.length := rfl
        have hlf : (addP p b ch (go2F m u b)).all[(addP p b ch (go2F m u b)).pos]? = some (PB.leaf p.access.length) := by
          rw [hpos, hall, setGet hg, if_neg (by omega), if_neg (by omega), Nat.sub_self]; rfl
        have hbusy : (addP p b ch (go2F m u b)).busy = true := hb
        have hpre2 := hadd.1.tellPre g (by omega) (by show p.word.length ≤ 12; rw [hw]; exact hul) (by rw [hpos, hall]; simp)
        refine ⟨⟨hpre, fun _ _ => by rw [hrun, htell]; exact okBr_leaf hlf hpre2⟩, _, p.access.length, p.all.length, 1, ?_, ⟨hadd.1, hlf, ⟨_, hadd.2⟩, ?_, .inr ⟨?_, rfl, p.pos, n0, b, ch, hr, hg, ?_⟩⟩, rfl⟩
        · rw [broughtF, if_neg (by rw [hask]; simp), hrun, htell, if_pos rfl, broughtF_leaf hbusy hlf]
          simp
        · obtain ⟨d, hd⟩ := hdep
          rw [hd, depthF_node hg]; omega
        · show p.access ++ [p.word] = _; rw [hw]
        · rw [stepA_node hg]; exact hl

/-- A word brought into a tree that is told what a machine says. -/
theorem brought_law {m : Mach} (g : Good m) {c : Nat} (hc : c ≤ 800) {p : PT} (h : TInv m c p) {u : List Int} (hu : OkW m.k u) (hul : u.length ≤ 12) :
    ((siftP p u).2 = 0 → OkBr m 2000 (siftP p u).1) ∧ ∃ (p' : PT) (s j n' : Nat), broughtP m p u = (p', ((s : Nat) : Int), ((n' : Nat) : Int), true) ∧ BrEnd m c p u (depthP p) p' s j n' := by
  have hs : siftP p u = ({ p with busy := true, word := u, pos := 0 }, 0) := by
    unfold siftP
    rw [if_neg]
    rw [h.k, (checkF_ok u m.k).2 ⟨⟨g.k1, g.k2⟩, by omega, hu⟩]; simp
  have h0 : 0 < p.all.length := List.length_pos_iff.2 h.ne
  obtain ⟨hO, p', s, j, n', hB, hE, _⟩ := br_run g hc u hu hul 2000 { p with busy := true, word := u, pos := 0 } 0 0 (h.sift true u 0) rfl rfl h0 (.refl 0) (by show p.all.length - 0 < 2000; have := h.al; omega)
  refine ⟨fun _ => by rw [hs]; exact hO, p', s, j, n', ?_, ⟨hE.inv, hE.leaf, hE.way, ?_, hE.what⟩⟩
  · unfold broughtP; rw [hs, if_pos rfl, hB]; simp
  · have := hE.deep; rw [Nat.sub_zero] at this; exact this

/-- A word that is known to come to a leaf. -/
theorem BrEnd.known {m : Mach} {c d : Nat} {p p' : PT} {u : List Int} {s j n' : Nat} (h : BrEnd m c p u d p' s j n') {i n t : Nat} (hr : Rch p.all (go2F m u) 0 i n) (hl : p.all[i]? = some (PB.leaf t)) : Same3 p p' ∧ s = t ∧ j = i := by
  rcases h.what with hs | ⟨_, _, x, n2, b, ch, h1, h2, h3⟩
  · refine ⟨hs, ?_⟩
    obtain ⟨n1, hw⟩ := h.way
    have hlf := h.leaf
    rw [hs.1] at hw hlf
    obtain ⟨rfl, _⟩ := hw.det hr (stepA_leaf hlf) (stepA_leaf hl)
    rw [hl] at hlf; cases hlf
    exact ⟨rfl, rfl⟩
  · obtain ⟨rfl, _⟩ := hr.det h1 (stepA_leaf hl) h3
    rw [hl] at h2; cases h2
theorem BrEnd.acc {m : Mach} {c d : Nat} {p p' : PT} {s j n' t : Nat} (hi : TInv m c p) (ht : t < p.access.length) (h : BrEnd m c p (gL p.access t) d p' s j n') : Same3 p p' ∧ s = t := by
  obtain ⟨i, n, _, h2, h3⟩ := hi.acc t ht
  obtain ⟨a, b, _⟩ := h.known h3 h2
  exact ⟨a, b⟩

/-! ### A state split -/
theorem TInv.split {m : Mach} (g : Good m) {c : Nat} {p : PT} (h : TInv m c p) {s j n : Nat} {d wd : List Int} (hj : p.all[j]? = some (PB.leaf s)) (hd : OkW m.k d) (hdl : d.length ≤ 12) (hdk : m.kind = 2 → d ≠ []) (hw : OkW m.k wd) (hwl : wd.length ≤ 12)
    (hr : Rch p.all (go2F m wd) 0 j n) (hne : go2F m (gL p.access s) d ≠ go2F m wd d) :
    TInv m (c + 2) (splitNew p s j d wd (go2F m (gL p.access s) d) (go2F m wd d)) := by
  obtain ⟨hs1, hs2⟩ := h.leaf j s hj
  have hjl := (List.getElem?_eq_some_iff.1 hj).1
  obtain ⟨wa, hwa⟩ : ∃ wa, go2F m (gL p.access s) d = wa := ⟨_, rfl⟩
  obtain ⟨no, hno⟩ : ∃ no, go2F m wd d = no := ⟨_, rfl⟩
  rw [hwa, hno] at hne ⊢
  have okwa : OkB wa := by rw [← hwa]; exact go2F_okB g (h.words _ (by rw [gL_get _ _ hs1]; exact List.getElem_mem hs1)).1 hd
  have okno : OkB no := by rw [← hno]; exact go2F_okB g hw hd
  obtain ⟨q', hq'⟩ : ∃ q', splitNew p s j d wd wa no = q' := ⟨_, rfl⟩
  have hall : q'.all = p.all.set j (PB.node d [(wa, p.all.length), (no, p.all.length + 1)]) ++ [PB.leaf s, PB.leaf p.access.length] := by rw [← hq']; simp [splitNew]
  have hget : ∀ i, q'.all[i]? = if i = j then some (PB.node d [(wa, p.all.length), (no, p.all.length + 1)]) else if i < p.all.length then p.all[i]? else [PB.leaf s, PB.leaf p.access.length][i - p.all.length]? := by
    intro i; rw [hall]; exact setGet hj _ i
  have hlen : q'.all.length = p.all.length + 2 := by rw [hall]; simp
  have hacc : q'.access = p.access ++ [wd] := by rw [← hq']; rfl
  have hpl : q'.place = p.place.set s p.all.length ++ [p.all.length + 1] := by rw [← hq']; rfl
  have hL : q'.all[p.all.length]? = some (PB.leaf s) := by rw [hget, if_neg (by omega), if_neg (by omega), Nat.sub_self]; rfl
  have hL1 : q'.all[p.all.length + 1]? = some (PB.leaf p.access.length) := by
    rw [hget, if_neg (by omega), if_neg (by omega), show p.all.length + 1 - p.all.length = 1 by omega]; rfl
  have hJ : q'.all[j]? = some (PB.node d [(wa, p.all.length), (no, p.all.length + 1)]) := by rw [hget, if_pos rfl]
  have hstep : ∀ f x y, stepA p.all f x = some y → stepA q'.all f x = some y := by
    intro f x y hs
    obtain ⟨b1, ch1, h1, h2⟩ := stepA_some hs
    have hx := (List.getElem?_eq_some_iff.1 h1).1
    have e : x ≠ j := by rintro rfl; rw [hj] at h1; cases h1
    rw [stepA_node (b := b1) (ch := ch1) (by rw [hget, if_neg e, if_pos hx]; exact h1)]
    exact h2
  have hnode : ∀ i b1 ch1, q'.all[i]? = some (PB.node b1 ch1) → (i = j ∧ b1 = d ∧ ch1 = [(wa, p.all.length), (no, p.all.length + 1)]) ∨ (i ≠ j ∧ p.all[i]? = some (PB.node b1 ch1)) := by
    intro i b1 ch1 h1
    rw [hget] at h1
    by_cases e : i = j
    · rw [if_pos e] at h1; cases h1; exact .inl ⟨e, rfl, rfl⟩
    · rw [if_neg e] at h1
      by_cases e2 : i < p.all.length
      · rw [if_pos e2] at h1; exact .inr ⟨e, h1⟩
      · rw [if_neg e2] at h1
        rcases hd : i - p.all.length with _ | _ | d
        · rw [hd] at h1; simp at h1
        · rw [hd] at h1; simp at h1
        · rw [hd] at h1; simp at h1
  have hleaf : ∀ i t, q'.all[i]? = some (PB.leaf t) → (i ≠ j ∧ i < p.all.length ∧ p.all[i]? = some (PB.leaf t)) ∨ (i = p.all.length ∧ t = s) ∨ (i = p.all.length + 1 ∧ t = p.access.length) := by
    intro i t h1
    rw [hget] at h1
    by_cases e : i = j
    · rw [if_pos e] at h1; cases h1
    · rw [if_neg e] at h1
      by_cases e2 : i < p.all.length
      · rw [if_pos e2] at h1; exact .inl ⟨e, e2, h1⟩
      · rw [if_neg e2] at h1
        rcases hd : i - p.all.length with _ | _ | d
        · rw [hd] at h1; simp at h1; exact .inr (.inl ⟨by omega, h1.symm⟩)
        · rw [hd] at h1; simp at h1; exact .inr (.inr ⟨by omega, h1.symm⟩)
        · rw [hd] at h1; simp at h1
  rw [hq']
  refine ⟨by rw [← hq']; exact h.kind, by rw [← hq']; exact h.k, by rw [← hq']; exact h.o, ?_, ?_, ?_, ?_, ?_, ?_, ?_, ?_, ?_, ?_, ?_⟩
  · intro i b1 ch1 h1 q hq
    rw [hlen]
    rcases hnode i b1 ch1 h1 with ⟨rfl, rfl, rfl⟩ | ⟨_, h2⟩
    · simp only [List.mem_cons, List.not_mem_nil, or_false] at hq
      rcases hq with rfl | rfl <;> (simp only; omega)
    · have := h.sane _ _ _ h2 q hq; omega
  · intro e; rw [e] at hlen; simp at hlen
  · intro i b1 ch1 h1
    rcases hnode i b1 ch1 h1 with ⟨rfl, rfl, rfl⟩ | ⟨_, h2⟩
    · refine ⟨hd, hdl, hdk, fun q hq => ?_⟩
      simp only [List.mem_cons, List.not_mem_nil, or_false] at hq
      rcases hq with rfl | rfl
      · exact okwa
      · exact okno
    · exact h.nodes _ _ _ h2
  · intro i b1 ch1 i' b2 ch2 h1 h2 q hq q2 hq2 e
    have key : ∀ i b ch, q'.all[i]? = some (PB.node b ch) → ∀ q ∈ ch, (i = j ∧ p.all.length ≤ q.2) ∨ (p.all[i]? = some (PB.node b ch) ∧ q.2 < p.all.length) := by
      intro i b ch h1 q hq
      rcases hnode i b ch h1 with ⟨rfl, rfl, rfl⟩ | ⟨_, h2⟩
      · simp only [List.mem_cons, List.not_mem_nil, or_false] at hq
        refine .inl ⟨rfl, ?_⟩
        rcases hq with rfl | rfl <;> (simp only; omega)
      · exact .inr ⟨h2, (h.sane _ _ _ h2 q hq).2⟩
    rcases key i b1 ch1 h1 q hq with ⟨e1, e2⟩ | ⟨n1, l1⟩ <;> rcases key i' b2 ch2 h2 q2 hq2 with ⟨e3, e4⟩ | ⟨n2, l2⟩
    · rw [e1, e3]
    · omega
    · omega
    · exact h.par _ _ _ _ _ _ n1 n2 q hq q2 hq2 e
  · rw [hacc, hpl]; simp [h.plen]
  · intro i t h1
    rw [hacc, hpl]
    rcases hleaf i t h1 with ⟨e1, e2, e3⟩ | ⟨rfl, rfl⟩ | ⟨rfl, rfl⟩
    · obtain ⟨l1, l2⟩ := h.leaf i t e3
      refine ⟨by simp; omega, ?_⟩
      have hts : t ≠ s := by rintro rfl; rw [hs2] at l2; exact e1 (Option.some.inj l2).symm
      rw [List.getElem?_append_left (by simp; rw [h.plen]; exact l1), List.getElem?_set_ne (Ne.symm hts)]
      exact l2
    · refine ⟨by simp; omega, ?_⟩
      rw [List.getElem?_append_left (by simp; rw [h.plen]; exact hs1), List.getElem?_set_self (by rw [h.plen]; exact hs1)]
    · refine ⟨by simp, ?_⟩
      rw [List.getElem?_append_right (by simp; rw [h.plen]; exact Nat.le_refl _)]
      simp [h.plen]
  · intro t ht
    rw [hacc] at ht
    simp at ht
    by_cases e : t < p.access.length
    · have hgL : gL q'.access t = gL p.access t := by rw [hacc]; simp [gL, List.getD_eq_getElem?_getD, List.getElem?_append_left e]
      rw [hgL]
      by_cases hts : t = s
      · subst hts
        obtain ⟨i, n1, a1, a2, a3⟩ := h.acc t hs1
        rw [hs2] at a1
        cases a1
        refine ⟨p.all.length, n1 + 1, ?_, hL, ?_⟩
        · rw [hpl, List.getElem?_append_left (by simp; rw [h.plen]; exact hs1), List.getElem?_set_self (by rw [h.plen]; exact hs1)]
        · refine (a3.mono (hstep _)).snoc ?_
          rw [stepA_node hJ, hwa]; simp [lookA]
      · obtain ⟨i, n1, a1, a2, a3⟩ := h.acc t e
        refine ⟨i, n1, ?_, ?_, a3.mono (hstep _)⟩
        · rw [hpl, List.getElem?_append_left (by simp; rw [h.plen]; exact e), List.getElem?_set_ne (Ne.symm hts)]; exact a1
        · have hi := (List.getElem?_eq_some_iff.1 a2).1
          rw [hget, if_neg, if_pos hi]; · exact a2
          rintro rfl; rw [hj] at a2; cases a2; exact hts rfl
    · obtain rfl : t = p.access.length := by omega
      have hgL : gL q'.access p.access.length = wd := by rw [hacc]; simp [gL, List.getD_eq_getElem?_getD]
      refine ⟨p.all.length + 1, n + 1, ?_, hL1, ?_⟩
      · rw [hpl, List.getElem?_append_right (by simp; rw [h.plen]; exact Nat.le_refl _)]; simp [h.plen]
      · rw [hgL]
        refine (hr.mono (hstep _)).snoc ?_
        rw [stepA_node hJ, hno]
        simp [lookA, hne]
  · intro u hu'
    rw [hacc] at hu'
    rcases List.mem_append.1 hu' with hu' | hu'
    · exact h.words u hu'
    · simp only [List.mem_singleton] at hu'; subst hu'; exact ⟨hw, hwl⟩
  · rw [hacc]; simp
  · rw [hacc]; simp; have := h.acl; omega
  · rw [hlen]; have := h.al; omega

theorem TInv.splitPre {m : Mach} (g : Good m) {c : Nat} {p : PT} (h : TInv m c p) (hc : c ≤ 800) {s j n : Nat} {d wd : List Int} (hj : p.all[j]? = some (PB.leaf s)) (hd : OkW m.k d) (hdl : d.length ≤ 12) (hdk : m.kind = 2 → d ≠ []) (hw : OkW m.k wd) (hwl : wd.length ≤ 12)
    (hr : Rch p.all (go2F m wd) 0 j n) (hne : go2F m (gL p.access s) d ≠ go2F m wd d) :
    SplitPre p s j s d wd (go2F m (gL p.access s) d) (go2F m wd d) where
  sl := (h.leaf j s hj).1
  pl := h.plen
  pj := (h.leaf j s hj).2
  lf := hj
  cd := by rw [h.k]; exact (checkF_ok d m.k).2 ⟨⟨g.k1, g.k2⟩, by omega, hd⟩
  cw := by rw [h.k]; exact (checkF_ok wd m.k).2 ⟨⟨g.k1, g.k2⟩, by omega, hw⟩
  dk := fun e hk => hdk (by rw [← h.kind]; exact hk) e
  sw := by
    have hs1 := (h.leaf j s hj).1
    rw [h.kind, h.o]; exact saidF_go2 g (h.words _ (by rw [gL_get _ _ hs1]; exact List.getElem_mem hs1)).1 hd
  sn := by rw [h.kind, h.o]; exact saidF_go2 g hw hd
  ne := hne
  nw := fun hm => by
    obtain ⟨t, ht, e⟩ := List.mem_iff_getElem.1 hm
    obtain ⟨i, n1, a1, a2, a3⟩ := h.acc t ht
    rw [gL_get _ _ ht, e] at a3
    obtain ⟨rfl, _⟩ := hr.det a3 (stepA_leaf hj) (stepA_leaf a2)
    rw [hj] at a2; cases a2
    exact hne (by rw [gL_get _ _ ht, e])
  most := by have := h.acl; omega
  all := by have := h.al; omega
  o := by rw [h.o]; exact g.o3
  dl := by omega
  wl := by omega
end Go.Proofs.Ytoafjmfnnbpnoaa
