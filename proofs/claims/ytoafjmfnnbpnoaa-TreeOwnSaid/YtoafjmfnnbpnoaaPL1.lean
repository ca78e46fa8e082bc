/-
  The plain law of a tree that is told what one machine says: where words come to, what a word brought in turns. Plain theorems.
-/
import Derived.Test.YtoafjmfnnbpnoaaTR18
set_option linter.unusedVariables false
set_option linter.unusedSimpArgs false
namespace Go.Proofs.Ytoafjmfnnbpnoaa
open Go Go.RowKit

/-- A step at a node, by what is said. -/
def stepA (all : List PB) (f : List Int → List Int) (i : Nat) : Option Nat := match all[i]? with
  | some (.node b ch) => lookA ch (f b)
  | _ => none
theorem stepA_node {all : List PB} {f : List Int → List Int} {i : Nat} {b : List Int} {ch : List (List Int × Nat)} (h : all[i]? = some (PB.node b ch)) : stepA all f i = lookA ch (f b) := by
  unfold stepA; rw [h]
theorem stepA_leaf {all : List PB} {f : List Int → List Int} {i s : Nat} (h : all[i]? = some (PB.leaf s)) : stepA all f i = none := by
  unfold stepA; rw [h]
theorem stepA_some {all : List PB} {f : List Int → List Int} {i j : Nat} (h : stepA all f i = some j) : ∃ b ch, all[i]? = some (PB.node b ch) ∧ lookA ch (f b) = some j := by
  unfold stepA at h
  split at h
  · exact ⟨_, _, by assumption, h⟩
  · cases h
theorem lookA_mem {ch : List (List Int × Nat)} {a : List Int} {c : Nat} (h : lookA ch a = some c) : ∃ q ∈ ch, q.1 = a ∧ q.2 = c := by
  unfold lookA at h
  rw [Option.map_eq_some_iff] at h
  obtain ⟨q, hq, rfl⟩ := h
  have h1 := List.find?_some hq
  exact ⟨q, List.mem_of_find?_eq_some hq, by simpa using h1, rfl⟩
theorem lookA_append {ch : List (List Int × Nat)} {a : List Int} {c : Nat} (h : lookA ch a = some c) (r : List (List Int × Nat)) : lookA (ch ++ r) a = some c := by
  unfold lookA at *
  rw [Option.map_eq_some_iff] at h
  obtain ⟨q, hq, rfl⟩ := h
  rw [List.find?_append, hq]; rfl
theorem lookA_new {ch : List (List Int × Nat)} {a : List Int} (h : lookA ch a = none) (c : Nat) : lookA (ch ++ [(a, c)]) a = some c := by
  unfold lookA at *
  rw [Option.map_eq_none_iff] at h
  rw [List.find?_append, h]; simp

/-- n steps from a place to another. -/
inductive Rch (all : List PB) (f : List Int → List Int) : Nat → Nat → Nat → Prop
  | refl (i : Nat) : Rch all f i i 0
  | cons {i j k n : Nat} : stepA all f i = some j → Rch all f j k n → Rch all f i k (n + 1)
theorem Rch.snoc {all : List PB} {f : List Int → List Int} {i j k n : Nat} (h : Rch all f i j n) (hs : stepA all f j = some k) : Rch all f i k (n + 1) := by
  induction h with
  | refl i => exact .cons hs (.refl _)
  | cons h1 _ ih => exact .cons h1 (ih hs)
theorem Rch.trans {all : List PB} {f : List Int → List Int} {i j k n m : Nat} (h : Rch all f i j n) (h2 : Rch all f j k m) : Rch all f i k (n + m) := by
  induction h with
  | refl i => simpa using h2
  | cons h1 _ ih => rw [Nat.add_right_comm]; exact .cons h1 (ih h2)
theorem Rch.mono {all all' : List PB} {f : List Int → List Int} {i j n : Nat} (h : Rch all f i j n) (hs : ∀ x y, stepA all f x = some y → stepA all' f x = some y) : Rch all' f i j n := by
  induction h with
  | refl i => exact .refl _
  | cons h1 _ ih => exact .cons (hs _ _ h1) ih
theorem Rch.last {all : List PB} {f : List Int → List Int} {i j n : Nat} (h : Rch all f i j n) : (i = j ∧ n = 0) ∨ ∃ x m, Rch all f i x m ∧ stepA all f x = some j ∧ n = m + 1 := by
  induction h with
  | refl i => exact .inl ⟨rfl, rfl⟩
  | @cons i j k n h1 h2 ih =>
    rcases ih with ⟨rfl, rfl⟩ | ⟨x, m, h3, h4, rfl⟩
    · exact .inr ⟨i, 0, .refl _, h1, rfl⟩
    · exact .inr ⟨x, m + 1, .cons h1 h3, h4, rfl⟩
/-- Who can go no step further has come to the same place. -/
theorem Rch.det {all : List PB} {f : List Int → List Int} {i j n : Nat} (h : Rch all f i j n) : ∀ {k m : Nat}, Rch all f i k m → stepA all f j = none → stepA all f k = none → j = k ∧ n = m := by
  induction h with
  | refl i =>
    intro k m h2 h3 h4
    cases h2 with
    | refl => exact ⟨rfl, rfl⟩
    | cons a b => rw [a] at h3; cases h3
  | cons h1 _ ih =>
    intro k m h2 h3 h4
    cases h2 with
    | refl => rw [h1] at h4; cases h4
    | cons a b =>
      rw [a] at h1
      cases h1
      obtain ⟨rfl, rfl⟩ := ih b h3 h4
      exact ⟨rfl, rfl⟩

/-- A tree that is told what one machine says, c its size at most. -/
structure TInv (m : Mach) (c : Nat) (p : PT) : Prop where
  kind : p.kind = m.kind
  k : p.k = m.k
  o : p.o = m.o
  sane : Sane p.all
  ne : p.all ≠ []
  nodes : ∀ (i : Nat) (b : List Int) (ch : List (List Int × Nat)), p.all[i]? = some (PB.node b ch) → OkW m.k b ∧ b.length ≤ 12 ∧ (m.kind = 2 → b ≠ []) ∧ ∀ q ∈ ch, OkB q.1
  par : ∀ (i : Nat) (b : List Int) (ch : List (List Int × Nat)) (i' : Nat) (b' : List Int) (ch' : List (List Int × Nat)), p.all[i]? = some (PB.node b ch) → p.all[i']? = some (PB.node b' ch') → ∀ q ∈ ch, ∀ q' ∈ ch', q.2 = q'.2 → i = i'
  plen : p.place.length = p.access.length
  leaf : ∀ (i t : Nat), p.all[i]? = some (PB.leaf t) → t < p.access.length ∧ p.place[t]? = some i
  acc : ∀ t, t < p.access.length → ∃ i n, p.place[t]? = some i ∧ p.all[i]? = some (PB.leaf t) ∧ Rch p.all (go2F m (gL p.access t)) 0 i n
  words : ∀ u ∈ p.access, OkW m.k u ∧ u.length ≤ 12
  one : 0 < p.access.length
  acl : p.access.length ≤ c
  al : p.all.length ≤ c

theorem TInv.mono {m : Mach} {c c' : Nat} {p : PT} (h : TInv m c p) (hc : c ≤ c') : TInv m c' p := { h with acl := Nat.le_trans h.acl hc, al := Nat.le_trans h.al hc }

/-- What is sifted is no matter. -/
theorem TInv.sift {m : Mach} {c : Nat} {p : PT} (h : TInv m c p) (b : Bool) (u : List Int) (i : Nat) : TInv m c { p with busy := b, word := u, pos := i } := { h with }

theorem TInv.new {m : Mach} (g : Good m) : TInv m 1 (newP m.kind m.k m.o) where
  kind := rfl
  k := rfl
  o := rfl
  sane := fun i b ch h => by
    simp only [newP] at h
    cases i with
    | zero => simp at h
    | succ i => simp at h
  ne := by simp [newP]
  nodes := fun i b ch h => by
    simp only [newP] at h
    cases i with
    | zero => simp at h
    | succ i => simp at h
  par := fun i b ch i' b' ch' h => by
    simp only [newP] at h
    cases i with
    | zero => simp at h
    | succ i => simp at h
  plen := rfl
  leaf := fun i t h => by
    simp only [newP] at h ⊢
    cases i with
    | zero => simp at h; subst h; simp
    | succ i => simp at h
  acc := fun t h => by
    simp only [newP, List.length_singleton] at h
    obtain rfl : t = 0 := by omega
    exact ⟨0, 0, rfl, rfl, .refl _⟩
  words := fun u hu => by
    simp only [newP, List.mem_singleton] at hu
    subst hu
    exact ⟨fun x hx => by simp at hx, by simp⟩
  one := by simp [newP]
  acl := by simp [newP]
  al := by simp [newP]

theorem goO_ok {m : Mach} (g : Good m) (h2 : m.kind = 2) {e : List Int} : ∀ {s : Int}, 0 ≤ s ∧ s < m.n → OkW m.k e → ∀ x ∈ goO m s e, 0 ≤ x ∧ x < m.o := by
  induction e with
  | nil => intro s _ _ x hx; simp [goO] at hx
  | cons y e ih =>
    intro s hs he x hx
    simp only [goO, List.mem_cons] at hx
    have hy := he y (by simp)
    rcases hx with rfl | hx
    · refine g.out _ (gI_mem _ _ ?_)
      have := g.lout
      rw [if_pos h2] at this
      have := g.place hs hy
      omega
    · exact ih (g.step hs hy) (fun z hz => he z (by simp [hz])) x hx
theorem goOut_ok {m : Mach} (g : Good m) {s : Int} (hs : 0 ≤ s ∧ s < m.n) {e : List Int} (he : OkW m.k e) : ∀ x ∈ goOut m s e, 0 ≤ x ∧ x < m.o := by
  unfold goOut
  split
  · intro x hx
    simp only [List.mem_singleton] at hx
    subst hx
    have h1 := g.goS he hs
    refine g.out _ (gI_mem _ _ ?_)
    have := g.lout
    rw [if_neg (by omega)] at this
    omega
  · exact goO_ok g (g.kind.resolve_left (by assumption)) hs he
theorem goOut_length (m : Mach) (s : Int) (e : List Int) : (goOut m s e).length = if m.kind = 1 then 1 else e.length := by
  unfold goOut
  split
  · rfl
  · exact goO_length m e s
theorem go2F_ok {m : Mach} (g : Good m) {u e : List Int} (hu : OkW m.k u) (he : OkW m.k e) : ∀ x ∈ go2F m u e, 0 ≤ x ∧ x < m.o :=
  goOut_ok g (g.goS hu ⟨by omega, by have := g.n1; omega⟩) he
theorem go2F_okB {m : Mach} (g : Good m) {u e : List Int} (hu : OkW m.k u) (he : OkW m.k e) : OkB (go2F m u e) := fun x hx => by
  have := go2F_ok g hu he x hx; have := g.o3; omega
theorem saidF_of {kind o : Int} {n : Nat} {out : List Int} (hk : kind = 1 ∨ kind = 2) (ho : kind = 1 → o = 2) (hx : ∀ x ∈ out, 0 ≤ x ∧ x < o) (hl : out.length = if kind = 1 then 1 else n) : saidF kind o n out = true := by
  unfold saidF
  rcases hk with rfl | rfl
  · obtain rfl := ho rfl
    rw [if_pos rfl]
    simp only [if_true] at hl
    simp only [Bool.and_eq_true, beq_iff_eq, Bool.not_eq_true', List.any_eq_false, decide_eq_true_eq]
    exact ⟨hl, fun x h => by have := hx x h; omega⟩
  · rw [if_neg (by omega), if_pos rfl]
    rw [if_neg (by omega)] at hl
    simp only [Bool.and_eq_true, beq_iff_eq, Bool.not_eq_true', List.any_eq_false, decide_eq_true_eq]
    exact ⟨hl, fun x h => by have := hx x h; omega⟩
theorem saidF_go2 {m : Mach} (g : Good m) {u e : List Int} (hu : OkW m.k u) (he : OkW m.k e) : saidF m.kind m.o e.length (go2F m u e) = true :=
  saidF_of g.kind g.o2 (go2F_ok g hu he) (goOut_length m _ e)
theorem OkW.append {k : Int} {u e : List Int} (hu : OkW k u) (he : OkW k e) : OkW k (u ++ e) := fun x hx => (List.mem_append.1 hx).elim (hu x) (he x)
theorem runF_good {m : Mach} (g : Good m) {u : List Int} (hu : OkW m.k u) (hl : u.length ≤ 4096) : runF m u = (goOut m 0 u, 0) := by
  unfold runF fromF
  have h1 : (mcheckF m).2 = 0 := (mcheck_ok m).2 g
  have h2 : (checkF u m.k).2 = 0 := (checkF_ok u m.k).2 ⟨⟨g.k1, g.k2⟩, hl, hu⟩
  have := g.n1
  rw [if_neg (by rw [h1]; simp), if_neg (by omega), if_neg (by rw [h2]; simp)]
/-- What is said at the end of a word is what is told at the node. -/
theorem tail_go2 {m : Mach} (g : Good m) {u e : List Int} : (if m.kind = 2 then (goOut m 0 (u ++ e)).drop ((goOut m 0 (u ++ e)).length - e.length) else goOut m 0 (u ++ e)) = go2F m u e := by
  unfold go2F
  rcases g.kind with h | h
  · rw [if_neg (by omega)]
    unfold goOut
    rw [if_pos h, if_pos h, goS_append]
  · rw [if_pos h]
    unfold goOut
    rw [if_neg (by omega), if_neg (by omega), goO_append, List.length_append, goO_length, goO_length]
    rw [List.drop_append_of_le_length (by rw [goO_length]; omega), List.drop_eq_nil_of_le (by rw [goO_length]; omega)]
    rfl

theorem depthF_mono (all : List PB) : ∀ n m i, n ≤ m → depthF all n i ≤ depthF all m i := by
  intro n
  induction n with
  | zero => intro m i _; exact Nat.zero_le _
  | succ n ih =>
    intro m i h
    cases m with
    | zero => omega
    | succ m =>
      cases hg : all[i]? with
      | none => simp [depthF, hg]
      | some g =>
        cases g with
        | leaf t => simp [depthF, hg]
        | node b ch =>
          rw [depthF_node hg, depthF_node hg]
          refine Nat.succ_le_succ (maxL_ub fun x hx => ?_)
          obtain ⟨q, hq, rfl⟩ := List.mem_map.1 hx
          exact Nat.le_trans (ih m q.2 (by omega)) (maxL_le (List.mem_map.2 ⟨q, hq, rfl⟩))
theorem depth_step {all : List PB} (hs : Sane all) {f : List Int → List Int} {i j : Nat} (h : stepA all f i = some j) : i < all.length ∧ j < all.length ∧ i < j ∧ depthF all (all.length - j) j + 1 ≤ depthF all (all.length - i) i := by
  obtain ⟨b, ch, hb, hl⟩ := stepA_some h
  obtain ⟨q, hq, _, rfl⟩ := lookA_mem hl
  have h1 := hs i b ch hb q hq
  have hi : i < all.length := by omega
  refine ⟨hi, h1.2, h1.1, ?_⟩
  obtain ⟨n, hn⟩ : ∃ n, all.length - i = n + 1 := ⟨all.length - i - 1, by omega⟩
  rw [hn, depthF_node hb]
  exact Nat.succ_le_succ (Nat.le_trans (depthF_mono all _ n q.2 (by omega)) (maxL_le (List.mem_map.2 ⟨q, hq, rfl⟩)))
theorem Rch.lt {all : List PB} (hs : Sane all) {f : List Int → List Int} {i j n : Nat} (h : Rch all f i j n) (hi : i < all.length) : j < all.length := by
  induction h with
  | refl i => exact hi
  | cons h1 _ ih => exact ih (depth_step hs h1).2.1

/-! ### A new leaf -/
theorem setGet {all : List PB} {x : Nat} {g g' : PB} (hx : all[x]? = some g) (e : List PB) (i : Nat) : ((all.set x g') ++ e)[i]? = if i = x then some g' else if i < all.length then all[i]? else e[i - all.length]? := by
  have hl := (List.getElem?_eq_some_iff.1 hx).1
  by_cases h1 : i < all.length
  · rw [List.getElem?_append_left (by simpa using h1), List.getElem?_set]
    by_cases h2 : i = x
    · subst h2; simp [h1]
    · simp [h1, h2, Ne.symm h2]
  · rw [List.getElem?_append_right (by simp; omega), if_neg (by omega), if_neg h1]
    simp
theorem addP_all {p : PT} {b : List Int} {ch : List (List Int × Nat)} {a : List Int} (hx : p.pos < p.all.length) : (addP p b ch a).all = (p.all.set p.pos (PB.node b (ch ++ [(a, p.all.length)]))) ++ [PB.leaf p.access.length] := by
  simp only [addP]
  rw [List.set_append_left _ _ hx]

theorem TInv.add {m : Mach} {c : Nat} {p : PT} (g : Good m) (h : TInv m c p) {b : List Int} {ch : List (List Int × Nat)} (hb : p.all[p.pos]? = some (PB.node b ch)) {n : Nat} (hu : OkW m.k p.word) (hul : p.word.length ≤ 12)
    (hr : Rch p.all (go2F m p.word) 0 p.pos n) (hn : lookA ch (go2F m p.word b) = none) :
    TInv m (c + 1) (addP p b ch (go2F m p.word b)) ∧ Rch (addP p b ch (go2F m p.word b)).all (go2F m p.word) 0 p.all.length (n + 1) := by
  have hlx := (List.getElem?_eq_some_iff.1 hb).1
  have hall := addP_all (p := p) (b := b) (ch := ch) (a := go2F m p.word b) hlx
  obtain ⟨q', hq'⟩ : ∃ q', addP p b ch (go2F m p.word b) = q' := ⟨_, rfl⟩
  have hget : ∀ i, q'.all[i]? = if i = p.pos then some (PB.node b (ch ++ [(go2F m p.word b, p.all.length)])) else if i < p.all.length then p.all[i]? else [PB.leaf p.access.length][i - p.all.length]? := by
    intro i; rw [← hq', hall]; exact setGet hb _ i
  have hlen : q'.all.length = p.all.length + 1 := by rw [← hq', hall]; simp
  have hacc : q'.access = p.access ++ [p.word] := by rw [← hq']; rfl
  have hpl : q'.place = p.place ++ [p.all.length] := by rw [← hq']; rfl
  have hstep : ∀ f x y, stepA p.all f x = some y → stepA q'.all f x = some y := by
    intro f x y hs
    obtain ⟨b1, ch1, h1, h2⟩ := stepA_some hs
    have hx := (List.getElem?_eq_some_iff.1 h1).1
    by_cases e : x = p.pos
    · subst e
      rw [hb] at h1; cases h1
      rw [stepA_node (by rw [hget, if_pos rfl])]
      exact lookA_append h2 _
    · rw [stepA_node (b := b1) (ch := ch1) (by rw [hget, if_neg e, if_pos hx]; exact h1)]
      exact h2
  have hnode : ∀ i b1 ch1, q'.all[i]? = some (PB.node b1 ch1) → (i = p.pos ∧ b1 = b ∧ ch1 = ch ++ [(go2F m p.word b, p.all.length)]) ∨ (i ≠ p.pos ∧ p.all[i]? = some (PB.node b1 ch1)) := by
    intro i b1 ch1 h1
    rw [hget] at h1
    by_cases e : i = p.pos
    · rw [if_pos e] at h1; cases h1; exact .inl ⟨e, rfl, rfl⟩
    · rw [if_neg e] at h1
      by_cases e2 : i < p.all.length
      · rw [if_pos e2] at h1; exact .inr ⟨e, h1⟩
      · rw [if_neg e2] at h1
        cases hd : i - p.all.length with
        | zero => rw [hd] at h1; simp at h1
        | succ d => rw [hd] at h1; simp at h1
  have hold : ∀ i b1 ch1, q'.all[i]? = some (PB.node b1 ch1) → ∀ q ∈ ch1, (q.2 = p.all.length ∧ i = p.pos ∧ q.1 = go2F m p.word b) ∨ (∃ ch2, p.all[i]? = some (PB.node b1 ch2) ∧ q ∈ ch2 ∧ i < q.2 ∧ q.2 < p.all.length) := by
    intro i b1 ch1 h1 q hq
    rcases hnode i b1 ch1 h1 with ⟨rfl, rfl, rfl⟩ | ⟨_, h2⟩
    · rcases List.mem_append.1 hq with hq | hq
      · have := h.sane _ _ _ hb q hq
        exact .inr ⟨ch, hb, hq, this⟩
      · simp only [List.mem_singleton] at hq; subst hq; exact .inl ⟨rfl, rfl, rfl⟩
    · exact .inr ⟨ch1, h2, hq, h.sane _ _ _ h2 q hq⟩
  have hrch : Rch q'.all (go2F m p.word) 0 p.all.length (n + 1) := by
    refine (hr.mono (hstep _)).snoc ?_
    rw [stepA_node (by rw [hget, if_pos rfl])]
    exact lookA_new hn _
  rw [hq']
  refine ⟨?_, hrch⟩
  refine ⟨by rw [← hq']; exact h.kind, by rw [← hq']; exact h.k, by rw [← hq']; exact h.o, ?_, ?_, ?_, ?_, ?_, ?_, ?_, ?_, ?_, ?_, ?_⟩
  · intro i b1 ch1 h1 q hq
    rw [hlen]
    rcases hold i b1 ch1 h1 q hq with ⟨e, rfl, _⟩ | ⟨_, _, _, h3, h4⟩ <;> omega
  · intro e; rw [e] at hlen; simp at hlen
  · intro i b1 ch1 h1
    rcases hnode i b1 ch1 h1 with ⟨rfl, rfl, rfl⟩ | ⟨_, h2⟩
    · obtain ⟨x1, x2, x3, x4⟩ := h.nodes _ _ _ hb
      refine ⟨x1, x2, x3, fun q hq => ?_⟩
      rcases List.mem_append.1 hq with hq | hq
      · exact x4 q hq
      · simp only [List.mem_singleton] at hq; subst hq; exact go2F_okB g hu x1
    · exact h.nodes _ _ _ h2
  · intro i b1 ch1 i' b2 ch2 h1 h2 q hq q2 hq2 e
    rcases hold i b1 ch1 h1 q hq with ⟨e1, e2, _⟩ | ⟨c1, n1, m1, _, l1⟩ <;> rcases hold i' b2 ch2 h2 q2 hq2 with ⟨e3, e4, _⟩ | ⟨c2, n2, m2, _, l2⟩
    · rw [e2, e4]
    · omega
    · omega
    · exact h.par _ _ _ _ _ _ n1 n2 q m1 q2 m2 e
  · rw [hacc, hpl]; simp [h.plen]
  · intro i t h1
    rw [hget] at h1
    by_cases e : i = p.pos
    · rw [if_pos e] at h1; cases h1
    · rw [if_neg e] at h1
      by_cases e2 : i < p.all.length
      · rw [if_pos e2] at h1
        obtain ⟨l1, l2⟩ := h.leaf i t h1
        rw [hacc, hpl]
        exact ⟨by simp; omega, by rw [List.getElem?_append_left (by rw [h.plen]; exact l1)]; exact l2⟩
      · rw [if_neg e2] at h1
        cases hd : i - p.all.length with
        | zero =>
          rw [hd] at h1; simp at h1
          subst h1
          rw [hacc, hpl]
          refine ⟨by simp, ?_⟩
          rw [List.getElem?_append_right (by rw [h.plen]; exact Nat.le_refl _), h.plen, Nat.sub_self]
          have : i = p.all.length := by omega
          subst this; rfl
        | succ d => rw [hd] at h1; simp at h1
  · intro t ht
    rw [hacc] at ht
    simp at ht
    by_cases e : t < p.access.length
    · obtain ⟨i, n1, a1, a2, a3⟩ := h.acc t e
      refine ⟨i, n1, ?_, ?_, ?_⟩
      · rw [hpl, List.getElem?_append_left (by rw [h.plen]; exact e)]; exact a1
      · have hi := (List.getElem?_eq_some_iff.1 a2).1
        rw [hget, if_neg, if_pos hi]; · exact a2
        rintro rfl; rw [hb] at a2; cases a2
      · have : gL q'.access t = gL p.access t := by rw [hacc]; simp [gL, List.getD_eq_getElem?_getD, List.getElem?_append_left e]
        rw [this]
        exact a3.mono (hstep _)
    · obtain rfl : t = p.access.length := by omega
      refine ⟨p.all.length, n + 1, ?_, ?_, ?_⟩
      · rw [hpl, List.getElem?_append_right (by rw [h.plen]; exact Nat.le_refl _), h.plen, Nat.sub_self]; rfl
      · rw [hget, if_neg (by omega), if_neg (by omega), Nat.sub_self]; rfl
      · have : gL q'.access p.access.length = p.word := by rw [hacc]; simp [gL, List.getD_eq_getElem?_getD]
        rw [this]
        exact hrch
  · intro u hu'
    rw [hacc] at hu'
    rcases List.mem_append.1 hu' with hu' | hu'
    · exact h.words u hu'
    · simp only [List.mem_singleton] at hu'; subst hu'; exact ⟨hu, hul⟩
  · rw [hacc]; simp
  · rw [hacc]; simp; exact h.acl
  · rw [hlen]; have := h.al; omega
end Go.Proofs.Ytoafjmfnnbpnoaa
