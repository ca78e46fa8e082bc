/-
  Rows in memory of their own; what one more number at the end of such a row turns. Plain theorems.
-/
import Derived.Test.YtoafjmfnnbpnoaaLA2
set_option linter.unusedVariables false
set_option linter.unusedSimpArgs false
namespace Go.Proofs.Ytoafjmfnnbpnoaa
open Go Go.RowKit

/-- One number more: in place, in the room that there is; or in new memory, and what was there stays. -/
theorem run_append_one (w : World) (B : Nat) (ty : TypeId) (v : Value) (n : Nat) (xs : List Value) (hown : w.ownsRow B 3 1 v n xs)
    (ad : Addr) (c : Nat) (x : Int) (hx : w.cell? ad = some (.int .i64 x)) (hb : n + 1 ≤ 1000000) (hB : B ≤ w.heap.size) :
    ∃ v' w', (Builtin.append_ #[29, 29] ty #[v, .slice (some ad) 1 c]).run Try.prog w = .ok v' w' ∧ w'.ownsRow B 3 1 v' (n + 1) (xs ++ [.int .i64 x]) ∧
      ((∃ g cap, v = .slice (some ⟨g, 0, none⟩) n cap ∧ v' = .slice (some ⟨g, 0, none⟩) (n + 1) cap ∧ w.grownBy w' (some g)) ∨ (v'.ownBlock = some w.heap.size ∧ Below w.heap.size w w')) := by
  obtain ⟨i0, hi, hzz⟩ := Option.map_eq_some_iff.1 info_int
  simp only [Prod.mk.injEq] at hzz
  obtain ⟨hz0, hz1, hz2⟩ := hzz
  have hnews : ∀ j u, ([.int .i64 x] : List Value)[j]? = some u → w.cell? (ad.add j) = some u := fun j u hu => by
    cases j with
    | zero => simp at hu; subst hu; have : ad.add 0 = ad := by unfold Addr.add; split <;> simp_all
              rw [this]; exact hx
    | succ j => simp at hu
  obtain ⟨v', w', hr, h1, h2, _, h3⟩ := run_append_own_at (P := Try.prog) w B 29 ty 3 i0 (.int .i64 0) 1 8 Try.underlying29 hi hz0 hz1 hz2 rfl (by decide) v n xs hown ad 1 c [.int .i64 x] rfl hnews (by simp [Value.oneCell']) (by simp only [maxLen]; omega) (by omega) hB
  refine ⟨v', w', hr, h1, ?_⟩
  rcases hown.2 with ⟨rfl, rfl⟩ | ⟨g, cap, cur, rfl, hbg, hg, hnc, hcm, hcs, htake⟩
  · right
    refine ⟨?_, ⟨h2.os, h2.tape, h2.output, h2.size, fun k hk => h2.block k hk (by simp [Value.ownBlock])⟩⟩
    rcases h3 with h3 | h3
    · obtain ⟨g', cap', e, _⟩ := own_form h1 (by omega)
      rw [e] at h3; simp [Value.ownBlock] at h3
    · exact h3
  · by_cases hroom : n + 1 ≤ cap
    · have hfit : n * i0.size + ([.int .i64 x] : List Value).length ≤ cur.size := by rw [hz1, hcs]; simp; omega
      have hr2 := run_append_room (P := Try.prog) w 29 ty 3 i0 Try.underlying29 hi g n cap cur hg ad 1 c [.int .i64 x] (by rw [hz1]; rfl) hnews (by simp [Value.oneCell']) hroom hfit
      rw [hr2] at hr
      injection hr with e1 e2
      subst e1
      exact .inl ⟨g, cap, rfl, rfl, h2⟩
    · have holds : ∀ j u, xs[j]? = some u → w.cell? ((⟨g, 0, none⟩ : Addr).add j) = some u := hown.cells (g := g) rfl
      have hr2 := run_append_grow (P := Try.prog) w 29 ty 3 i0 (.int .i64 0) Try.underlying29 hi hz0 ⟨g, 0, none⟩ n cap xs (by rw [hz1]; exact hown.1) holds ad 1 c [.int .i64 x] (by rw [hz1]; rfl) hnews (by omega) (by omega) (growslice_fits (by omega) (by rw [hz2]; omega))
      rw [hr2] at hr
      injection hr with e1 e2
      subst e1
      refine .inr ⟨rfl, ?_⟩
      rw [← e2]
      exact ((Below.refl _ _).drew).alloc (Nat.le_refl _) _

/-- At the operation, for the walk. -/
theorem wpl_append_one {ops : Array Oper} {rest : List Oper} {o : Oper} {a : Act} {Q : Exit → Act → World → Prop} {w : World} (hgd : o.guard = none) (s x : Operand)
    (ho : o.op = .call { callee := .builtin .append, args := #[s, x], argTypes := #[29, 29] })
    (B : Nat) (v : Value) (n : Nat) (xs : List Value) (hs : a.eval s = v) (hown : w.ownsRow B 3 1 v n xs)
    (ad : Addr) (c : Nat) (y : Int) (hx : a.eval x = .slice (some ad) 1 c) (hy : w.cell? ad = some (.int .i64 y)) (hb : n + 1 ≤ 1000000) (hB : B ≤ w.heap.size)
    (h : ∀ v' w', w'.ownsRow B 3 1 v' (n + 1) (xs ++ [.int .i64 y]) → ((∃ g cap, v = .slice (some ⟨g, 0, none⟩) n cap ∧ v' = .slice (some ⟨g, 0, none⟩) (n + 1) cap ∧ w.grownBy w' (some g)) ∨ (v'.ownBlock = some w.heap.size ∧ Below w.heap.size w w')) → wpList Try.prog ops Q rest (a.put o.dst v') w') :
    wpList Try.prog ops Q (o :: rest) a w := by
  refine wpList_plain hgd fun K hK => ?_
  obtain ⟨v', w', hr, h2, h3⟩ := run_append_one w B o.type v n xs hown ad c y hy hb hB
  unfold Oper.wp execOp
  simp only [ho, resolve, invoke, builtin, Sem.run_bind, Sem.run_pure, Result.andThen_ok, List.map_toArray, List.map_cons, List.map_nil, hs, hx, hr]
  exact hK _ _ (h v' w' h2 h3)

/-- Rows, each in memory of its own. -/
structure ARows (W : World) (B : Nat) (vs : List Value) (yss : List (List Int)) : Prop where
  len : vs.length = yss.length
  own : ∀ i (h : i < vs.length), W.ownsRow B 3 1 vs[i] (gL yss i).length (ints (gL yss i))
  apart : ∀ i j (hi : i < vs.length) (hj : j < vs.length), i ≠ j → ∀ k, vs[i].ownBlock = some k → vs[j].ownBlock ≠ some k
def RowBlk (vs : List Value) (k : Nat) : Prop := ∃ v ∈ vs, v.ownBlock = some k

theorem ARows.keep {W W' : World} {B : Nat} {vs : List Value} {yss : List (List Int)} (h : ARows W B vs yss) (hk : ∀ k, RowBlk vs k → k < W.heap.size → W'.heap[k]? = W.heap[k]?) : ARows W' B vs yss :=
  ⟨h.len, fun i hi => own_keep (h.own i hi) (fun k hk' hl => hk k ⟨vs[i], List.getElem_mem hi, hk'⟩ hl), h.apart⟩
theorem ARows.below {W W' : World} {B : Nat} {vs : List Value} {yss : List (List Int)} (h : ARows W B vs yss) (hb : Below W.heap.size W W') : ARows W' B vs yss := h.keep (fun k _ hl => hb.block k hl)
theorem ARows.grown {W W' : World} {B : Nat} {vs : List Value} {yss : List (List Int)} (h : ARows W B vs yss) {b : Nat} (hg : W.grownBy W' (some b)) (hb : ¬ RowBlk vs b) : ARows W' B vs yss :=
  h.keep (fun k hk hl => hg.block k hl (fun e => by injection e with e; subst e; exact hb hk))
theorem gL_set_self (yss : List (List Int)) (i : Nat) (ys : List Int) (h : i < yss.length) : gL (yss.set i ys) i = ys := by
  simp [gL, List.getD_eq_getElem?_getD, h]
theorem gL_set_ne (yss : List (List Int)) (i j : Nat) (ys : List Int) (h : i ≠ j) : gL (yss.set i ys) j = gL yss j := by
  simp [gL, List.getD_eq_getElem?_getD, List.getElem?_set, h]
/-- One row was written. -/
theorem ARows.put {W W' : World} {B : Nat} {vs : List Value} {yss : List (List Int)} (h : ARows W B vs yss) {i g : Nat} (hi : i < vs.length) (hv : vs[i].ownBlock = some g) {ys : List Int} (ho : W'.ownsRow B 3 1 vs[i] ys.length (ints ys)) (hg : W.grownBy W' (some g)) :
    ARows W' B vs (yss.set i ys) where
  len := by simp [h.len]
  own := fun j hj => by
    by_cases e : i = j
    · subst e; rw [gL_set_self _ _ _ (by rw [← h.len]; exact hi)]; exact ho
    · rw [gL_set_ne _ _ _ _ e]
      refine (h.own j hj).kept hg ?_
      by_cases hn : vs[j].ownBlock = some g
      · exact absurd hn (h.apart i j hi hj e g hv)
      · exact .inr hn
  apart := h.apart
/-- A row that was gone on with in place is as it was. -/
theorem ARows.over {W W' : World} {B : Nat} {vs : List Value} {yss : List (List Int)} (h : ARows W B vs yss) {i g cap n : Nat} (hi : i < vs.length) (hv : vs[i] = .slice (some ⟨g, 0, none⟩) (gL yss i).length cap) {zs : List Int} (hz : (gL yss i) <+: zs)
    (ho : W'.ownsRow B 3 1 (.slice (some ⟨g, 0, none⟩) n cap) n (ints zs)) (hg : W.grownBy W' (some g)) : ARows W' B vs yss where
  len := h.len
  own := fun j hj => by
    by_cases e : i = j
    · subst e
      obtain ⟨t, rfl⟩ := hz
      have h0 := h.own i hi
      rw [hv] at h0 ⊢
      refine ⟨h0.1, .inr ?_⟩
      rcases h0.2 with ⟨e, _⟩ | ⟨g1, cap1, cur1, e1, a1, a2, a3, a4, a5, a6⟩
      · cases e
      rcases ho.2 with ⟨e, _⟩ | ⟨g2, cap2, cur2, e2, b1, b2, b3, b4, b5, b6⟩
      · cases e
      injection e1 with e1 _ e1'
      injection e1 with e1
      injection e1 with e1
      injection e2 with e2 _ e2'
      injection e2 with e2
      injection e2 with e2
      subst e1 e1' e2 e2'
      refine ⟨g, cap, cur2, rfl, b1, b2, a3, a4, b5, ?_⟩
      have hlen := ho.1
      simp [ints] at hlen
      rw [ints_append] at b6
      have := congrArg (List.take ((gL yss i).length * 1)) b6
      rw [List.take_take, Nat.min_eq_left (by omega)] at this
      rw [this, List.take_left' (by simp [ints])]
    · refine (h.own j hj).kept hg ?_
      by_cases hn : vs[j].ownBlock = some g
      · exact absurd hn (h.apart i j hi hj e g (by rw [hv]; rfl))
      · exact .inr hn
  apart := h.apart
end Go.Proofs.Ytoafjmfnnbpnoaa
