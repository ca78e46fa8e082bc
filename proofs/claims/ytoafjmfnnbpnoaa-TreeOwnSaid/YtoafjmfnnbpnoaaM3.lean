/-
  What the reference's M.Go, M.Go2, M.Run compute of a right machine and a right word.
-/
import Derived.Test.YtoafjmfnnbpnoaaM2
import Derived.Test.YtoafjmfnnbpnoaaBase2
set_option linter.unusedVariables false
set_option linter.unusedSimpArgs false
namespace Go.Proofs.Ytoafjmfnnbpnoaa
open Go Go.RowKit

def OkW (k : Int) (w : List Int) : Prop := ∀ x ∈ w, 0 ≤ x ∧ x < k
def stepM (m : Mach) (s x : Int) : Int := gI m.next (s * m.k + x).toNat
def goS (m : Mach) : Int → List Int → Int
  | s, [] => s
  | s, x :: w => goS m (stepM m s x) w
def goO (m : Mach) : Int → List Int → List Int
  | _, [] => []
  | s, x :: w => gI m.out (s * m.k + x).toNat :: goO m (stepM m s x) w
/-- What is said of a word from a state. -/
def goOut (m : Mach) (s : Int) (w : List Int) : List Int := if m.kind = 1 then [gI m.out (goS m s w).toNat] else goO m s w

theorem goS_append (m : Mach) (u v : List Int) : ∀ s, goS m s (u ++ v) = goS m (goS m s u) v := by
  induction u with
  | nil => intro s; rfl
  | cons x u ih => intro s; exact ih _
theorem goO_append (m : Mach) (u v : List Int) : ∀ s, goO m s (u ++ v) = goO m s u ++ goO m (goS m s u) v := by
  induction u with
  | nil => intro s; rfl
  | cons x u ih => intro s; simp only [List.cons_append, goO, goS, ih]
theorem goO_length (m : Mach) (w : List Int) : ∀ s, (goO m s w).length = w.length := by
  induction w with
  | nil => intro s; rfl
  | cons x u ih => intro s; simp [goO, ih]
theorem take_snoc (w : List Int) (j : Nat) (h : j < w.length) : w.take (j + 1) = w.take j ++ [gI w j] := by
  rw [List.take_succ_eq_append_getElem h, gI_get w j h]

theorem badAt_none (k : Int) (xs : List Int) : ∀ i, badAt k xs i = none → ∀ x ∈ xs, 0 ≤ x ∧ x < k := by
  induction xs with
  | nil => intro i _ x hx; cases hx
  | cons y ys ih =>
    intro i h x hx
    unfold badAt at h
    split at h
    · cases h
    · rcases List.mem_cons.1 hx with rfl | hx
      · omega
      · exact ih _ h x hx
theorem badAt_of_ok (k : Int) (xs : List Int) : ∀ i, (∀ x ∈ xs, 0 ≤ x ∧ x < k) → badAt k xs i = none := by
  induction xs with
  | nil => intro i _; rfl
  | cons y ys ih =>
    intro i h
    unfold badAt
    have := h y (by simp)
    rw [if_neg (by omega)]
    exact ih _ fun x hx => h x (by simp [hx])
theorem badAt_lt (k : Int) (xs : List Int) : ∀ i j, badAt k xs i = some j → i ≤ j ∧ j < i + xs.length := by
  induction xs with
  | nil => intro i j h; cases h
  | cons y ys ih =>
    intro i j h
    unfold badAt at h
    split at h
    · injection h with h; subst h; simp
    · have := ih _ _ h; simp; omega

/-- What a right machine is. -/
structure Good (m : Mach) : Prop where
  kind : m.kind = 1 ∨ m.kind = 2
  k1 : 1 ≤ m.k
  k2 : m.k ≤ 64
  o2 : m.kind = 1 → m.o = 2
  o1 : 1 ≤ m.o
  o3 : m.o ≤ 64
  n1 : 1 ≤ m.n
  n2 : m.n ≤ 1024
  lnext : (m.next.length : Int) = m.n * m.k
  lout : (m.out.length : Int) = if m.kind = 2 then m.n * m.k else m.n
  next : ∀ x ∈ m.next, 0 ≤ x ∧ x < m.n
  out : ∀ x ∈ m.out, 0 ≤ x ∧ x < m.o

theorem mcheck_ok (m : Mach) : (mcheckF m).2 = 0 ↔ Good m := by
  unfold mcheckF
  constructor
  · intro h
    by_cases h1 : m.kind ≠ 1 ∧ m.kind ≠ 2
    · rw [if_pos h1] at h; simp at h
    rw [if_neg h1] at h
    by_cases h2 : m.k < 1 ∨ m.k > 64
    · rw [if_pos h2] at h; simp at h
    rw [if_neg h2] at h
    by_cases h3 : (m.kind = 1 ∧ m.o ≠ 2) ∨ m.o < 1 ∨ m.o > 64
    · rw [if_pos h3] at h; simp at h
    rw [if_neg h3] at h
    by_cases h4 : m.n < 1 ∨ m.n > 1024
    · rw [if_pos h4] at h; simp at h
    rw [if_neg h4] at h
    by_cases h5 : (m.next.length : Int) ≠ m.n * m.k ∨ (m.out.length : Int) ≠ (if m.kind = 2 then m.n * m.k else m.n)
    · rw [if_pos h5] at h; simp at h
    rw [if_neg h5] at h
    cases h6 : badAt m.n m.next 0 with
    | some i => rw [h6] at h; simp at h
    | none =>
      rw [h6] at h
      cases h7 : badAt m.o m.out 0 with
      | some i => rw [h7] at h; simp at h
      | none => exact ⟨by omega, by omega, by omega, by omega, by omega, by omega, by omega, by omega, Classical.byContradiction fun e => h5 (Or.inl e), Classical.byContradiction fun e => h5 (Or.inr e), badAt_none _ _ _ h6, badAt_none _ _ _ h7⟩
  · intro g
    obtain ⟨a, b, c, d, e, f, g1, h, i, j, k, l⟩ := g
    rw [if_neg (by omega), if_neg (by omega), if_neg (by omega), if_neg (by omega), if_neg (by rintro (x | x); exact x i; exact x j), badAt_of_ok _ _ _ k, badAt_of_ok _ _ _ l]
theorem rightF_iff (m : Mach) : rightF m = true ↔ Good m := by
  unfold rightF; rw [beq_iff_eq]; exact mcheck_ok m

theorem Good.nk {m : Mach} (g : Good m) : 0 ≤ m.n * m.k ∧ m.n * m.k ≤ 65536 := by
  have h1 : 0 ≤ m.n * m.k := Int.mul_nonneg (by have := g.n1; omega) (by have := g.k1; omega)
  have h2 : m.n * m.k ≤ 1024 * 64 := Int.mul_le_mul g.n2 g.k2 (by have := g.k1; omega) (by omega)
  exact ⟨h1, by omega⟩
theorem Good.place {m : Mach} (g : Good m) {s x : Int} (hs : 0 ≤ s ∧ s < m.n) (hx : 0 ≤ x ∧ x < m.k) : 0 ≤ s * m.k ∧ s * m.k + x < m.n * m.k ∧ s * m.k ≤ 65536 := by
  have h1 : 0 ≤ s * m.k := Int.mul_nonneg hs.1 (by have := g.k1; omega)
  have h2 : s * m.k ≤ (m.n - 1) * m.k := Int.mul_le_mul_of_nonneg_right (by omega) (by have := g.k1; omega)
  have h3 : (m.n - 1) * m.k = m.n * m.k - m.k := by rw [Int.sub_mul]; omega
  have := g.nk
  exact ⟨h1, by omega, by omega⟩
theorem Good.step {m : Mach} (g : Good m) {s x : Int} (hs : 0 ≤ s ∧ s < m.n) (hx : 0 ≤ x ∧ x < m.k) : 0 ≤ stepM m s x ∧ stepM m s x < m.n := by
  obtain ⟨h1, h2, h3⟩ := g.place hs hx
  have := g.lnext
  exact g.next _ (gI_mem _ _ (by omega))
theorem Good.goS {m : Mach} (g : Good m) {w : List Int} (hw : OkW m.k w) : ∀ {s : Int}, 0 ≤ s ∧ s < m.n → 0 ≤ goS m s w ∧ goS m s w < m.n := by
  induction w with
  | nil => intro s hs; exact hs
  | cons x w ih => intro s hs; exact ih (fun y hy => hw y (by simp [hy])) (g.step hs (hw x (by simp)))
theorem OkW.take {k : Int} {w : List Int} (h : OkW k w) (j : Nat) : OkW k (w.take j) := fun x hx => h x (List.mem_of_mem_take hx)
theorem OkW.at {k : Int} {w : List Int} (h : OkW k w) {j : Nat} (hj : j < w.length) : 0 ≤ gI w j ∧ gI w j < k := h _ (gI_mem w j hj)
theorem goS_snoc (m : Mach) (s : Int) (w : List Int) (j : Nat) (h : j < w.length) : goS m s (w.take (j + 1)) = stepM m (goS m s (w.take j)) (gI w j) := by
  rw [take_snoc w j h, goS_append]; rfl
theorem goO_snoc (m : Mach) (s : Int) (w : List Int) (j : Nat) (h : j < w.length) : goO m s (w.take (j + 1)) = goO m s (w.take j) ++ [gI m.out (goS m s (w.take j) * m.k + gI w j).toNat] := by
  rw [take_snoc w j h, goO_append]; rfl

def GoP (w : World) (m : Mach) (s : Int) (u : List Int) (e : Ending) (w' : World) : Prop :=
  ∃ v', e = .returned (.tuple #[.int .i64 (goS m s u), v']) ∧ OI w' w.heap.size v' (goOut m s u) ∧ Below w.heap.size w w'

set_option maxRecDepth 20000 in
theorem M_Go_dfa (A1 A2 A3 : Option Addr) (c1 c2 c3 : Nat) (k n : Int) (next out u : List Int) (s : Int) (w : World) (ok ok3 : Nat → Prop)
    (hs1 : SI w ok (.slice A1 next.length c1) next) (hs2 : SI w ok (.slice A2 out.length c2) out) (hu : SI w ok3 (.slice A3 u.length c3) u)
    (g : Good ⟨1, k, 2, n, next, out⟩) (hw : OkW k u) (hs : 0 ≤ s ∧ s < n) (hum : u.length ≤ 9223372036854775807) :
    Calls Try.prog 43 #[.agg #[.int .i64 1, .int .i64 k, .int .i64 2, .int .i64 n, .slice A1 next.length c1, .slice A2 out.length c2], .int .i64 s, .slice A3 u.length c3] w (GoP w ⟨1, k, 2, n, next, out⟩ s u) := by
  go_enter Try.func43, Try.ntmps43
  go_wp2
  go_loopw [1, 9] (fun t i wr => ∃ j mm : Nat, j ≤ u.length ∧ i = .int .i64 j ∧ Hid (wr = (w.alloc (.cells #[.int .i64 1, .int .i64 k, .int .i64 2, .int .i64 n, .slice A1 next.length c1, .slice A2 out.length c2] 31)).drewN mm) ∧ t = .int .i64 (goS ⟨1, k, 2, n, next, out⟩ s (u.take j))) (fun _ i _ => u.length - (intOf i).toNat)
  case atStart => exact ⟨0, 0, Nat.zero_le _, rfl, rfl, rfl⟩
  case round =>
    obtain ⟨j, mm, hj, rfl, hW, rfl⟩ := hrel
    have hw' := hW.out
    subst hw'
    clear hW
    obtain ⟨t, ht⟩ : ∃ t, goS ⟨1, k, 2, n, next, out⟩ s (u.take j) = t := ⟨_, rfl⟩
    have htb := g.goS (hw.take j) hs
    rw [ht] at htb ⊢
    simp only at htb
    obtain ⟨ht1, ht2⟩ := htb
    by_cases hlt : j < u.length
    · have Hsn := Lib.hid (goS_snoc ⟨1, k, 2, n, next, out⟩ s u j hlt)
      have Ht := Lib.hid ht
      clear ht
      obtain ⟨ad3, rfl, _, hc3⟩ := hu.cell j hlt
      obtain ⟨x, hx⟩ : ∃ x, gI u j = x := ⟨_, rfl⟩
      have hxb := hw.at hlt
      rw [hx] at hc3 hxb
      have Hx := Lib.hid hx
      clear hx
      obtain ⟨hx1, hx2⟩ := hxb
      obtain ⟨p1, p2, p3⟩ := g.place (s := t) (x := x) ⟨ht1, ht2⟩ ⟨hx1, hx2⟩
      have p4 := g.nk
      have p5 := g.lnext
      simp only at p1 p2 p3 p4 p5
      have q1 : t * k + x < (next.length : Int) := by omega
      have q2 : 0 ≤ t * k + x := by omega
      have q3 : t * k + x ≤ 65536 := by omega
      clear p2 p4 p5
      obtain ⟨ad1, rfl, _, hc1⟩ := hs1.cell (t * k + x).toNat (by omega)
      obtain ⟨y, hy⟩ : ∃ y, gI next (t * k + x).toNat = y := ⟨_, rfl⟩
      rw [hy] at hc1
      have Hy := Lib.hid hy
      clear hy
      have hB := below_alloc w (.cells #[.int .i64 1, .int .i64 k, .int .i64 2, .int .i64 n, .slice (some ad1) next.length c1, .slice A2 out.length c2] 31)
      have hc3' := (hB.cell (World.block_lt_of_cell? w _ hc3)).trans hc3
      have hc1' := (hB.cell (World.block_lt_of_cell? w _ hc1)).trans hc1
      clear hB
      go_wp2
      go_quiet (fail)
      go_wp2
      go_roundw
      case rel => exact ⟨j + 1, mm + nq, by omega, by go_num, rfl, by rw [Hsn.out]; simp only [stepM, Ht.out, Hx.out, Hy.out]⟩
      case measure => simp [intOf]; omega
    · have hfin : Hid (goS ⟨1, k, 2, n, next, out⟩ s u = t) := by show _ = _; rw [← ht, List.take_of_length_le (by omega)]
      clear ht
      have p5 := g.lout
      rw [if_neg (by simp)] at p5
      simp only at p5
      have q1 : t < (out.length : Int) := by omega
      clear p5
      obtain ⟨ad2, rfl, _, hc2⟩ := hs2.cell t.toNat (by omega)
      obtain ⟨y, hy⟩ : ∃ y, gI out t.toNat = y := ⟨_, rfl⟩
      rw [hy] at hc2
      have Hy := Lib.hid hy
      clear hy
      have hB := below_alloc w (.cells #[.int .i64 1, .int .i64 k, .int .i64 2, .int .i64 n, .slice A1 next.length c1, .slice (some ad2) out.length c2] 31)
      have hc2' := (hB.cell (World.block_lt_of_cell? w _ hc2)).trans hc2
      go_wp2
      go_ret2
      refine ⟨_, by rw [hfin.out]; rfl, ?_, ?_⟩
      · have e : goOut ⟨1, k, 2, n, next, out⟩ s u = [y] := by unfold goOut; rw [if_pos rfl, hfin.out, Hy.out]
        rw [e]
        exact own_lit _ _ (w.heap.size + 1) _ [y] rfl (by simp) (by simp) (by simp)
      · exact below_then (below_drewN (below_alloc ..) _) (below_alloc ..)

set_option maxRecDepth 20000 in
theorem M_Go_mealy (A1 A2 A3 : Option Addr) (c1 c2 c3 : Nat) (k o n : Int) (next out u : List Int) (s : Int) (w : World) (ok ok3 : Nat → Prop)
    (hs1 : SI w ok (.slice A1 next.length c1) next) (hs2 : SI w ok (.slice A2 out.length c2) out) (hu : SI w ok3 (.slice A3 u.length c3) u)
    (g : Good ⟨2, k, o, n, next, out⟩) (hw : OkW k u) (hs : 0 ≤ s ∧ s < n) (hum : u.length ≤ 4096) :
    Calls Try.prog 43 #[.agg #[.int .i64 2, .int .i64 k, .int .i64 o, .int .i64 n, .slice A1 next.length c1, .slice A2 out.length c2], .int .i64 s, .slice A3 u.length c3] w (GoP w ⟨2, k, o, n, next, out⟩ s u) := by
  go_enter Try.func43, Try.ntmps43
  go_wp2
  obtain ⟨W0, hW0⟩ : ∃ W0, W0 = w.alloc (.cells #[.int .i64 2, .int .i64 k, .int .i64 o, .int .i64 n, .slice A1 next.length c1, .slice A2 out.length c2] 31) := ⟨_, rfl⟩
  have hB0 := below_alloc w (.cells #[.int .i64 2, .int .i64 k, .int .i64 o, .int .i64 n, .slice A1 next.length c1, .slice A2 out.length c2] 31)
  have z0 : W0.cell? ⟨w.heap.size, 0, none⟩ = some (.int .i64 2) := by subst hW0; go_simp
  have z1 : W0.cell? ⟨w.heap.size, 1, none⟩ = some (.int .i64 k) := by subst hW0; go_simp
  have z4 : W0.cell? ⟨w.heap.size, 4, none⟩ = some (.slice A1 next.length c1) := by subst hW0; go_simp
  have z5 : W0.cell? ⟨w.heap.size, 5, none⟩ = some (.slice A2 out.length c2) := by subst hW0; go_simp
  have zs : W0.heap.size = w.heap.size + 1 := by subst hW0; simp
  rw [← hW0] at hB0 ⊢
  have HB0 := Lib.hid hB0
  have Hs1 := Lib.hid (hs1.below hB0)
  have Hs2 := Lib.hid (hs2.below hB0)
  have Hu := Lib.hid (hu.below hB0)
  have Z0 := Lib.hid z0; have Z1 := Lib.hid z1; have Z4 := Lib.hid z4; have Z5 := Lib.hid z5; have Zs := Lib.hid zs
  clear hW0 hB0 z0 z1 z4 z5 zs hs1 hs2 hu
  go_loopw [1, 8, 9] (fun t v i wr => ∃ j : Nat, j ≤ u.length ∧ i = .int .i64 j ∧ Hid (OI wr (w.heap.size + 1) v (goO ⟨2, k, o, n, next, out⟩ s (u.take j))) ∧ Hid (Below W0.heap.size W0 wr) ∧ t = .int .i64 (goS ⟨2, k, o, n, next, out⟩ s (u.take j))) (fun _ _ i _ => u.length - (intOf i).toNat)
  case atStart => exact ⟨0, Nat.zero_le _, rfl, World.ownsRow_nil .., Below.refl _ _, rfl⟩
  case round =>
    obtain ⟨j, hj, rfl, hO, hB, rfl⟩ := hrel
    obtain ⟨t, ht⟩ : ∃ t, goS ⟨2, k, o, n, next, out⟩ s (u.take j) = t := ⟨_, rfl⟩
    have htb := g.goS (hw.take j) hs
    rw [ht] at htb ⊢
    simp only at htb
    obtain ⟨ht1, ht2⟩ := htb
    have hlt0 : w.heap.size < W0.heap.size := by rw [Zs.out]; omega
    have y0 := (hB.out.cell (p := ⟨w.heap.size, 0, none⟩) hlt0).trans Z0.out
    have y1 := (hB.out.cell (p := ⟨w.heap.size, 1, none⟩) hlt0).trans Z1.out
    have y4 := (hB.out.cell (p := ⟨w.heap.size, 4, none⟩) hlt0).trans Z4.out
    have y5 := (hB.out.cell (p := ⟨w.heap.size, 5, none⟩) hlt0).trans Z5.out
    clear hlt0
    by_cases hlt : j < u.length
    · have Hsn := Lib.hid (goS_snoc ⟨2, k, o, n, next, out⟩ s u j hlt)
      have Hon := Lib.hid (goO_snoc ⟨2, k, o, n, next, out⟩ s u j hlt)
      have Ht := Lib.hid ht
      clear ht
      obtain ⟨ad3, rfl, _, hc3⟩ := Hu.out.cell j hlt
      obtain ⟨x, hx⟩ : ∃ x, gI u j = x := ⟨_, rfl⟩
      have hxb := hw.at hlt
      rw [hx] at hc3 hxb
      have Hx := Lib.hid hx
      clear hx
      obtain ⟨hx1, hx2⟩ := hxb
      obtain ⟨p1, p2, p3⟩ := g.place (s := t) (x := x) ⟨ht1, ht2⟩ ⟨hx1, hx2⟩
      have p4 := g.nk
      have p5 := g.lnext
      have p6 := g.lout
      rw [if_pos rfl] at p6
      simp only at p1 p2 p3 p4 p5 p6
      have q1 : t * k + x < (next.length : Int) := by omega
      have q1' : t * k + x < (out.length : Int) := by omega
      have q2 : 0 ≤ t * k + x := by omega
      have q3 : t * k + x ≤ 65536 := by omega
      clear p2 p4 p5 p6
      obtain ⟨ad1, rfl, _, hc1⟩ := Hs1.out.cell (t * k + x).toNat (by omega)
      obtain ⟨ad2, rfl, _, hc2⟩ := Hs2.out.cell (t * k + x).toNat (by omega)
      obtain ⟨y, hy⟩ : ∃ y, gI next (t * k + x).toNat = y := ⟨_, rfl⟩
      obtain ⟨z, hz⟩ : ∃ z, gI out (t * k + x).toNat = z := ⟨_, rfl⟩
      rw [hy] at hc1
      rw [hz] at hc2
      have Hy := Lib.hid hy
      have Hz := Lib.hid hz
      clear hy hz
      have hln := goO_length ⟨2, k, o, n, next, out⟩ (u.take j) s
      have Hln : Hid ((goO ⟨2, k, o, n, next, out⟩ s (u.take j)).length ≤ 4096) := by show _ ≤ _; rw [hln, List.length_take]; omega
      clear hln
      have HBr := Lib.hid (hB.out.mono (Nat.le_of_eq Zs.out.symm))
      have hlt3 := Lib.hid (Zs.out ▸ World.block_lt_of_cell? W0 _ hc3)
      have hlt2 := Lib.hid (Zs.out ▸ World.block_lt_of_cell? W0 _ hc2)
      have hlt1 := Lib.hid (Zs.out ▸ World.block_lt_of_cell? W0 _ hc1)
      replace hc3 := (HBr.out.cell hlt3.out).trans hc3
      replace hc2 := (HBr.out.cell hlt2.out).trans hc2
      replace hc1 := (HBr.out.cell hlt1.out).trans hc1
      have hO2 : Hid ((wr.drew.alloc (.cells #[.int .i64 z] 3)).ownsRow (w.heap.size + 1) 3 1 _ _ _) := (own_below hO.out ((Below.refl _ _).drew)).alloc _
      have hnB : Hid (w.heap.size + 1 ≤ wr.heap.size) := by show _ ≤ _; have := hB.out.size; rw [Zs.out] at this; exact this
      go_wp2
      have ww1 : IntKind.i64.wrap (t * k) = t * k := IntWalk.i64_in _ (by omega)
      have ww2 : IntKind.i64.wrap (t * k + x) = t * k + x := IntWalk.i64_in _ (by omega)
      go_region_held3 (fun W => W.cell? ⟨w.heap.size, 1, none⟩ = some (.int .i64 k) ∧ W.cell? ⟨w.heap.size, 5, none⟩ = some (.slice (some ad2) out.length c2) ∧ W.cell? (ad3.add j) = some (.int .i64 x) ∧ W.cell? (ad2.add (t * k + x).toNat) = some (.int .i64 z))
        (((try dsimp only); ((repeat' apply And.intro) <;> first | assumption | (apply cell_alloc_drew; assumption))))
        (first | (refine step_append rfl (.tmp 19) (.tmp 33) 29 rfl (w.heap.size + 1) 3 (.int .i64 0) 1 8 Try.underlying29 info_int rfl (by decide) (by decide) _ _ _ rfl hO2.out (some ⟨wr.heap.size, 0, none⟩) 1 1 (ints [z]) rfl (by simp [ints]) (RV.new _ _ _ _ rfl).any (ints_one _) (by have := Hln.out; omega) (by have := hnB.out; simp; omega) ?_
                  intro v4 w4 hown4 hg4 hloc4
                  have hb4 : Below (w.heap.size + 1) wr w4 := (((Below.refl _ _).drew).alloc hnB.out _).grown hg4 (by have := hnB.out; simp; omega) (fun k hk => (hO2.out.lt k hk).1)
                  have e1 := (hb4.cell (p := ⟨w.heap.size, 1, none⟩) (Nat.lt_succ_self _)).trans y1
                  have e5 := (hb4.cell (p := ⟨w.heap.size, 5, none⟩) (Nat.lt_succ_self _)).trans y5
                  have e3 := (hb4.cell hlt3.out).trans hc3
                  have e2 := (hb4.cell hlt2.out).trans hc2
                  have e0 := (hb4.cell (p := ⟨w.heap.size, 0, none⟩) (Nat.lt_succ_self _)).trans y0
                  have e4 := (hb4.cell (p := ⟨w.heap.size, 4, none⟩) (Nat.lt_succ_self _)).trans y4
                  have ec := (hb4.cell hlt1.out).trans hc1
                  have Hown4 := Lib.hid hown4
                  have Hb4 := Lib.hid hb4
                  clear hown4 hg4 hloc4 hb4))
      clear ww1 ww2
      go_wp2
      go_quiet (fail)
      go_wp2
      go_roundw
      case rel =>
        refine ⟨j + 1, by omega, by go_num, ?_, ?_, by rw [Hsn.out]; simp only [stepM, Ht.out, Hx.out, Hy.out]⟩
        · show OI _ _ _ _
          rw [Hon.out]
          simp only [Ht.out, Hx.out, Hz.out]
          have := Hown4.out
          simp only [OI, ints_append, List.length_append, List.length_singleton]
          exact own_below this (below_drewN (Below.refl _ _) _)
        · exact below_drewN (hB.out.trans (Hb4.out.mono (Nat.le_of_eq Zs.out))) _
      case measure => simp [intOf]; omega
    · have hfin : Hid (goS ⟨2, k, o, n, next, out⟩ s u = t) := by show _ = _; rw [← ht, List.take_of_length_le (by omega)]
      clear ht
      go_wp2
      go_ret2
      refine ⟨_, by rw [hfin.out]; rfl, ?_, ?_⟩
      · have e : goOut ⟨2, k, o, n, next, out⟩ s u = goO ⟨2, k, o, n, next, out⟩ s (u.take j) := by unfold goOut; rw [if_neg (by simp), List.take_of_length_le (by omega)]
        rw [e]
        exact own_mono hO.out (Nat.le_succ _)
      · exact below_then HB0.out hB.out
end Go.Proofs.Ytoafjmfnnbpnoaa
