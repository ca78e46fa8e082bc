/-
  What the reference's M.Go, M.Go2, M.From, M.Run compute.
-/
import Derived.Test.YtoafjmfnnbpnoaaM3
set_option linter.unusedVariables false
set_option linter.unusedSimpArgs false
namespace Go.Proofs.Ytoafjmfnnbpnoaa
open Go Go.RowKit

theorem M_Go (v vu : Value) (m : Mach) (u : List Int) (s : Int) (w : World) (ok ok3 : Nat → Prop)
    (h : MachV w ok v m) (hu : SI w ok3 vu u) (g : Good m) (hw : OkW m.k u) (hs : 0 ≤ s ∧ s < m.n) (hum : u.length ≤ 4096) :
    Calls Try.prog 43 #[v, .int .i64 s, vu] w (GoP w m s u) := by
  obtain ⟨A1, c1, A2, c2, rfl, hs1, hs2, _, _, hm1, hm2⟩ := h.open
  obtain ⟨A3, c3, rfl, _, hm3⟩ := hu.open
  obtain ⟨kind, k, o, n, next, out⟩ := m
  simp only at *
  rcases g.kind with e | e
  · simp only at e; subst e
    obtain rfl := g.o2 rfl
    exact M_Go_dfa A1 A2 A3 c1 c2 c3 k n next out u s w ok ok3 hs1 hs2 hu g hw hs hm3
  · simp only at e; subst e
    exact M_Go_mealy A1 A2 A3 c1 c2 c3 k o n next out u s w ok ok3 hs1 hs2 hu g hw hs hum

/-- What a right machine says at the end of a word with another one behind it. -/
def go2F (m : Mach) (u e : List Int) : List Int := goOut m (goS m 0 u) e

abbrev machObj (m : Mach) (A1 A2 : Option Addr) (c1 c2 : Nat) : Obj := .cells #[.int .i64 m.kind, .int .i64 m.k, .int .i64 m.o, .int .i64 m.n, .slice A1 m.next.length c1, .slice A2 m.out.length c2] 31

/-- The machine that a function boxes, read again behind it. -/
theorem box_machine {w : World} {ok : Nat → Prop} {kind k o n : Int} {next out : List Int} {A1 A2 : Option Addr} {c1 c2 : Nat} :
    (w.alloc (.cells #[.int .i64 kind, .int .i64 k, .int .i64 o, .int .i64 n, .slice A1 next.length c1, .slice A2 out.length c2] 31)).cell? ⟨w.heap.size, 0, none⟩ = some (.int .i64 kind) ∧
    (w.alloc (.cells #[.int .i64 kind, .int .i64 k, .int .i64 o, .int .i64 n, .slice A1 next.length c1, .slice A2 out.length c2] 31)).cell? ⟨w.heap.size, 1, none⟩ = some (.int .i64 k) ∧
    (w.alloc (.cells #[.int .i64 kind, .int .i64 k, .int .i64 o, .int .i64 n, .slice A1 next.length c1, .slice A2 out.length c2] 31)).cell? ⟨w.heap.size, 2, none⟩ = some (.int .i64 o) ∧
    (w.alloc (.cells #[.int .i64 kind, .int .i64 k, .int .i64 o, .int .i64 n, .slice A1 next.length c1, .slice A2 out.length c2] 31)).cell? ⟨w.heap.size, 3, none⟩ = some (.int .i64 n) ∧
    (w.alloc (.cells #[.int .i64 kind, .int .i64 k, .int .i64 o, .int .i64 n, .slice A1 next.length c1, .slice A2 out.length c2] 31)).cell? ⟨w.heap.size, 4, none⟩ = some (.slice A1 next.length c1) ∧
    (w.alloc (.cells #[.int .i64 kind, .int .i64 k, .int .i64 o, .int .i64 n, .slice A1 next.length c1, .slice A2 out.length c2] 31)).cell? ⟨w.heap.size, 5, none⟩ = some (.slice A2 out.length c2) := by
  refine ⟨?_, ?_, ?_, ?_, ?_, ?_⟩ <;> (simp only [World.cell?, heap_alloc_new]; rfl)

set_option maxRecDepth 20000 in
theorem M_Go2 (v vu ve : Value) (m : Mach) (u e : List Int) (w : World) (ok ok3 ok4 : Nat → Prop)
    (h : MachV w ok v m) (hu : SI w ok3 vu u) (he : SI w ok4 ve e) (g : Good m) (hw : OkW m.k u) (hwe : OkW m.k e) (hum : u.length ≤ 4096) (hem : e.length ≤ 4096) :
    Calls Try.prog 42 #[v, vu, ve] w fun x w' => ∃ v', x = .returned v' ∧ OI w' w.heap.size v' (go2F m u e) ∧ Below w.heap.size w w' := by
  have hG := fun v vu u s w ok ok3 h hu hw hs hum => Lib.hid (M_Go v vu m u s w ok ok3 h hu g hw hs hum)
  have hn := g.n1
  have hgs := g.goS hw (s := 0) ⟨by omega, by omega⟩
  have Hh := Lib.hid h; have Hu := Lib.hid hu; have He := Lib.hid he; have Hw := Lib.hid hw; have Hwe := Lib.hid hwe; have Hn := Lib.hid hn; have Hgs := Lib.hid hgs
  obtain ⟨A1, c1, A2, c2, rfl, hs1, hs2, _, _, hm1, hm2⟩ := h.open
  obtain ⟨Au, cu, rfl, _, _⟩ := hu.open
  obtain ⟨Ae, ce, rfl, _, _⟩ := he.open
  have hB := below_alloc w (machObj m A1 A2 c1 c2)
  obtain ⟨b0, b1, b2, b3, b4, b5⟩ := @box_machine w ok m.kind m.k m.o m.n m.next m.out A1 A2 c1 c2
  have Hb := Lib.hid hB
  have Hbox := Lib.hid (And.intro b0 (And.intro b1 (And.intro b2 (And.intro b3 (And.intro b4 b5)))))
  clear h hu he hw hwe hn hgs hs1 hs2 hB g b0 b1 b2 b3 b4 b5
  go_enter Try.func42, Try.ntmps42
  go_wp2_with fail
  refine (hG _ _ u 0 _ ok ok3 (Hh.out.below Hb.out) (Hu.out.below Hb.out) Hw.out ⟨by omega, by have := Hn.out; omega⟩ hum).out.mono ?_
  rintro x w1 ⟨v1, rfl, ho1, hb1⟩
  have Hb1 := Lib.hid (below_then Hb.out hb1)
  have hlt : w.heap.size < (w.alloc (machObj m A1 A2 c1 c2)).heap.size := by simp
  have z0 := (hb1.cell (p := ⟨w.heap.size, 0, none⟩) hlt).trans Hbox.out.1
  have z1 := (hb1.cell (p := ⟨w.heap.size, 1, none⟩) hlt).trans Hbox.out.2.1
  have z2 := (hb1.cell (p := ⟨w.heap.size, 2, none⟩) hlt).trans Hbox.out.2.2.1
  have z3 := (hb1.cell (p := ⟨w.heap.size, 3, none⟩) hlt).trans Hbox.out.2.2.2.1
  have z4 := (hb1.cell (p := ⟨w.heap.size, 4, none⟩) hlt).trans Hbox.out.2.2.2.2.1
  have z5 := (hb1.cell (p := ⟨w.heap.size, 5, none⟩) hlt).trans Hbox.out.2.2.2.2.2
  clear hlt hb1 ho1
  go_wp2_with fail
  refine (hG _ _ e (goS m 0 u) _ ok ok4 (Hh.out.below Hb1.out) (He.out.below Hb1.out) Hwe.out Hgs.out hem).out.mono ?_
  rintro x w2 ⟨v2, rfl, ho2, hb2⟩
  have H2 : Hid (OI w2 w.heap.size v2 (go2F m u e) ∧ Below w.heap.size w w2) := ⟨own_mono ho2 Hb1.out.size, below_then Hb1.out hb2⟩
  clear ho2 hb2
  go_wp2
  go_ret
  exact ⟨_, rfl, H2.out.1, H2.out.2⟩

theorem checkF_ok (u : List Int) (k : Int) : (checkF u k).2 = 0 ↔ (1 ≤ k ∧ k ≤ 64) ∧ u.length ≤ 4096 ∧ OkW k u := by
  unfold checkF
  constructor
  · intro h
    by_cases h1 : 1 ≤ k ∧ k ≤ 64
    · rw [if_neg (by simpa using h1)] at h
      by_cases h2 : u.length > 4096
      · rw [if_pos h2] at h; simp at h
      · rw [if_neg h2] at h
        cases h3 : badAt k u 0 with
        | some i => rw [h3] at h; simp at h
        | none => exact ⟨h1, by omega, badAt_none _ _ _ h3⟩
    · rw [if_pos h1] at h; simp at h
  · rintro ⟨h1, h2, h3⟩
    rw [if_neg (by simpa using h1), if_neg (by omega), badAt_of_ok _ _ _ h3]

def fromF (m : Mach) (s : Int) (u : List Int) : Int × List Int × Int :=
  if (mcheckF m).2 ≠ 0 then (0, [], (mcheckF m).2) else if s < 0 ∨ s ≥ m.n then (0, [], 32) else if (checkF u m.k).2 ≠ 0 then (0, [], (checkF u m.k).2) else (goS m s u, goOut m s u, 0)
def FromP (w : World) (m : Mach) (s : Int) (u : List Int) (e : Ending) (w' : World) : Prop :=
  ∃ v', e = .returned (.tuple #[.int .i64 (fromF m s u).1, v', .int .i64 (fromF m s u).2.2]) ∧ OI w' w.heap.size v' (fromF m s u).2.1 ∧ Below w.heap.size w w'
def runF (m : Mach) (u : List Int) : List Int × Int := (fromF m 0 u).2
def RunP (w : World) (m : Mach) (u : List Int) (e : Ending) (w' : World) : Prop :=
  ∃ v', e = .returned (.tuple #[v', .int .i64 (runF m u).2]) ∧ OI w' w.heap.size v' (runF m u).1 ∧ Below w.heap.size w w'
end Go.Proofs.Ytoafjmfnnbpnoaa
