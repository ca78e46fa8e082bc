/-
  Arguments opened: words, lists of words, machines. Plain theorems over the rows' readings.
-/
import Derived.Test.YtoafjmfnnbpnoaaM1
import Derived.ProofKit
import Derived.OpenShut
import Derived.Deep.Matrix
import Derived.Lib.SmallJoins
set_option linter.unusedVariables false
set_option linter.unusedSimpArgs false
namespace Go.Proofs.Ytoafjmfnnbpnoaa
open Go Go.ChangeShapes Go.WideShapes Go.ChangeAt Go.RowKit

section
variable {H : Type} {enc : TypeId × Value → H} {w : World} {base b0 : Nat} {held : Bool}
theorem getD_gI (xs : List Int) (i : Nat) : xs.getD i 0 = gI xs i := rfl
theorem si_of_cells {A : Option Addr} {len cap : Nat} {zs : List Int} (hl : len ≤ cap) (hm : cap ≤ maxLen) (hz : zs.length = cap) (h : ∀ c, c < cap → ∃ a, A = some a ∧ w.cell? (a.add c) = some (.int .i64 (zs.getD c 0))) :
    SI w Any (.slice A len cap) (zs.take len) := by
  have hlen : (zs.take len).length = len := by rw [List.length_take]; omega
  refine ⟨A, cap, by rw [hlen], by omega, by unfold maxLen at hm; omega, by rw [ints_length, Nat.mul_one], fun i hi => ?_⟩
  have hi' : i < len := by rw [ints_length, hlen] at hi; exact hi
  obtain ⟨a, rfl, hc⟩ := h i (by omega)
  refine ⟨a, rfl, trivial, ?_⟩
  rw [hc]
  simp only [ints, List.getElem_map, List.getElem_take]
  rw [List.getD_eq_getElem?_getD, List.getElem?_eq_getElem (by omega)]
  rfl
theorem take_wf {zs : List Int} (h : ∀ n ∈ zs, (Lit.int .i64 n).wf = true) (len : Nat) : ∀ n ∈ zs.take len, (Lit.int .i64 n).wf = true := fun n hn => h n (List.mem_of_mem_take hn)
set_option maxRecDepth 100000 in
theorem open_si {fuel : Nat} {v : Value} {y : DataW H × List MemPlace} (h : DataW.trod enc Try.prog w base (fun _ => true) held fuel 29 [v] = some y) : ∃ xs, SI w Any v xs ∧ ∀ n ∈ xs, (Lit.int .i64 n).wf = true := by
  rcases open_ints Try.underlying29 Try.underlying3 (by kernel_rfl) h with ⟨hcs, _⟩ | ⟨a, l, c, zs, hcs, _, hl, hm, hz, _, hcell, hwz⟩
  · simp only [List.cons.injEq, and_true] at hcs
    subst hcs
    exact ⟨[], SI.nil _ _, fun n hn => by simp at hn⟩
  · simp only [List.cons.injEq, and_true] at hcs
    subst hcs
    simp only [if_true] at hz
    exact ⟨zs.take l, si_of_cells hl hm hz (fun c hc => ⟨a, rfl, hcell c (by omega)⟩), take_wf hwz l⟩
set_option maxRecDepth 100000 in
theorem open_word {v : Value} {d : DataW H} {p : List MemPlace} (hv : Value.okWide Try.prog w .any b0 29 v) (h : DataW.Trod enc Try.prog w base (fun _ => true) held 29 v d p) : ∃ xs, SI w Any v xs ∧ ∀ n ∈ xs, (Lit.int .i64 n).wf = true := by
  obtain ⟨a, l, c, rfl⟩ := okWide_slice Try.underlying29 hv
  obtain ⟨fuel, hf⟩ := h
  exact open_si hf
set_option maxRecDepth 100000 in
theorem open_list {v : Value} {d : DataW H} {p : List MemPlace} (hv : Value.okWide Try.prog w .any b0 32 v) (h : DataW.Trod enc Try.prog w base (fun _ => true) held 32 v d p) : ∃ xss, SL w Any v xss ∧ ∀ xs ∈ xss, ∀ n ∈ xs, (Lit.int .i64 n).wf = true := by
  obtain ⟨a, l, c, rfl⟩ := okWide_slice Try.underlying32 hv
  obtain ⟨fuel, hf⟩ := h
  rcases Deep.open_int_rows Try.underlying32 Try.underlying29 Try.underlying3 (by kernel_rfl) (by kernel_rfl) hf with ⟨hcs, _⟩ | ⟨a, len, cap, A, L, C, Z, hcs, _, hl, hm, _, hr⟩
  · simp [Value.cells] at hcs
    obtain ⟨rfl, rfl, rfl⟩ := hcs
    exact ⟨[], ⟨[], ⟨none, 0, rfl, by simp, by simp, rfl, fun i h => by simp at h⟩, rfl, fun i h => by simp at h⟩, fun xs hx => by simp at hx⟩
  · simp [Value.cells] at hcs
    obtain ⟨rfl, rfl, rfl⟩ := hcs
    refine ⟨(List.range l).map (fun r => (Z r).take (L r)), ⟨(List.range l).map (fun r => .slice (A r) (L r) (C r)), ⟨some a, c, by simp, by simp; exact hl, by simp; unfold maxLen at hm; omega, by simp, fun i hi => ?_⟩, by simp, fun i hi hi' => ?_⟩, ?_⟩
    · simp at hi
      refine ⟨a, rfl, trivial, ?_⟩
      rw [(hr i (by omega)).1]; simp
    · simp at hi
      obtain ⟨_, h1, h2, h3, _, h5, h6⟩ := hr i (by omega)
      have := si_of_cells (w := w) (A := A i) h1 h2 h3 (fun c' hc' => by
        cases hA : A i with
        | none => have := h5 hA; omega
        | some a' => exact ⟨a', rfl, (h6 a' hA).2 c' hc'⟩)
      simpa using this
    · intro xs hx
      simp only [List.mem_map, List.mem_range] at hx
      obtain ⟨r, hr', rfl⟩ := hx
      exact take_wf (hr r (by omega)).2.2.2.2.1 _
set_option maxRecDepth 100000 in
theorem open_mach {v : Value} {d : DataW H} {p : List MemPlace} (hv : Value.okWide Try.prog w .any b0 31 v) (h : DataW.Trod enc Try.prog w base (fun _ => true) held 31 v d p) :
    ∃ m, MachV w Any v m ∧ (Lit.int .i64 m.kind).wf = true ∧ (Lit.int .i64 m.k).wf = true ∧ (Lit.int .i64 m.o).wf = true ∧ (Lit.int .i64 m.n).wf = true ∧ (∀ n ∈ m.next, (Lit.int .i64 n).wf = true) ∧ (∀ n ∈ m.out, (Lit.int .i64 n).wf = true) := by
  obtain ⟨cs, rfl, hsz⟩ := okWide_struct Try.underlying31 hv
  obtain ⟨fuel, hf⟩ := h
  obtain ⟨xs, n, _, _, hl, hlen, hg⟩ := DataW.trod_struct Try.underlying31 hf
  have hC : Try.prog.cellsOf 31 = 6 := by kernel_rfl
  have hC3 : Try.prog.cellsOf 3 = 1 := by kernel_rfl
  have hC29 : Try.prog.cellsOf 29 = 1 := by kernel_rfl
  rw [hC] at hsz
  obtain ⟨c0, c1, c2, c3, c4, c5, rfl⟩ : ∃ c0 c1 c2 c3 c4 c5, cs = #[c0, c1, c2, c3, c4, c5] := by
    obtain ⟨l⟩ := cs
    match l, hsz with
    | [c0, c1, c2, c3, c4, c5], _ => exact ⟨c0, c1, c2, c3, c4, c5, rfl⟩
  match xs, hlen with
  | [x0, x1, x2, x3, x4, x5], _ =>
    have h0 : DataW.trod enc Try.prog w base (fun _ => true) held n 3 [c0] = some x0 := by have := hg 0 _ rfl; simpa [Value.cells, hC3] using this
    have h1 : DataW.trod enc Try.prog w base (fun _ => true) held n 3 [c1] = some x1 := by have := hg 1 _ rfl; simpa [Value.cells, hC3] using this
    have h2 : DataW.trod enc Try.prog w base (fun _ => true) held n 3 [c2] = some x2 := by have := hg 2 _ rfl; simpa [Value.cells, hC3] using this
    have h3 : DataW.trod enc Try.prog w base (fun _ => true) held n 3 [c3] = some x3 := by have := hg 3 _ rfl; simpa [Value.cells, hC3] using this
    have h4 : DataW.trod enc Try.prog w base (fun _ => true) held n 29 [c4] = some x4 := by have := hg 4 _ rfl; simpa [Value.cells, hC29] using this
    have h5 : DataW.trod enc Try.prog w base (fun _ => true) held n 29 [c5] = some x5 := by have := hg 5 _ rfl; simpa [Value.cells, hC29] using this
    obtain ⟨a0, e0, _, w0⟩ := DataW.trod_int Try.underlying3 h0
    obtain ⟨a1, e1, _, w1⟩ := DataW.trod_int Try.underlying3 h1
    obtain ⟨a2, e2, _, w2⟩ := DataW.trod_int Try.underlying3 h2
    obtain ⟨a3, e3, _, w3⟩ := DataW.trod_int Try.underlying3 h3
    simp at e0 e1 e2 e3
    subst e0 e1 e2 e3
    obtain ⟨next, hn, wn⟩ := open_si h4
    obtain ⟨out, ho, wo⟩ := open_si h5
    exact ⟨⟨a0, a1, a2, a3, next, out⟩, ⟨_, _, rfl, hn, ho⟩, w0, w1, w2, w3, wn, wo⟩
end
theorem own_ : ownKnob Try.prog.godebug = none := by kernel_rfl
theorem laidOut_ : laidOutB Try.prog = true := by kernel_rfl
end Go.Proofs.Ytoafjmfnnbpnoaa
