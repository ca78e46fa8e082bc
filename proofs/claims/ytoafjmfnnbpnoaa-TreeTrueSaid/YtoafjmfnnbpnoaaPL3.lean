/-
  The plain law of a tree that is told what one machine says: where two states part. Plain theorems.
-/
import Derived.Test.YtoafjmfnnbpnoaaPL2
set_option linter.unusedVariables false
set_option linter.unusedSimpArgs false
namespace Go.Proofs.Ytoafjmfnnbpnoaa
open Go Go.RowKit

theorem Rch.rest {all : List PB} {f : List Int → List Int} {i j n : Nat} (h : Rch all f i j n) : ∀ {k m : Nat}, Rch all f i k m → stepA all f k = none → ∃ r, Rch all f j k r := by
  induction h with
  | refl i => intro k m h2 _; exact ⟨m, h2⟩
  | cons h1 _ ih =>
    intro k m h2 h3
    cases h2 with
    | refl => rw [h1] at h3; cases h3
    | cons a b => rw [a] at h1; cases h1; exact ih b h3

section
variable {m : Mach} {c : Nat} {p : PT}
/-- Who stands under a place has come by it. -/
theorem TInv.under (h : TInv m c p) {t : Nat} (ht : t < p.access.length) : ∀ (n i : Nat), underF p.all t n i = true → ∃ k, Rch p.all (go2F m (gL p.access t)) 0 i k := by
  intro n
  induction n with
  | zero => intro i hu; simp [underF] at hu
  | succ n ih =>
    intro i hu
    cases hg : p.all[i]? with
    | none => simp [underF, hg] at hu
    | some g =>
      cases g with
      | leaf t' =>
        simp only [underF, hg, beq_iff_eq] at hu
        have e : t' = t := by omega
        subst e
        obtain ⟨l1, l2⟩ := h.leaf i t' hg
        obtain ⟨j, k, a1, a2, a3⟩ := h.acc t' ht
        rw [l2] at a1; cases a1
        exact ⟨k, a3⟩
      | node b ch =>
        rw [underF_node hg, List.any_eq_true] at hu
        obtain ⟨q, hq, hu⟩ := hu
        obtain ⟨k, hr⟩ := ih q.2 hu
        have hs := h.sane _ _ _ hg q hq
        rcases hr.last with ⟨e, _⟩ | ⟨x, m', h1, h2, _⟩
        · omega
        · obtain ⟨b', ch', h3, h4⟩ := stepA_some h2
          obtain ⟨q', hq', _, e⟩ := lookA_mem h4
          obtain rfl := h.par _ _ _ _ _ _ hg h3 q hq q' hq' e.symm
          exact ⟨m', h1⟩
theorem TInv.under_of (h : TInv m c p) {t : Nat} {f : List Int → List Int} {i j r : Nat} (hr : Rch p.all f i j r) : p.all[j]? = some (PB.leaf t) → ∀ n, p.all.length - i ≤ n → underF p.all t n i = true := by
  induction hr with
  | refl i =>
    intro hj n hn
    have hl := (List.getElem?_eq_some_iff.1 hj).1
    obtain ⟨n, rfl⟩ : ∃ k, n = k + 1 := ⟨n - 1, by omega⟩
    simp [underF, hj]
  | cons h1 _ ih =>
    intro hj n hn
    obtain ⟨y1, y2, y3, _⟩ := depth_step h.sane h1
    obtain ⟨b, ch, hb, hl⟩ := stepA_some h1
    obtain ⟨q, hq, _, rfl⟩ := lookA_mem hl
    obtain ⟨n, rfl⟩ : ∃ k, n = k + 1 := ⟨n - 1, by omega⟩
    rw [underF_node hb, List.any_eq_true]
    exact ⟨q, hq, ih hj n (by omega)⟩
theorem TInv.oneBoth (h : TInv m c p) {s u : Nat} (hs : s < p.access.length) : OneBoth p.all s u := by
  intro i b ch hg q hq q' hq' h1 h2
  simp only [bothP, underP, Bool.and_eq_true] at h1 h2
  have key : ∀ q ∈ ch, underF p.all s p.all.length q.2 = true → stepA p.all (go2F m (gL p.access s)) i = some q.2 := by
    intro q hq hu
    obtain ⟨k, hr⟩ := h.under hs _ _ hu
    have hsn := h.sane _ _ _ hg q hq
    rcases hr.last with ⟨e, _⟩ | ⟨x, m', h1, h2, _⟩
    · omega
    · obtain ⟨b', ch', h3, h4⟩ := stepA_some h2
      obtain ⟨q', hq', _, e⟩ := lookA_mem h4
      obtain rfl := h.par _ _ _ _ _ _ hg h3 q hq q' hq' e.symm
      exact h2
  have a := key q hq h1.1
  have b := key q' hq' h2.1
  rw [a] at b
  exact Option.some.inj b

theorem TInv.common (h : TInv m c p) {s u : Nat} (hs : s < p.access.length) (hu : u < p.access.length) (hsu : s ≠ u) : ∀ (n i k1 k2 : Nat), Rch p.all (go2F m (gL p.access s)) 0 i k1 → Rch p.all (go2F m (gL p.access u)) 0 i k2 → p.all.length - i ≤ n →
    ∃ (b : List Int) (x : Nat) (ch : List (List Int × Nat)), commonF p.all s u n i = some b ∧ p.all[x]? = some (PB.node b ch) ∧ go2F m (gL p.access s) b ≠ go2F m (gL p.access u) b := by
  intro n
  induction n with
  | zero =>
    intro i k1 k2 h1 _ hn
    have := h1.lt h.sane (List.length_pos_iff.2 h.ne)
    omega
  | succ n ih =>
    intro i k1 k2 h1 h2 hn
    have hi := h1.lt h.sane (List.length_pos_iff.2 h.ne)
    obtain ⟨js, ns, as1, as2, as3⟩ := h.acc s hs
    obtain ⟨ju, nu, au1, au2, au3⟩ := h.acc u hu
    obtain ⟨g, hg⟩ : ∃ g, p.all[i]? = some g := ⟨_, List.getElem?_eq_getElem hi⟩
    cases g with
    | leaf t =>
      exfalso
      obtain ⟨rfl, _⟩ := h1.det as3 (stepA_leaf hg) (stepA_leaf as2)
      obtain ⟨rfl, _⟩ := h2.det au3 (stepA_leaf hg) (stepA_leaf au2)
      rw [as2] at au2; cases au2; exact hsu rfl
    | node b ch =>
      unfold commonF
      rw [hg]
      simp only
      cases hf : ch.find? (fun q => bothP p.all s u q.2) with
      | some q =>
        simp only
        have hq := List.mem_of_find?_eq_some hf
        have hb := List.find?_some hf
        simp only [bothP, underP, Bool.and_eq_true] at hb
        obtain ⟨r1, hr1⟩ := h.under hs _ _ hb.1
        obtain ⟨r2, hr2⟩ := h.under hu _ _ hb.2
        have hsn := h.sane _ _ _ hg q hq
        exact ih q.2 r1 r2 hr1 hr2 (by omega)
      | none =>
        refine ⟨b, i, ch, rfl, hg, fun e => ?_⟩
        obtain ⟨r1, hr1⟩ := h1.rest as3 (stepA_leaf as2)
        obtain ⟨r2, hr2⟩ := h2.rest au3 (stepA_leaf au2)
        cases hr1 with
        | refl => rw [hg] at as2; cases as2
        | cons a1 b1 =>
          cases hr2 with
          | refl => rw [hg] at au2; cases au2
          | cons a2 b2 =>
            rw [stepA_node hg] at a1 a2
            rw [e, a2] at a1
            cases a1
            obtain ⟨q, hq, _, rfl⟩ := lookA_mem a2
            have hno := (List.find?_eq_none.1 hf) q hq
            apply hno
            simp only [bothP, underP, Bool.and_eq_true]
            exact ⟨h.under_of b1 as2 _ (by omega), h.under_of b2 au2 _ (by omega)⟩

theorem TInv.common_law (h : TInv m c p) {s u : Nat} (hs : s < p.access.length) (hu : u < p.access.length) (hsu : s ≠ u) :
    ∃ b, commonP p s u = (b, 0) ∧ OkW m.k b ∧ b.length ≤ 12 ∧ go2F m (gL p.access s) b ≠ go2F m (gL p.access u) b := by
  obtain ⟨b, x, ch, h1, h2, h3⟩ := h.common hs hu hsu p.all.length 0 0 0 (.refl _) (.refl _) (by omega)
  obtain ⟨x1, x2, _, _⟩ := h.nodes _ _ _ h2
  refine ⟨b, ?_, x1, x2, h3⟩
  unfold commonP
  rw [if_neg (by omega), if_neg (by omega), h1]
  rfl
theorem TInv.acc_law (h : TInv m c p) {s : Nat} (hs : s < p.access.length) : accP p s = (gL p.access s, 0) ∧ OkW m.k (gL p.access s) ∧ (gL p.access s).length ≤ 12 := by
  unfold accP
  rw [if_neg (by omega)]
  have := h.words (gL p.access s) (by rw [gL_get _ _ hs]; exact List.getElem_mem hs)
  exact ⟨by simp, this.1, this.2⟩
theorem TInv.nodes_by (h : TInv m c p) : ∀ (i : Nat) b ch, p.all[i]? = some (PB.node b ch) → b.length ≤ 4096 := fun i b ch hg => by have := (h.nodes i b ch hg).2.1; omega
theorem TInv.acc_len (h : TInv m c p) : ∀ u ∈ p.access, u.length ≤ 4096 := fun u hu => by have := (h.words u hu).2; omega
end
end Go.Proofs.Ytoafjmfnnbpnoaa
