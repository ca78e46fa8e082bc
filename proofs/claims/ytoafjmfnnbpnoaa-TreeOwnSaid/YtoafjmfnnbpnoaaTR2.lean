/-
  What the tree's Leaf, Count, Access, Ask compute.
-/
import Derived.Test.YtoafjmfnnbpnoaaTR1
set_option linter.unusedVariables false
set_option linter.unusedSimpArgs false
namespace Go.Proofs.Ytoafjmfnnbpnoaa
open Go Go.RowKit

theorem TreeG.lall {w : World} {F : Nat → Prop} {T : Nat} {p : PT} {vall vacc vplace vword : Value} {vaccs : List Value} {gall : List GB} (h : TreeG w F T p vall vacc vplace vword vaccs gall) : gall.length ≤ 9223372036854775807 := by
  obtain ⟨_, _, _, _, h2, _⟩ := own_reads h.all; exact h2
theorem TreeG.lacc {w : World} {F : Nat → Prop} {T : Nat} {p : PT} {vall vacc vplace vword : Value} {vaccs : List Value} {gall : List GB} (h : TreeG w F T p vall vacc vplace vword vaccs gall) : vaccs.length ≤ 9223372036854775807 := by
  obtain ⟨_, _, _, _, h2, _⟩ := own_reads h.acc; exact h2

def leafP (p : PT) : Int × Bool := if p.busy then match p.all[p.pos]? with
    | some (.leaf s) => (s, true)
    | _ => (0, false)
  else (0, false)
def LeafR (w : World) (r : Int × Bool) (e : Ending) (w' : World) : Prop := e = .returned (.tuple #[.int .i64 r.1, .bool r.2]) ∧ Below w.heap.size w w'

theorem tree_Leaf (w : World) (F : Nat → Prop) (T : Nat) (p : PT) (ht : TreeAt w F T p) (hp : p.pos < p.all.length) :
    Calls Try.prog 99 #[.pointer (some ⟨T, 0, none⟩)] w (LeafR w (leafP p)) := by
  obtain ⟨vall, vacc, vplace, vword, vaccs, gall, h⟩ := ht
  have hp' : p.pos < gall.length := by rw [← h.pall] at hp; simpa using hp
  have hlen := h.lall
  have c9 := h.c9
  have c6 := h.c6
  have c11 := h.c11
  obtain ⟨r, hr⟩ : ∃ r, leafP p = r := ⟨_, rfl⟩
  rw [hr]
  have Hr := Lib.hid hr
  clear hr
  obtain ⟨Aa, ca, rfl⟩ := own_slice h.all
  obtain ⟨g, hg⟩ : ∃ g, gall[p.pos]? = some g := ⟨_, List.getElem?_eq_getElem hp'⟩
  have hpb : p.all[p.pos]? = some g.pb := by rw [← h.pall, List.getElem?_map, hg]; rfl
  obtain ⟨ga, rfl, hcell, _⟩ := own_cell h.all p.pos (v := g.val) (by simp [hg])
  cases hbz : p.busy with
  | false =>
    rw [hbz] at c9
    have e : r = (0, false) := by rw [← Hr.out]; simp [leafP, hbz]
    subst e
    clear h hg Hr hpb
    go_enter Try.func99, Try.ntmps99
    go_wp2_with fail
    go_ret2
    exact ⟨rfl, Below.refl _ _⟩
  | true =>
    rw [hbz] at c9
    cases g with
    | leaf s =>
      have e : r = ((s : Int), true) := by rw [← Hr.out]; simp [leafP, hbz, hpb, GB.pb]
      subst e
      have hta := ta_leaf s
      simp only [GB.val] at hcell
      have x6 := fun o => cell_alloc c6 o
      have x11 := fun o => cell_alloc c11 o
      have xc := fun o => cell_alloc hcell o
      clear h hg Hr hbz hpb
      go_enter Try.func99, Try.ntmps99
      go_wp2_with fail
      go_region
      go_wp2_with fail
      go_ret2
      exact ⟨rfl, (below_alloc ..).drew⟩
    | node nb mb vby b c =>
      have e : r = (0, false) := by rw [← Hr.out]; simp [leafP, hbz, hpb, GB.pb]
      subst e
      have hta := ta_leaf_node ⟨nb, 0, none⟩
      simp only [GB.val] at hcell
      have x6 := fun o => cell_alloc c6 o
      have x11 := fun o => cell_alloc c11 o
      have xc := fun o => cell_alloc hcell o
      clear h hg Hr hbz hpb
      go_enter Try.func99, Try.ntmps99
      go_wp2_with fail
      go_region
      go_wp2_with fail
      go_ret2
      exact ⟨rfl, (below_alloc ..).drew⟩

theorem tree_Count (w : World) (F : Nat → Prop) (T : Nat) (p : PT) (ht : TreeAt w F T p) :
    Calls Try.prog 41 #[.pointer (some ⟨T, 0, none⟩)] w fun e w' => e = .returned (.int .i64 p.access.length) ∧ w = w' := by
  obtain ⟨vall, vacc, vplace, vword, vaccs, gall, h⟩ := ht
  have c7 := h.c7
  have Hl := Lib.hid h.accl
  obtain ⟨Aa, ca, rfl⟩ := own_slice h.acc
  clear h
  go_enter Try.func41, Try.ntmps41
  go_wp2_with fail
  go_ret
  exact ⟨ret_int (by rw [Hl.out]), rfl⟩

/-- What Access answers. -/
def accP (p : PT) (s : Int) : List Int × Int := if s < 0 ∨ s ≥ p.access.length then ([], 32) else (gL p.access s.toNat, 0)
def WordR (w : World) (r : List Int × Int) (e : Ending) (w' : World) : Prop := ∃ v, e = .returned (.tuple #[v, .int .i64 r.2]) ∧ OI w' w.heap.size v r.1 ∧ Below w.heap.size w w'

theorem tree_Access (w : World) (F : Nat → Prop) (T : Nat) (p : PT) (s : Int) (ht : TreeAt w F T p) (hb : ∀ u ∈ p.access, u.length ≤ 4096) :
    Calls Try.prog 31 #[.pointer (some ⟨T, 0, none⟩), .int .i64 s] w (WordR w (accP p s)) := by
  obtain ⟨vall, vacc, vplace, vword, vaccs, gall, h⟩ := ht
  have c7 := h.c7
  have hl := h.accl
  have hla := h.lacc
  obtain ⟨r, hr⟩ : ∃ r, accP p s = r := ⟨_, rfl⟩
  rw [hr]
  have Hr := Lib.hid hr
  clear hr
  obtain ⟨Aa, ca, rfl⟩ := own_slice h.acc
  by_cases h1 : s < 0
  · have e : r = ([], 32) := by rw [← Hr.out]; unfold accP; rw [if_pos (Or.inl h1)]
    subst e
    clear h hl Hr hb
    go_enter Try.func31, Try.ntmps31
    go_wp2_with fail
    go_ret2
    exact ⟨_, rfl, World.ownsRow_nil .., Below.refl _ _⟩
  · by_cases h2 : s ≥ vaccs.length
    · have e : r = ([], 32) := by rw [← Hr.out]; unfold accP; rw [if_pos (Or.inr (by omega))]
      subst e
      clear h hl Hr hb
      go_enter Try.func31, Try.ntmps31
      go_wp2_with fail
      go_ret2
      exact ⟨_, rfl, World.ownsRow_nil .., Below.refl _ _⟩
    · have e : r = (gL p.access s.toNat, 0) := by rw [← Hr.out]; unfold accP; rw [if_neg (by omega)]
      subst e
      have hlt : s.toNat < vaccs.length := by omega
      obtain ⟨ga, rfl, hcell, _⟩ := own_cell h.acc s.toNat (v := vaccs[s.toNat]) (List.getElem?_eq_getElem hlt)
      have hsi := h.accs s.toNat hlt
      have hlen : (gL p.access s.toNat).length ≤ 4096 := hb _ (by rw [gL_get _ _ (by omega)]; exact List.getElem_mem _)
      obtain ⟨u, hu⟩ : ∃ u, gL p.access s.toNat = u := ⟨_, rfl⟩
      rw [hu] at hsi hlen ⊢
      obtain ⟨A4, c4, e4, _⟩ := hsi.open
      rw [e4] at hsi hcell
      have Hsi := Lib.hid hsi
      clear h hl Hr hb hsi e4 hu
      go_enter Try.func31, Try.ntmps31
      go_wp2_with fail
      refine (slices_Clone _ u _ _ Hsi.out (by omega)).mono ?_
      rintro e w1 ⟨v1, rfl, ho, hb1⟩
      have H1 : Hid (OI w1 w.heap.size v1 u ∧ Below w.heap.size w w1) := ⟨ho, hb1⟩
      clear ho hb1
      go_wp2_with fail
      go_ret2
      exact ⟨_, rfl, H1.out⟩
end Go.Proofs.Ytoafjmfnnbpnoaa
