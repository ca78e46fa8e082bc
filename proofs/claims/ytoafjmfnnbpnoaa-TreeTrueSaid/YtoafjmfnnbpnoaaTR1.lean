/-
  The tree's object in memory, as data; what here, Leaf, Count compute.
-/
import Derived.Test.YtoafjmfnnbpnoaaTR0
set_option linter.unusedVariables false
set_option linter.unusedSimpArgs false
namespace Go.Proofs.Ytoafjmfnnbpnoaa
open Go Go.RowKit

inductive PB where
  | leaf (s : Nat)
  | node (by_ : List Int) (ch : List (List Int × Nat))

/-- The tree as data. -/
structure PT where
  kind : Int
  k : Int
  o : Int
  all : List PB
  access : List (List Int)
  place : List Nat
  busy : Bool
  word : List Int
  pos : Nat

inductive GB where
  | leaf (s : Nat)
  | node (nb mb : Nat) (vby : Value) (by_ : List Int) (ch : List (List Int × Nat))
def GB.pb : GB → PB
  | .leaf s => .leaf s
  | .node _ _ _ b c => .node b c
def GB.val : GB → Value
  | .leaf s => .iface 140 (.agg #[.int .i64 s])
  | .node nb _ _ _ _ => .iface 150 (.pointer (some ⟨nb, 0, none⟩))
def GB.mb? : GB → Option Nat
  | .leaf _ => none
  | .node _ mb _ _ _ => some mb

def ents : List (List Int × Nat) → Nat → List MapEntry
  | [], _ => []
  | (a, c) :: r, i => { key := .string (keyOf a), val := .int .i64 c, born := i } :: ents r (i + 1)

def MutB (T : Nat) (vall vacc vplace : Value) (gall : List GB) (k : Nat) : Prop :=
  k = T ∨ vall.ownBlock = some k ∨ vacc.ownBlock = some k ∨ vplace.ownBlock = some k ∨ ∃ g ∈ gall, g.mb? = some k

def treeCells (p : PT) (vall vacc vplace vword : Value) : Array Value :=
  #[.int .i64 p.kind, .int .i64 p.k, .int .i64 p.o, .int .i64 0, .slice none 0 0, .slice none 0 0, vall, vacc, vplace, .bool p.busy, vword, .int .i64 p.pos]

structure NodeAt (w : World) (F RO : Nat → Prop) (T nb mb : Nat) (vby : Value) (b : List Int) (c : List (List Int × Nat)) : Prop where
  blk : w.heap[nb]? = some (.cells #[vby, .map (some mb), .pointer (some ⟨T, 0, none⟩)] 154 (0, 0))
  map : w.heap[mb]? = some (.map (ents c 0).toArray c.length)
  by_ : SI w RO vby b
  fn : F nb
  fm : F mb

structure TreeG (w : World) (F : Nat → Prop) (T : Nat) (p : PT) (vall vacc vplace vword : Value) (vaccs : List Value) (gall : List GB) : Prop where
  blk : w.heap[T]? = some (.cells (treeCells p vall vacc vplace vword) 143 (0, 0))
  all : w.ownsRow 0 165 1 vall gall.length (gall.map GB.val)
  pall : gall.map GB.pb = p.all
  acc : w.ownsRow 0 29 1 vacc vaccs.length vaccs
  accl : vaccs.length = p.access.length
  accs : ∀ i (h : i < vaccs.length), SI w (fun k => F k ∧ ¬ MutB T vall vacc vplace gall k) vaccs[i] (gL p.access i)
  place : w.ownsRow 0 3 1 vplace p.place.length (ints (p.place.map Int.ofNat))
  word : SI w (fun k => F k ∧ ¬ MutB T vall vacc vplace gall k) vword p.word
  nodes : ∀ nb mb vby b c, GB.node nb mb vby b c ∈ gall → NodeAt w F (fun k => F k ∧ ¬ MutB T vall vacc vplace gall k) T nb mb vby b c
  mbs : (gall.filterMap GB.mb?).Nodup
  fmut : ∀ k, MutB T vall vacc vplace gall k → F k
  flt : ∀ k, F k → k < w.heap.size

def TreeAt (w : World) (F : Nat → Prop) (T : Nat) (p : PT) : Prop := ∃ vall vacc vplace vword vaccs gall, TreeG w F T p vall vacc vplace vword vaccs gall

theorem own_keep {w w' : World} {B : Nat} {e : TypeId} {sz n : Nat} {v : Value} {ys : List Value} (h : w.ownsRow B e sz v n ys) (hk : ∀ k, v.ownBlock = some k → k < w.heap.size → w'.heap[k]? = w.heap[k]?) : w'.ownsRow B e sz v n ys := by
  refine ⟨h.1, ?_⟩
  rcases h.2 with h2 | ⟨g, cap, cur, hv, hb, hh, r⟩
  · exact .inl h2
  · exact .inr ⟨g, cap, cur, hv, hb, by rw [hk g (by rw [hv]; rfl) (Array.getElem?_eq_some_iff.1 hh).1]; exact hh, r⟩
theorem blk_keep {w w' : World} {b : Nat} {o : Obj} (h : w.heap[b]? = some o) (hk : b < w.heap.size → w'.heap[b]? = w.heap[b]?) : w'.heap[b]? = some o := by
  rw [hk (Array.getElem?_eq_some_iff.1 h).1, h]

/-- A world in which the tree's blocks are as they were. -/
theorem TreeG.keep {w w' : World} {F : Nat → Prop} {T : Nat} {p : PT} {vall vacc vplace vword : Value} {vaccs : List Value} {gall : List GB} (h : TreeG w F T p vall vacc vplace vword vaccs gall)
    (hk : ∀ k, F k → k < w.heap.size → w'.heap[k]? = w.heap[k]?) (hsz : w.heap.size ≤ w'.heap.size) : TreeG w' F T p vall vacc vplace vword vaccs gall where
  blk := blk_keep h.blk (hk _ (h.fmut _ (.inl rfl)))
  all := own_keep h.all fun k e => hk k (h.fmut _ (.inr (.inl e)))
  pall := h.pall
  acc := own_keep h.acc fun k e => hk k (h.fmut _ (.inr (.inr (.inl e))))
  accl := h.accl
  accs := fun i hi => (h.accs i hi).keep (fun k ho => hk k ho.1) (fun _ h _ => h)
  place := own_keep h.place fun k e => hk k (h.fmut _ (.inr (.inr (.inr (.inl e)))))
  word := h.word.keep (fun k ho => hk k ho.1) (fun _ h _ => h)
  nodes := fun nb mb vby b c hm => by
    obtain ⟨h1, h2, h3, h4, h5⟩ := h.nodes nb mb vby b c hm
    exact ⟨blk_keep h1 (hk _ h4), blk_keep h2 (hk _ h5), h3.keep (fun k ho => hk k ho.1) (fun _ h _ => h), h4, h5⟩
  mbs := h.mbs
  fmut := h.fmut
  flt := fun k hf => Nat.lt_of_lt_of_le (h.flt k hf) hsz
theorem TreeAt.keep {w w' : World} {F : Nat → Prop} {T : Nat} {p : PT} (h : TreeAt w F T p) (hk : ∀ k, F k → k < w.heap.size → w'.heap[k]? = w.heap[k]?) (hsz : w.heap.size ≤ w'.heap.size) : TreeAt w' F T p := by
  obtain ⟨a, b, c, d, e, f, h⟩ := h
  exact ⟨a, b, c, d, e, f, h.keep hk hsz⟩
theorem TreeAt.below {w w' : World} {F : Nat → Prop} {T : Nat} {p : PT} (h : TreeAt w F T p) (hb : Below w.heap.size w w') : TreeAt w' F T p := h.keep (fun k _ hk => hb.block k hk) hb.size
theorem TreeG.below {w w' : World} {F : Nat → Prop} {T : Nat} {p : PT} {vall vacc vplace vword : Value} {vaccs : List Value} {gall : List GB} (h : TreeG w F T p vall vacc vplace vword vaccs gall) (hb : Below w.heap.size w w') : TreeG w' F T p vall vacc vplace vword vaccs gall := h.keep (fun k _ hk => hb.block k hk) hb.size

/-- A cell of a row that is owned. -/
theorem own_cell {w : World} {B : Nat} {e : TypeId} {n c : Nat} {A : Option Addr} {ys : List Value} (h : w.ownsRow B e 1 (.slice A n c) n ys) (i : Nat) {v : Value} (hi : ys[i]? = some v) :
    ∃ g, A = some ⟨g, 0, none⟩ ∧ w.cell? ⟨g, i, none⟩ = some v ∧ w.frozen? ⟨g, i, none⟩ = false := by
  have hl := (List.getElem?_eq_some_iff.1 hi).1
  have h1 := h.1
  rcases h.2 with ⟨e1, rfl⟩ | ⟨g, cap, cur, e1, hb, hh, h2, h3, h4, h5⟩
  · omega
  · injection e1 with ea en ec
    subst ea ec
    have h := h
    refine ⟨g, rfl, ?_, h.frozenAt i⟩
    rw [h.cellAt i (by omega), hi]

/-! ### The cells of the tree's own block -/
section
variable {w : World} {F : Nat → Prop} {T : Nat} {p : PT} {vall vacc vplace vword : Value} {vaccs : List Value} {gall : List GB}
theorem TreeG.c0 (h : TreeG w F T p vall vacc vplace vword vaccs gall) : w.cell? ⟨T, 0, none⟩ = some (.int .i64 p.kind) := cell_of_block h.blk 0 rfl
theorem TreeG.c1 (h : TreeG w F T p vall vacc vplace vword vaccs gall) : w.cell? ⟨T, 1, none⟩ = some (.int .i64 p.k) := cell_of_block h.blk 1 rfl
theorem TreeG.c2 (h : TreeG w F T p vall vacc vplace vword vaccs gall) : w.cell? ⟨T, 2, none⟩ = some (.int .i64 p.o) := cell_of_block h.blk 2 rfl
theorem TreeG.c3 (h : TreeG w F T p vall vacc vplace vword vaccs gall) : w.cell? ⟨T, 3, none⟩ = some (.int .i64 0) := cell_of_block h.blk 3 rfl
theorem TreeG.c4 (h : TreeG w F T p vall vacc vplace vword vaccs gall) : w.cell? ⟨T, 4, none⟩ = some (.slice none 0 0) := cell_of_block h.blk 4 rfl
theorem TreeG.c5 (h : TreeG w F T p vall vacc vplace vword vaccs gall) : w.cell? ⟨T, 5, none⟩ = some (.slice none 0 0) := cell_of_block h.blk 5 rfl
theorem TreeG.c6 (h : TreeG w F T p vall vacc vplace vword vaccs gall) : w.cell? ⟨T, 6, none⟩ = some vall := cell_of_block h.blk 6 rfl
theorem TreeG.c7 (h : TreeG w F T p vall vacc vplace vword vaccs gall) : w.cell? ⟨T, 7, none⟩ = some vacc := cell_of_block h.blk 7 rfl
theorem TreeG.c8 (h : TreeG w F T p vall vacc vplace vword vaccs gall) : w.cell? ⟨T, 8, none⟩ = some vplace := cell_of_block h.blk 8 rfl
theorem TreeG.c9 (h : TreeG w F T p vall vacc vplace vword vaccs gall) : w.cell? ⟨T, 9, none⟩ = some (.bool p.busy) := cell_of_block h.blk 9 rfl
theorem TreeG.c10 (h : TreeG w F T p vall vacc vplace vword vaccs gall) : w.cell? ⟨T, 10, none⟩ = some vword := cell_of_block h.blk 10 rfl
theorem TreeG.c11 (h : TreeG w F T p vall vacc vplace vword vaccs gall) : w.cell? ⟨T, 11, none⟩ = some (.int .i64 p.pos) := cell_of_block h.blk 11 rfl
theorem TreeG.fz (h : TreeG w F T p vall vacc vplace vword vaccs gall) (i : Nat) : w.frozen? ⟨T, i, none⟩ = false := by simp [World.frozen?, h.blk]
end

theorem ta_node (a : Addr) (w : World) : (Instr.typeAssert (.iface 150 (.pointer (some a))) 165 150 true).run Try.prog w = .ok (.tuple #[.pointer (some a), .bool true]) w := by kernel_rfl
theorem ta_node_leaf (s : Int) (w : World) : (Instr.typeAssert (.iface 140 (.agg #[.int .i64 s])) 165 150 true).run Try.prog w = .ok (.tuple #[.pointer none, .bool false]) w := by kernel_rfl
theorem ta_leaf (s : Int) (w : World) : (Instr.typeAssert (.iface 140 (.agg #[.int .i64 s])) 165 140 true).run Try.prog w = .ok (.tuple #[.agg #[.int .i64 s], .bool true]) w := by kernel_rfl
theorem ta_leaf_node (a : Addr) (w : World) : (Instr.typeAssert (.iface 150 (.pointer (some a))) 165 140 true).run Try.prog w = .ok (.tuple #[.agg #[.int .i64 0], .bool false]) w := by kernel_rfl

def hereG (p : PT) (gall : List GB) : Option Addr :=
  if p.busy then match gall[p.pos]? with
    | some (.node nb _ _ _ _) => some ⟨nb, 0, none⟩
    | _ => none
  else none

theorem tree_here (w : World) (F : Nat → Prop) (T : Nat) (p : PT) (vall vacc vplace vword : Value) (vaccs : List Value) (gall : List GB) (h : TreeG w F T p vall vacc vplace vword vaccs gall) (hp : p.pos < gall.length) :
    Calls Try.prog 103 #[.pointer (some ⟨T, 0, none⟩)] w fun e w' => e = .returned (.pointer (hereG p gall)) ∧ Quiet w w' := by
  have c9 := h.c9
  have c6 := h.c6
  have c11 := h.c11
  obtain ⟨r, hr⟩ : ∃ r, hereG p gall = r := ⟨_, rfl⟩
  rw [hr]
  have Hr := Lib.hid hr
  clear hr
  obtain ⟨Aa, ca, rfl⟩ := own_slice h.all
  have hlen : gall.length ≤ 9223372036854775807 := by have := (own_reads h.all); obtain ⟨_, _, _, _, h2, _⟩ := this; exact h2
  obtain ⟨g, hg⟩ : ∃ g, gall[p.pos]? = some g := ⟨_, List.getElem?_eq_getElem hp⟩
  obtain ⟨ga, rfl, hcell, _⟩ := own_cell h.all p.pos (v := g.val) (by simp [hg])
  cases hbz : p.busy with
  | false =>
    rw [hbz] at c9
    have e : r = none := by rw [← Hr.out]; simp [hereG, hbz]
    subst e
    clear h hg Hr
    go_enter Try.func103, Try.ntmps103
    go_wp2_with fail
    go_ret
    exact ⟨rfl, Quiet.refl _⟩
  | true =>
    rw [hbz] at c9
    cases g with
    | leaf s =>
      have e : r = none := by rw [← Hr.out]; simp [hereG, hbz, hg]
      subst e
      have hta := ta_node_leaf s
      simp only [GB.val] at hcell
      clear h hg Hr hbz
      go_enter Try.func103, Try.ntmps103
      go_wp2_with fail
      go_quiet (fail)
      go_wp2_with fail
      go_ret
      exact ⟨rfl, ⟨_, rfl⟩⟩
    | node nb mb vby b c =>
      have e : r = some ⟨nb, 0, none⟩ := by rw [← Hr.out]; simp [hereG, hbz, hg]
      subst e
      have hta := ta_node ⟨nb, 0, none⟩
      simp only [GB.val] at hcell
      clear h hg Hr hbz
      go_enter Try.func103, Try.ntmps103
      go_wp2_with fail
      go_quiet (fail)
      go_wp2_with fail
      go_ret
      exact ⟨rfl, ⟨_, rfl⟩⟩
end Go.Proofs.Ytoafjmfnnbpnoaa
