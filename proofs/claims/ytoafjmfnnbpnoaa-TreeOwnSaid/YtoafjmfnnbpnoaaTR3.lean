/-
  What the tree's Ask computes.
-/
import Derived.Test.YtoafjmfnnbpnoaaTR2
set_option linter.unusedVariables false
set_option linter.unusedSimpArgs false
namespace Go.Proofs.Ytoafjmfnnbpnoaa
open Go Go.RowKit

theorem SL_pair (W : World) (v1 v2 : Value) (xs ys : List Int) (ok1 ok2 : Nat → Prop) (h1 : SI W ok1 v1 xs) (h2 : SI W ok2 v2 ys) (e : TypeId) :
    SL (W.alloc (.cells #[v1, v2] e)) Any (.slice (some ⟨W.heap.size, 0, none⟩) 2 2) [xs, ys] := by
  refine ⟨[v1, v2], ⟨_, _, rfl, Nat.le_refl _, by simp, by simp, (RV.new _ _ _ _ rfl).any⟩, rfl, fun i hi hi' => ?_⟩
  match i, hi, hi' with
  | 0, _, _ => exact (h1.below (below_alloc ..)).any
  | 1, _, _ => exact (h2.below (below_alloc ..)).any

theorem SI.drewN {w : World} {ok : Nat → Prop} {v : Value} {xs : List Int} (h : SI w ok v xs) (n : Nat) : SI (w.drewN n) ok v xs := h.below (below_drewN (Below.refl _ _) n)
def hereP (p : PT) : Option (List Int × List (List Int × Nat)) :=
  if p.busy then match p.all[p.pos]? with
    | some (.node b c) => some (b, c)
    | _ => none
  else none
def askP (p : PT) : List Int × Bool := match hereP p with
  | some (b, _) => (p.word ++ b, true)
  | none => ([], false)
def AskR (w : World) (r : List Int × Bool) (e : Ending) (w' : World) : Prop := ∃ v, e = .returned (.tuple #[v, .bool r.2]) ∧ OI w' w.heap.size v r.1 ∧ Below w.heap.size w w'

theorem hereG_none {w : World} {F : Nat → Prop} {T : Nat} {p : PT} {vall vacc vplace vword : Value} {vaccs : List Value} {gall : List GB} (h : TreeG w F T p vall vacc vplace vword vaccs gall) (e : hereG p gall = none) : hereP p = none := by
  unfold hereG at e; unfold hereP
  cases hb : p.busy with
  | false => rfl
  | true =>
    rw [hb] at e
    simp only [if_true] at e ⊢
    rw [← h.pall, List.getElem?_map]
    cases hg : gall[p.pos]? with
    | none => rfl
    | some g =>
      cases g with
      | leaf s => rfl
      | node nb mb vby b c => rw [hg] at e; cases e
theorem hereG_some {w : World} {F : Nat → Prop} {T : Nat} {p : PT} {vall vacc vplace vword : Value} {vaccs : List Value} {gall : List GB} (h : TreeG w F T p vall vacc vplace vword vaccs gall) {a : Addr} (e : hereG p gall = some a) :
    ∃ nb mb vby b c, a = ⟨nb, 0, none⟩ ∧ gall[p.pos]? = some (.node nb mb vby b c) ∧ GB.node nb mb vby b c ∈ gall ∧ hereP p = some (b, c) ∧ p.busy = true := by
  unfold hereG at e; unfold hereP
  cases hb : p.busy with
  | false => rw [hb] at e; cases e
  | true =>
    rw [hb] at e
    simp only [if_true] at e ⊢
    cases hg : gall[p.pos]? with
    | none => rw [hg] at e; cases e
    | some g =>
      cases g with
      | leaf s => rw [hg] at e; cases e
      | node nb mb vby b c =>
        rw [hg] at e
        injection e with e
        refine ⟨nb, mb, vby, b, c, e.symm, rfl, List.mem_of_getElem? hg, ?_, trivial⟩
        rw [← h.pall, List.getElem?_map, hg]; rfl

set_option maxRecDepth 20000 in
theorem tree_Ask (w : World) (F : Nat → Prop) (T : Nat) (p : PT) (ht : TreeAt w F T p) (hp : p.pos < p.all.length) (hw : p.word.length ≤ 4096) (hby : ∀ b c, hereP p = some (b, c) → b.length ≤ 4096) :
    Calls Try.prog 98 #[.pointer (some ⟨T, 0, none⟩)] w (AskR w (askP p)) := by
  obtain ⟨vall, vacc, vplace, vword, vaccs, gall, h⟩ := ht
  have hp' : p.pos < gall.length := by rw [← h.pall] at hp; simpa using hp
  have Hh := Lib.hid (tree_here w F T p vall vacc vplace vword vaccs gall h hp')
  have c10 := h.c10
  obtain ⟨r, hr⟩ : ∃ r, askP p = r := ⟨_, rfl⟩
  rw [hr]
  have Hr := Lib.hid hr
  clear hr
  have Hword := Lib.hid h.word
  obtain ⟨Aw, cw, e, _⟩ := h.word.open
  subst e
  cases hg : hereG p gall with
  | none =>
    have e : r = ([], false) := by rw [← Hr.out]; unfold askP; rw [hereG_none h hg]
    subst e
    have Hg := Lib.hid hg
    clear h Hr hg hby
    go_enter Try.func98, Try.ntmps98
    go_wp2_with fail
    refine Hh.out.mono ?_
    rintro e w1 ⟨he, ⟨nq, rfl⟩⟩
    rw [Hg.out] at he
    subst he
    go_wp2_with fail
    go_ret2
    exact ⟨_, rfl, World.ownsRow_nil .., below_drewN (Below.refl _ _) _⟩
  | some a =>
    obtain ⟨nb, mb, vby, b, c, rfl, hgi, hmem, hhere, hbz⟩ := hereG_some h hg
    have hbl := hby b c hhere
    have e : r = (p.word ++ b, true) := by rw [← Hr.out]; unfold askP; rw [hhere]
    subst e
    obtain ⟨n1, n2, n3, n4, n5⟩ := h.nodes nb mb vby b c hmem
    have d0 := cell_of_block n1 0 rfl
    have Hby := Lib.hid n3
    obtain ⟨Ab, cb, e, _⟩ := n3.open
    subst e
    have Hg := Lib.hid hg
    have Hlen : Hid ((([p.word, b] : List (List Int)).map List.length).sum ≤ 17592186044415) := by show _ ≤ _; simp; omega
    clear h Hr hg hby hgi hmem hhere hbz n1 n2 n3 n4 n5
    go_enter Try.func98, Try.ntmps98
    go_wp2_with fail
    refine Hh.out.mono ?_
    rintro e w1 ⟨he, ⟨nq, rfl⟩⟩
    rw [Hg.out] at he
    subst he
    go_wp2_with fail
    go_region_held3 (fun W => W.cell? ⟨T, 10, none⟩ = some (.slice Aw p.word.length cw) ∧ W.cell? ⟨nb, 0, none⟩ = some (.slice Ab b.length cb))
      (((try dsimp only); ((repeat' apply And.intro) <;> first | assumption | (apply cell_alloc; assumption) | (apply cell_alloc_drew; assumption))))
      (first | (go_at_call 124
                refine (word_Join _ [p.word, b] _ Any (SL_pair (w.drewN (nq + 1)) (.slice Aw p.word.length cw) (.slice Ab b.length cb) p.word b _ _ (Hword.out.drewN _) (Hby.out.drewN _) 29) Hlen.out).mono ?_
                rintro e w2 ⟨v2, rfl, ho, hbw⟩
                have k1 := (hbw.cell (World.block_lt_of_cell? _ _ (cell_alloc (W := w.drewN (nq + 1)) c10 (.cells #[.slice Aw p.word.length cw, .slice Ab b.length cb] 29)))).trans (cell_alloc (W := w.drewN (nq + 1)) c10 _)
                have k2 := (hbw.cell (World.block_lt_of_cell? _ _ (cell_alloc (W := w.drewN (nq + 1)) d0 (.cells #[.slice Aw p.word.length cw, .slice Ab b.length cb] 29)))).trans (cell_alloc (W := w.drewN (nq + 1)) d0 _)
                have hB : Below w.heap.size w w2 := below_then (below_then (below_drewN (Below.refl _ _) (nq + 1)) (below_alloc ..)) hbw
                have H2 : Hid (OI w2 w.heap.size v2 (p.word ++ b) ∧ Below w.heap.size w w2) := ⟨by have := own_mono ho (B' := w.heap.size) (by simp); simpa [OI] using this, hB⟩
                clear ho hbw hB))
    go_wp2_with fail
    go_ret2
    exact ⟨_, rfl, H2.out⟩
end Go.Proofs.Ytoafjmfnnbpnoaa
