/-
  What the tree's Tell computes.
-/
import Derived.Test.YtoafjmfnnbpnoaaTR9
import Derived.DataElems
set_option linter.unusedVariables false
set_option linter.unusedSimpArgs false
namespace Go.Proofs.Ytoafjmfnnbpnoaa
open Go Go.RowKit

/-- What is said at the node. -/
def ansP (p : PT) (b out : List Int) : List Int := if p.kind = 2 then out.drop (out.length - b.length) else out
def addP (p : PT) (b : List Int) (ch : List (List Int × Nat)) (a : List Int) : PT :=
  { p with access := p.access ++ [p.word], place := p.place ++ [p.all.length], all := (p.all ++ [PB.leaf p.access.length]).set p.pos (PB.node b (ch ++ [(a, p.all.length)])), pos := p.all.length }
def tellP (p : PT) (out : List Int) : PT × Int := match hereP p with
  | none => (p, 7)
  | some (b, ch) =>
    if saidF p.kind p.o (p.word ++ b).length out = false then (p, 100) else
    match lookA ch (ansP p b out) with
    | some c => ({ p with pos := c }, 0)
    | none => if p.access.length = 1024 then (p, 3) else (addP p b ch (ansP p b out), 0)

theorem saidF_ok {kind o : Int} {n : Nat} {out : List Int} (h : saidF kind o n out = true) (ho : o ≤ 64) : (∀ x ∈ out, 0 ≤ x ∧ x < 64) ∧ (kind = 1 → out.length = 1) ∧ (kind ≠ 1 → kind = 2 ∧ out.length = n) := by
  unfold saidF at h
  by_cases h1 : kind = 1
  · rw [if_pos h1] at h
    simp only [Bool.and_eq_true, beq_iff_eq, Bool.not_eq_true', List.any_eq_false, decide_eq_true_eq] at h
    exact ⟨fun x hx => by have := h.2 x hx; omega, fun _ => h.1, fun e => absurd h1 e⟩
  · rw [if_neg h1] at h
    by_cases h2 : kind = 2
    · rw [if_pos h2] at h
      simp only [Bool.and_eq_true, beq_iff_eq, Bool.not_eq_true', List.any_eq_false, decide_eq_true_eq] at h
      exact ⟨fun x hx => by have := h.2 x hx; omega, fun e => absurd e h1, fun _ => ⟨h2, h.1⟩⟩
    · rw [if_neg h2] at h; cases h

theorem SI.drop {w : World} {ok : Nat → Prop} {ad : Addr} {n c : Nat} {xs : List Int} (h : SI w ok (.slice (some ad) n c) xs) (k : Nat) (hk : k ≤ xs.length) :
    SI w ok (.slice (some (ad.add k)) (xs.length - k) (c - k)) (xs.drop k) := by
  obtain ⟨A', c', e, h1, h2, h3, hr⟩ := h
  injection e with e1 e2 e3
  subst e3
  refine ⟨some (ad.add k), c - k, by rw [List.length_drop], by rw [List.length_drop]; omega, by rw [List.length_drop]; omega, by simp [ints], fun i hi => ?_⟩
  have hi' : i < xs.length - k := by simpa [ints] using hi
  obtain ⟨ad', e, ho, hc⟩ := hr (k + i) (by simp [ints]; omega)
  rw [← e1] at e
  injection e with e
  subst e
  have hblk : (ad.add k).block = ad.block := by unfold Addr.add; split <;> rfl
  refine ⟨_, rfl, by rw [hblk]; exact ho, ?_⟩
  have hadd : (ad.add k).add i = ad.add (k + i) := Addr.add_add ..
  rw [hadd, hc]
  simp [ints]

structure TellPre (p : PT) : Prop where
  pos : p.pos < p.all.length
  word : p.word.length ≤ 4096
  by_ : ∀ b c, hereP p = some (b, c) → b.length ≤ 4096 ∧ (p.kind = 2 → b ≠ []) ∧ ∀ q ∈ c, OkB q.1
  acc : p.access.length ≤ 90000
  place : p.place.length ≤ 90000
  all : p.all.length ≤ 90000
  o : p.o ≤ 64
  kind : p.kind = 1 ∨ p.kind = 2

set_option maxRecDepth 20000 in
set_option maxHeartbeats 4000000 in
theorem tree_Tell1 (w : World) (F : Nat → Prop) (T : Nat) (p : PT) (v : Value) (out : List Int) (ok : Nat → Prop) (ht : TreeAt w F T p) (hu : SI w ok v out) (hpre : TellPre p)
    (b : List Int) (ch : List (List Int × Nat)) (hhere : hereP p = some (b, ch)) (hsaid : saidF p.kind p.o (p.word ++ b).length out = true) (hkind : p.kind = 2) :
    Calls Try.prog 25 #[.pointer (some ⟨T, 0, none⟩), v] w (StepR w F T (tellP p out)) := by
  obtain ⟨gall, hta⟩ := ht.ghost
  obtain ⟨vall, vacc, vplace, vword, vaccs, h⟩ := hta
  obtain ⟨hpos, hword, hby, hacc, hplace, hall, ho64, hk⟩ := hpre
  have HAsk := Lib.hid (tree_Ask w F T p ht hpos hword (fun b c e => (hby b c e).1))
  obtain ⟨hb1, hb2, hb3⟩ := hby b ch hhere
  have HH := Lib.hid h
  have Hask : Hid (askP p = (p.word ++ b, true)) := by show _ = _; unfold askP; rw [hhere]
  have hp' : p.pos < gall.length := by rw [← h.pall] at hpos; simpa using hpos
  obtain ⟨a, hga⟩ : ∃ a, hereG p gall = some a := by
    cases e : hereG p gall with
    | none => rw [hereG_none h e] at hhere; cases hhere
    | some a => exact ⟨a, rfl⟩
  obtain ⟨nb, mb, vby, b', ch', rfl, hgi, hmem, hhere', hbz⟩ := hereG_some h hga
  rw [hhere] at hhere'
  injection hhere' with hhere'
  injection hhere' with e1 e2
  subst e1 e2
  obtain ⟨hs1, hs2, hs3⟩ := saidF_ok hsaid ho64
  obtain ⟨_, hlen⟩ := hs3 (by omega)
  rw [List.length_append] at hlen
  have hb2' := hb2 hkind
  have hbpos : 0 < b.length := by cases b with | nil => exact absurd rfl hb2' | cons x r => simp
  have Hu := Lib.hid hu
  obtain ⟨A, c, rfl, hcap, _⟩ := hu.open
  obtain ⟨ad, rfl⟩ : ∃ ad, A = some ad := by
    obtain ⟨ad, e, _⟩ := hu.cell 0 (by omega)
    exact ⟨ad, e⟩
  have hsaid2 := hsaid
  rw [hkind, List.length_append] at hsaid2
  have Hsaid := Lib.hid hsaid2
  have Hga := Lib.hid hga
  have Hgi := Lib.hid hgi
  have Hmem := Lib.hid hmem
  have Hkind := Lib.hid hkind
  have Hlen := Lib.hid hlen
  have Hhere := Lib.hid hhere
  have Hp' := Lib.hid hp'
  have HaB : Hid (OkB (out.drop (out.length - b.length))) := fun x hx => by have := hs1 x (List.mem_of_mem_drop hx); omega
  have Hans : Hid (ansP p b out = out.drop (out.length - b.length)) := by show _ = _; unfold ansP; rw [if_pos hkind]
  have Hb3 := Lib.hid hb3
  have Hsaid0 := Lib.hid hsaid
  have hA1 : b.length ≤ out.length := by omega
  have hA2 : out.length - b.length < c := by omega
  have hA3 : (0 : Int) ≤ (out.length : Int) - b.length := by omega
  have hA4 : (out.length : Int) - b.length ≤ out.length := by omega
  have hA5 : out.length - b.length ≠ c := by omega
  have hA6 : out.length - b.length ≤ out.length := by omega
  clear hb3 hu hsaid hsaid2 hga hgi hmem hkind h ht hlen hhere hbz hs1 hs2 hs3 hby hk hp' hpos
  go_enter Try.func25, Try.ntmps25
  go_wp2_with fail
  refine HAsk.out.mono ?_
  rintro e w1 ⟨v1, he, ho1, hbl1⟩
  rw [Hask.out] at he ho1
  subst he
  obtain ⟨A1, c1, rfl⟩ := own_slice ho1
  have h1 := HH.out.below hbl1
  have H1 := Lib.hid h1
  have d0 := h1.c0
  have d1 := h1.c1
  have d2 := h1.c2
  have d3 := h1.c3
  have d4 := h1.c4
  have d5 := h1.c5
  have Hb1 := Lib.hid hbl1
  clear hbl1 ho1 h1
  go_wp2_with fail
  refine (teach_Check _ _ _ _ _ _ _ _ _ _ _ _ _ _ out _ ok (Hu.out.below Hb1.out)).mono ?_
  rintro e w2 ⟨he, hbl2⟩
  rw [Hsaid.out] at he
  simp only [if_true] at he
  subst he
  have h2 := H1.out.below hbl2
  have H2 := Lib.hid h2
  have Hb2 := Lib.hid (below_then Hb1.out hbl2)
  have e0 := h2.c0
  rw [Hkind.out] at e0
  obtain ⟨n1, n2, n3, n4, n5⟩ := h2.nodes _ _ _ _ _ Hmem.out
  have y0 := cell_of_block n1 0 rfl
  have y1 := cell_of_block n1 1 rfl
  obtain ⟨Ab, cb, e, _⟩ := n3.open
  subst e
  clear hbl2 d0 d1 d2 d3 d4 d5 n1 n2 n3 n4 n5 h2
  go_wp2_with fail
  refine (tree_here _ F T p vall vacc vplace vword vaccs gall H2.out Hp'.out).mono ?_
  rintro e w2' ⟨he, ⟨nq, rfl⟩⟩
  rw [Hga.out] at he
  subst he
  go_wp2_with fail
  have hbq : Below w.heap.size w (w2.drewN nq) := below_then Hb2.out (below_drewN (Below.refl _ _) nq)
  have hsd := (Hu.out.below hbq).drop (out.length - b.length) hA6
  refine (tree_spell _ (out.drop (out.length - b.length)) _ ok hsd (by rw [List.length_drop]; omega)).mono ?_
  rintro e w3 ⟨rfl, hbl3⟩
  have hb23 := below_then (below_drewN (Below.refl w2.heap.size w2) nq) hbl3
  have h3 := H2.out.below hb23
  have Hb3' := Lib.hid (below_then hbq hbl3)
  have H3 := Lib.hid h3
  obtain ⟨n1, n2, n3, n4, n5⟩ := h3.nodes _ _ _ _ _ Hmem.out
  have y1 := cell_of_block n1 1 rfl
  have hlk := run_lookup_node w3 mb ch.length ch (keyOf (out.drop (out.length - b.length))) n2
  have d7 := h3.c7
  have d6 := h3.c6
  have d10 := h3.c10
  have d11 := h3.c11
  have f11 := h3.fz 11
  have haccl := h3.accl
  have hlacc := h3.lacc
  have hgl : gall.length = p.all.length := by have := h3.pall; rw [← List.length_map (f := GB.pb), this]
  have HGl := Lib.hid hgl
  have Hn2 := Lib.hid n2
  have Hfinish : ∀ c0 : Nat, TreeAt (w3.setCell ⟨T, 11, none⟩ (.int .i64 c0)) F T { p with pos := c0 } ∧ Mod F w3 (w3.setCell ⟨T, 11, none⟩ (.int .i64 c0)) := by
    intro c0
    refine ⟨⟨_, _, _, _, _, _, H3.out.reT (p' := { p with pos := c0 }) (heap_setCell_same (i := 11) H3.out.blk (.int .i64 c0)) (fun k _ hk => heap_setCell_other _ hk) (by rw [size_setCell]; exact Nat.le_refl _) rfl rfl rfl (H3.out.word.keep (fun k ho _ => heap_setCell_other _ (fun e => ho.2 (.inl e))) (fun _ h _ => h))⟩, (Mod.refl F w3).setCell (fun _ => H3.out.fmut T (.inl rfl)) _⟩
  have HF := Lib.hid Hfinish
  obtain ⟨Aacc, cacc, ea⟩ := own_slice h3.acc
  obtain ⟨Aal, cal, el⟩ := own_slice h3.all
  obtain ⟨Awd, cwd, ew, _⟩ := h3.word.open
  rw [ea] at d7
  rw [el] at d6
  rw [ew] at d10
  have Hew := Lib.hid ew
  have Hacc3 := Lib.hid haccl
  have hgl9 : gall.length ≤ 90000 := by omega
  clear hbl3 hb23 hbq n1 n2 n3 n4 n5 h3 ea el ew hgl y0
  cases hl : lookA ch (out.drop (out.length - b.length)) with
  | some c0 =>
    obtain ⟨j, hj⟩ := lookB_some Hb3.out HaB.out hl 0
    rw [hj] at hlk
    simp only at hlk
    have Ht : Hid (tellP p out = ({ p with pos := c0 }, 0)) := by show _ = _; unfold tellP; rw [Hhere.out]; simp only; rw [if_neg (by rw [Hsaid0.out]; simp), Hans.out, hl]
    clear hl hj haccl
    go_wp2_with fail
    go_ret
    refine ⟨by rw [Ht.out]; rfl, ?_, F, fun _ => .inl, fun _ h => h, by rw [Ht.out]; exact (HF.out c0).1⟩
    exact (Mod.of_below F Hb3'.out).trans (HF.out c0).2 (fun _ _ h => h)
  | none =>
    have hlb := lookB_none Hb3.out HaB.out hl 0
    rw [hlb] at hlk
    simp only at hlk
    have Hlb := Lib.hid hlb
    by_cases hm : p.access.length = 1024
    · have hm1 : ((vaccs.length : Int) == 1024) = true := by rw [haccl, hm]; rfl
      have Ht : Hid (tellP p out = (p, 3)) := by show _ = _; unfold tellP; rw [Hhere.out]; simp only; rw [if_neg (by rw [Hsaid0.out]; simp), Hans.out, hl]; simp only; rw [if_pos hm]
      clear hl hlb haccl hm
      go_wp2_with fail
      go_ret
      exact ⟨by rw [Ht.out]; rfl, Mod.of_below F Hb3'.out, F, fun _ => .inl, fun _ h => h, by rw [Ht.out]; exact ⟨_, _, _, _, _, _, H3.out⟩⟩
    · have hm1 : ((vaccs.length : Int) == 1024) = false := by rw [beq_eq_false_iff_ne]; omega
      have Ht : Hid (tellP p out = (addP p b ch (out.drop (out.length - b.length)), 0)) := by show _ = _; unfold tellP; rw [Hhere.out]; simp only; rw [if_neg (by rw [Hsaid0.out]; simp), Hans.out, hl]; simp only; rw [if_neg hm]
      clear hl hlb haccl hm
      go_wp2_with fail
      refine (tree_state1 w3 F T p (.slice Awd p.word.length cwd) p.word _ gall ⟨_, _, _, _, _, H3.out⟩ (Hew.out ▸ H3.out.word) (by omega) (by omega) (by omega) (by have := HGl.out; omega)).mono ?_
      rintro e w4 ⟨rfl, hmod, F', hF1, hF2, vall', vacc', vplace', vword', vaccs', h4⟩
      have Hq : Hid ((gall ++ [GB.leaf p.access.length])[p.pos]? = some (.node nb mb (.slice Ab b.length cb) b ch)) := by show _ = _; rw [List.getElem?_append_left Hp'.out]; exact Hgi.out
      obtain ⟨n1, n2, n3, n4, n5⟩ := h4.nodes _ _ _ _ _ (List.mem_of_getElem? Hq.out)
      have y1' := cell_of_block n1 1 rfl
      have hmu := run_mapUpdate_node w4 mb ch (out.drop (out.length - b.length)) gall.length n2 Hlb.out
      obtain ⟨h5, hmod5⟩ := h4.updMap (ch' := ch ++ [(out.drop (out.length - b.length), gall.length)]) Hq.out
      simp only [List.length_append, List.length_cons, List.length_nil, Nat.zero_add] at h5 hmod5
      have g11 := h5.c11
      have k11 := h5.fz 11
      have H5 := Lib.hid h5
      have Hmod := Lib.hid hmod; have HF1 := Lib.hid hF1; have HF2 := Lib.hid hF2; have Hmod5 := Lib.hid hmod5
      clear h4 h5 n1 n2 n3 n4 n5 hmod hF1 hF2 hmod5 hlk y1 d6 d7 d10 d11 f11
      go_wp2_with fail
      go_ret
      refine ⟨by rw [Ht.out]; rfl, ?_, F', fun k hk => ?_, HF2.out, ?_⟩
      · have m1 := (Mod.of_below F Hb3'.out).trans Hmod.out (fun _ _ h => h)
        have m2 := m1.trans Hmod5.out (fun k hk hf => (HF1.out k hf).elim id (fun hh => by have := Hb3'.out.size; omega))
        exact m2.setCell (p := ⟨T, 11, none⟩) (fun _ => H3.out.fmut T (.inl rfl)) _
      · rcases HF1.out k hk with hh | hh
        · exact .inl hh
        · exact .inr (Nat.le_trans Hb3'.out.size hh)
      · have ep : addP p b ch (out.drop (out.length - b.length)) = { p with access := p.access ++ [p.word], place := p.place ++ [p.all.length], all := (p.all ++ [PB.leaf p.access.length]).set p.pos (PB.node b (ch ++ [(out.drop (out.length - b.length), gall.length)])), pos := gall.length } := by unfold addP; rw [HGl.out]
        rw [Ht.out]
        show TreeAt _ F' T (addP p b ch (out.drop (out.length - b.length)))
        rw [ep]
        have := H5.out.reT (w' := (setBlk w4 mb (.map (ents (ch ++ [(out.drop (out.length - b.length), gall.length)]) 0).toArray (ch.length + 1))).setCell ⟨T, 11, none⟩ (.int .i64 gall.length)) (p' := { p with access := p.access ++ [p.word], place := p.place ++ [p.all.length], all := (p.all ++ [PB.leaf p.access.length]).set p.pos (PB.node b (ch ++ [(out.drop (out.length - b.length), gall.length)])), pos := gall.length }) (heap_setCell_same (i := 11) H5.out.blk (.int .i64 gall.length)) (fun k _ hk => heap_setCell_other _ hk) (by rw [size_setCell]; exact Nat.le_refl _) rfl rfl rfl (H5.out.word.keep (fun k ho _ => heap_setCell_other _ (fun e => ho.2 (.inl e))) (fun _ h _ => h))
        exact ⟨_, _, _, _, _, _, this⟩
end Go.Proofs.Ytoafjmfnnbpnoaa
