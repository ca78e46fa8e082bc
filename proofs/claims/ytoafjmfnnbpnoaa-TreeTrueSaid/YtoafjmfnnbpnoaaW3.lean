/-
  What slices.Grow (from nil), slices.Concat, word.Join and the references' W.Join, W.Lent, W.Kept compute.
-/
import Derived.Test.YtoafjmfnnbpnoaaW2
set_option linter.unusedVariables false
set_option linter.unusedSimpArgs false
namespace Go.Proofs.Ytoafjmfnnbpnoaa
open Go Go.RowKit

theorem below_own_drop {w w' : World} {B : Nat} {v : Value} {xs : List Int} (h : OI w B v xs) (hb : Below w.heap.size w w') : OI w' B v xs := own_below h hb

theorem wpl_append_zeros {ops : Array Oper} {rest : List Oper} {o : Oper} {a : Act} {Q : Exit → Act → World → Prop} {w : World} (hgd : o.guard = none) (s x : Operand)
    (ho : o.op = .call { callee := .builtin .append, args := #[s, x], argTypes := #[29, 3] }) (n : Nat) (h0 : 0 < n) (hb : n ≤ 17592186044415)
    (hs : a.eval s = .slice none 0 0) (hx : a.eval x = .int .i64 n)
    (h : ∀ w' cap, w'.ownsRow w.heap.size 3 1 (.slice (some ⟨w.heap.size, 0, none⟩) 0 cap) 0 [] → n ≤ cap → Below w.heap.size w w' → wpList Try.prog ops Q rest (a.put o.dst (.slice (some ⟨w.heap.size, 0, none⟩) n cap)) w') :
    wpList Try.prog ops Q (o :: rest) a w := by
  refine wpList_plain hgd fun K hK => ?_
  obtain ⟨w', cap, hr, h2, h3, h5⟩ := run_append_zeros w o.type n h0 hb
  unfold Oper.wp execOp
  simp only [ho, resolve, invoke, builtin, Sem.run_bind, Sem.run_pure, Result.andThen_ok, List.map_toArray, List.map_cons, List.map_nil, hs, hx, hr]
  exact hK _ _ (h w' cap h2 h3 h5)

set_option maxRecDepth 20000 in
theorem slices_Grow (n : Nat) (w : World) (hn : n ≤ 17592186044415) :
    Calls Try.prog 205 #[.slice none 0 0, .int .i64 n] w fun e w' => ∃ v', e = .returned v' ∧ OI w' w.heap.size v' [] ∧ Below w.heap.size w w' := by
  have Hn := Lib.hid hn
  rcases Nat.eq_zero_or_pos n with h0 | h0
  · subst h0
    clear hn Hn
    go_enter Try.func205, Try.ntmps205
    go_wp2
    go_ret
    exact ⟨_, rfl, World.ownsRow_nil .., Below.refl _ _⟩
  · have h1 : (0 : Int) < n := by omega
    have h2 : n ≤ 9223372036854775807 := by omega
    clear hn
    go_enter Try.func205, Try.ntmps205
    go_wp2_with (at_builtin; refine wpl_append_zeros (o := ⟨some 22, _, _, _, _, _⟩) rfl (.tmp 20) (.tmp 21) rfl n h0 Hn.out rfl rfl ?_; intro w1 cap hown hcap hbel; have Hown := Lib.hid hown; have Hbel := Lib.hid hbel; clear hown hbel)
    go_ret
    exact ⟨_, rfl, Hown.out, Hbel.out⟩

set_option maxRecDepth 20000 in
theorem W_Join (v1 v2 : Value) (xs ys : List Int) (w : World) (ok1 ok2 : Nat → Prop) (h1 : SI w ok1 v1 xs) (h2 : SI w ok2 v2 ys) (hb : xs.length + ys.length ≤ 17592186044415) :
    Calls Try.prog 108 #[v1, v2] w fun e w' => ∃ v', e = .returned v' ∧ OI w' w.heap.size v' (xs ++ ys) ∧ Below w.heap.size w w' := by
  obtain ⟨A1, c1, rfl, hlc1, hm1⟩ := h1.open
  obtain ⟨A2, c2, rfl, hlc2, hm2⟩ := h2.open
  have Hb := Lib.hid hb
  clear hb
  go_enter Try.func108, Try.ntmps108
  go_wp2_with (first
    | (at_builtin; refine wpl_append (o := ⟨some 7, _, _, _, _, _⟩) rfl (.tmp 5) (.tmp 6) 29 rfl w.heap.size 3 (.int .i64 0) 1 8 Try.underlying29 info_int rfl (by decide) (by decide) _ 0 [] rfl (own_empty w _ _ _ (Nat.le_refl _)) A1 xs.length c1 (ints xs) rfl (by simp [ints]) (h1.below (below_alloc ..)).rv (ints_one xs) (by have := Hb.out; omega) (by simp) ?_
       intro v3 w3 hown hg hloc
       have hB : Hid (Below w.heap.size w w3) := (below_alloc ..).grown hg (by simp) (fun k hk => by
         have hk' : w.heap.size = k := Option.some.inj hk
         omega)
       have hown' : Hid (w3.ownsRow w.heap.size 3 1 v3 xs.length (ints xs)) := by show World.ownsRow ..; simpa using hown
       clear hg hloc hown)
    | (at_builtin; refine wpl_append (o := ⟨some 9, _, _, _, _, _⟩) rfl (.tmp 7) (.tmp 8) 29 rfl w.heap.size 3 (.int .i64 0) 1 8 Try.underlying29 info_int rfl (by decide) (by decide) _ _ (ints xs) rfl hown'.out A2 ys.length c2 (ints ys) rfl (by simp [ints]) (h2.below hB.out).rv (ints_one ys) (by have := Hb.out; omega) hB.out.size ?_
       intro v4 w4 hown4 hg4 hloc4
       have h4 : Hid (OI w4 w.heap.size v4 (xs ++ ys) ∧ Below w.heap.size w w4) := ⟨by simpa [OI, ints_append] using hown4, hB.out.grown hg4 hB.out.size (fun k hk => (hown'.out.lt k hk).1)⟩
       clear hown4 hg4 hloc4))
  go_ret
  exact ⟨v4, rfl, h4.out⟩
theorem sum_take_le (xss : List (List Int)) (n : Nat) : ((xss.take n).map List.length).sum ≤ (xss.map List.length).sum := by
  conv => rhs; rw [← List.take_append_drop n xss]
  rw [List.map_append, List.sum_append]; omega
theorem take_snoc_sum (xss : List (List Int)) (n : Nat) (h : n < xss.length) : ((xss.take (n + 1)).map List.length).sum = ((xss.take n).map List.length).sum + (gL xss n).length := by
  rw [List.take_succ_eq_append_getElem h, gL_get xss n h, List.map_append, List.sum_append]; rfl
theorem take_snoc_flatten (xss : List (List Int)) (n : Nat) (h : n < xss.length) : (xss.take (n + 1)).flatten = (xss.take n).flatten ++ gL xss n := by
  rw [List.take_succ_eq_append_getElem h, gL_get xss n h, List.flatten_append, List.flatten_singleton]
theorem length_flatten' (xss : List (List Int)) : xss.flatten.length = (xss.map List.length).sum := List.length_flatten

set_option maxRecDepth 20000 in
theorem slices_Concat (v : Value) (xss : List (List Int)) (w : World) (ok : Nat → Prop) (h : SL w ok v xss) (hb : (xss.map List.length).sum ≤ 17592186044415) :
    Calls Try.prog 180 #[v] w fun e w' => ∃ v', e = .returned v' ∧ OI w' w.heap.size v' xss.flatten ∧ Below w.heap.size w w' := by
  obtain ⟨A, c, rfl, hlc, hm⟩ := h.open
  have Hb := Lib.hid hb
  clear hb
  go_enter Try.func180, Try.ntmps180
  go_wp2
  go_loop [3, 11] (fun s i => ∃ n : Nat, n ≤ xss.length ∧ i = .int .i64 n ∧ s = .int .i64 (((xss.take n).map List.length).sum : Nat)) (fun _ i => xss.length - (intOf i).toNat)
  case atStart => exact ⟨0, Nat.zero_le _, rfl, rfl⟩
  case round =>
    obtain ⟨n, hn, rfl, rfl⟩ := hrel
    by_cases hlt : n < xss.length
    · obtain ⟨ad, A1, c1, rfl, _, hc, hsi⟩ := h.cell n hlt
      have hs1 := Lib.hid (take_snoc_sum xss n hlt)
      obtain ⟨q, hq⟩ : ∃ q, ((xss.take n).map List.length).sum = q := ⟨_, rfl⟩
      have hq1 : q ≤ 17592186044415 := by have := sum_take_le xss n; have := Hb.out; omega
      have hq2 : q + (gL xss n).length ≤ 17592186044415 := by have := sum_take_le xss (n + 1); have := Hb.out; have := hs1.out; omega
      rw [hq]
      have Hq := Lib.hid hq
      clear hq
      go_wp2
      go_round
      case rel => exact ⟨n + 1, by omega, by go_num, by rw [hs1.out, Hq.out]; go_num⟩
      case measure => simp [intOf]; omega
    · obtain ⟨q, hq⟩ : ∃ q, ((xss.take n).map List.length).sum = q := ⟨_, rfl⟩
      have Hq1 : Hid (q ≤ 17592186044415) := by show q ≤ _; have := sum_take_le xss n; have := Hb.out; omega
      rw [hq]
      clear hq
      go_wp2_with (go_at_call 205; refine (slices_Grow q _ Hq1.out).mono ?_; rintro e w1 ⟨v1, rfl, ho1, hb1⟩; have Ho1 := Lib.hid ho1; have Hb1 := Lib.hid hb1; clear ho1 hb1)
      go_loopw [6, 27] (fun v i wr => ∃ n : Nat, n ≤ xss.length ∧ i = .int .i64 n ∧ Hid (OI wr w.heap.size v (xss.take n).flatten) ∧ Hid (Below w.heap.size w wr)) (fun _ i _ => xss.length - (intOf i).toNat)
      case atStart => exact ⟨0, Nat.zero_le _, rfl, Ho1.out, Hb1.out⟩
      case round =>
        clear Ho1 Hb1
        obtain ⟨k, hk, rfl, ho, hbel⟩ := hrel
        by_cases hlt : k < xss.length
        · obtain ⟨ad, A1, c1, rfl, _, hc, hsi⟩ := (h.below hbel.out).cell k hlt
          obtain ⟨A6, c6, rfl⟩ := own_slice ho.out
          have hf := Lib.hid (take_snoc_flatten xss k hlt)
          have hs1 := Lib.hid (take_snoc_sum xss k hlt)
          go_wp2_with (at_builtin; refine wpl_append (o := ⟨some 33, _, _, _, _, _⟩) rfl (.tmp 31) (.tmp 32) 29 rfl w.heap.size 3 (.int .i64 0) 1 8 Try.underlying29 info_int rfl (by decide) (by decide) _ _ _ rfl ho.out A1 (gL xss k).length c1 (ints (gL xss k)) rfl (by simp [ints]) hsi.rv (ints_one _) (by have := Hb.out; have := hs1.out; have := sum_take_le xss (k + 1); rw [length_flatten']; omega) hbel.out.size ?_
                       intro v4 w4 hown4 hg4 hloc4
                       have h4 : Hid (OI w4 w.heap.size v4 (xss.take (k + 1)).flatten ∧ Below w.heap.size w w4) := ⟨by rw [hf.out]; simpa [OI, ints_append] using hown4, hbel.out.grown hg4 hbel.out.size (fun k hk => (ho.out.lt k hk).1)⟩
                       clear hown4 hg4 hloc4)
          go_roundw
          case rel => exact ⟨k + 1, by omega, by go_num, h4.out.1, h4.out.2⟩
          case measure => simp [intOf]; omega
        · go_wp2
          go_ret
          exact ⟨_, rfl, by have := ho.out; rwa [List.take_of_length_le (by omega)] at this, hbel.out⟩

theorem word_Join (v : Value) (xss : List (List Int)) (w : World) (ok : Nat → Prop) (h : SL w ok v xss) (hb : (xss.map List.length).sum ≤ 17592186044415) :
    Calls Try.prog 124 #[v] w fun e w' => ∃ v', e = .returned v' ∧ OI w' w.heap.size v' xss.flatten ∧ Below w.heap.size w w' := by
  have H := Lib.hid (slices_Concat v xss w ok h hb)
  clear hb
  go_enter Try.func124, Try.ntmps124
  go_wp2_with (go_at_call 180; refine (H.out).mono ?_; rintro e w1 ⟨v1, rfl, ho1, hb1⟩; have Ho1 := Lib.hid ho1; have Hb1 := Lib.hid hb1; clear ho1 hb1)
  go_ret
  exact ⟨_, rfl, Ho1.out, Hb1.out⟩

/-- A lent row: a list of ints in a row of the call's own, two marks behind it. -/
def Lent (w : World) (B : Nat) (v : Value) (xs : List Int) : Prop :=
  ∃ g cap, v = .slice (some ⟨g, 0, none⟩) xs.length cap ∧ B ≤ g ∧ w.ownsRow B 3 1 (.slice (some ⟨g, 0, none⟩) (xs.length + 2) cap) (xs.length + 2) (ints (xs ++ [-771, -772]))
theorem Lent.si {w : World} {B : Nat} {v : Value} {xs : List Int} (h : Lent w B v xs) : SI w (fun k => v.ownBlock = some k ∧ B ≤ k) v xs := by
  obtain ⟨g, cap, rfl, hg, ho⟩ := h
  obtain ⟨A, c, e, h1, h2, h3, hr⟩ := own_reads ho
  injection e with e1 e2 e3
  subst e1 e3
  refine ⟨_, _, rfl, by omega, by omega, by simp [ints], fun i hi => ?_⟩
  have hi' : i < xs.length := by simpa [ints] using hi
  obtain ⟨ad, e, hk, hc⟩ := hr i (by simp [ints]; omega)
  refine ⟨ad, e, hk, by rw [hc]; simp only [ints_append]; rw [List.getElem_append_left hi]⟩
theorem Lent.mod {w w' : World} {F : Nat → Prop} {B : Nat} {v : Value} {xs : List Int} (h : Lent w B v xs) (hm : Mod F w w') (hn : ∀ k, v.ownBlock = some k → ¬ F k) : Lent w' B v xs := by
  obtain ⟨g, cap, rfl, hg, ho⟩ := h
  exact ⟨g, cap, rfl, hg, own_mod ho hm (fun k hk => hn k hk)⟩

set_option maxRecDepth 20000 in
theorem W_Lent (v : Value) (xs : List Int) (w : World) (ok : Nat → Prop) (h : SI w ok v xs) (hb : xs.length ≤ 17592186044000) :
    Calls Try.prog 22 #[v] w fun e w' => ∃ v', e = .returned v' ∧ Lent w' w.heap.size v' xs ∧ Below w.heap.size w w' := by
  obtain ⟨A, c, rfl, hlc, hm⟩ := h.open
  have Hb := Lib.hid hb
  clear hb
  have hm2 : xs.length + 2 ≤ 9223372036854775807 := by have := Hb.out; omega
  go_enter Try.func22, Try.ntmps22
  go_wp2_with (first
    | (at_builtin; refine wpl_append (o := ⟨some 6, _, _, _, _, _⟩) rfl (.tmp 4) (.tmp 5) 29 rfl w.heap.size 3 (.int .i64 0) 1 8 Try.underlying29 info_int rfl (by decide) (by decide) _ 0 [] rfl (own_empty w _ _ _ (Nat.le_refl _)) A xs.length c (ints xs) rfl (by simp [ints]) (h.below (below_alloc ..)).rv (ints_one xs) (by have := Hb.out; omega) (by simp) ?_
       intro v3 w3 hown hg hloc
       have hB : Hid (Below w.heap.size w w3) := (below_alloc ..).grown hg (by simp) (fun k hk => by
         have hk' : w.heap.size = k := Option.some.inj hk
         omega)
       have hown' : Hid (w3.ownsRow w.heap.size 3 1 v3 xs.length (ints xs)) := by show World.ownsRow ..; simpa using hown
       clear hg hloc hown)
    | (at_builtin; refine wpl_append (o := ⟨some 8, _, _, _, _, _⟩) rfl (.tmp 6) (.tmp 7) 29 rfl w.heap.size 3 (.int .i64 0) 1 8 Try.underlying29 info_int rfl (by decide) (by decide) _ _ (ints xs) rfl (hown'.out.alloc _) (some ⟨w3.heap.size, 0, none⟩) 2 2 (ints [-771, -772]) rfl (by simp [ints]) (RV.new _ _ _ _ rfl).any (ints_one _) (by have := Hb.out; omega) (by have := hB.out.size; simp; omega) ?_
       intro v4 w4 hown4 hg4 hloc4
       have h4 : Hid (Below w.heap.size w w4) := (hB.out.alloc hB.out.size _).grown hg4 (by have := hB.out.size; simp; omega) (fun k hk => (hown'.out.lt k hk).1)
       obtain ⟨g, cap, hv, hgB, hgl, hcap, hcm⟩ := own_form hown4 (by omega)
       subst hv
       have hown5 : Hid (w4.ownsRow w.heap.size 3 1 (.slice (some ⟨g, 0, none⟩) (xs.length + 2) cap) (xs.length + 2) (ints (xs ++ [-771, -772]))) := by rw [ints_append]; exact hown4
       have hcap2 : xs.length ≤ cap := by omega
       clear hown4 hg4 hloc4))
  go_ret
  exact ⟨_, rfl, ⟨g, cap, rfl, hgB, hown5.out⟩, h4.out⟩

theorem Kept_cells {w : World} {B : Nat} {g cap : Nat} {xs : List Int} (ho : w.ownsRow B 3 1 (.slice (some ⟨g, 0, none⟩) (xs.length + 2) cap) (xs.length + 2) (ints (xs ++ [-771, -772]))) :
    w.cell? ⟨g, xs.length, none⟩ = some (.int .i64 (-771)) ∧ w.cell? ⟨g, xs.length + 1, none⟩ = some (.int .i64 (-772)) := by
  obtain ⟨A, c, e, h1, h2, h3, hr⟩ := own_reads ho
  injection e with e1 e2 e3
  subst e1 e3
  obtain ⟨ad, e, _, hc⟩ := hr xs.length (by simp [ints])
  obtain ⟨ad', e', _, hc'⟩ := hr (xs.length + 1) (by simp [ints])
  cases e; cases e'
  rw [add_plain] at hc hc'
  refine ⟨by rw [hc]; simp [ints], by rw [hc']; simp [ints]⟩

set_option maxRecDepth 20000 in
theorem W_Kept (v1 v2 : Value) (xs ys : List Int) (w : World) (B : Nat) (ok : Nat → Prop) (h1 : Lent w B v1 xs) (h2 : SI w ok v2 ys) (he : xs = ys) :
    Calls Try.prog 30 #[v1, v2] w fun e w' => e = .returned (.bool true) ∧ Quiet w w' := by
  have hsi := h1.si
  obtain ⟨g, cap, rfl, hg, ho⟩ := h1
  obtain ⟨hc1, hc2⟩ := Kept_cells ho
  obtain ⟨g', cap', e', hB', hl', hcap', hcm'⟩ := own_form ho (by omega)
  injection e' with e1 e2 e3
  subst e3
  clear e1 e2
  have hm2 : xs.length + 2 ≤ 9223372036854775807 := by omega
  subst he
  have hd : decide (xs = xs) = true := by simp
  go_enter Try.func30, Try.ntmps30
  go_wp2_with (go_at_call 32; refine (W_Same _ v2 xs xs _ _ _ hsi h2).mono ?_; rintro e w1 ⟨rfl, ⟨nq, rfl⟩⟩)
  go_ret
  exact ⟨rfl, ⟨_, rfl⟩⟩
end Go.Proofs.Ytoafjmfnnbpnoaa
