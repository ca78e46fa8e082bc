/-
  What slices.Equal, slices.Clone, slices.Concat, word.Join and the references' W.Same, W.Join, W.Lent, W.Kept compute.
-/
import Derived.Test.YtoafjmfnnbpnoaaW1
set_option linter.unusedVariables false
set_option linter.unusedSimpArgs false
namespace Go.Proofs.Ytoafjmfnnbpnoaa
open Go Go.RowKit

theorem eq_of_all {xs ys : List Int} (hl : xs.length = ys.length) (h : ∀ i, i < xs.length → gI xs i = gI ys i) : xs = ys := by
  apply List.ext_getElem hl
  intro i h1 h2
  have := h i h1
  rwa [gI_get _ _ h1, gI_get _ _ h2] at this
theorem ne_of_at {xs ys : List Int} {i : Nat} (h : gI xs i ≠ gI ys i) : xs ≠ ys := fun e => h (by rw [e])

/-- The world, some orders having been drawn. -/
def Quiet (w w' : World) : Prop := ∃ n, w' = w.drewN n
theorem Quiet.refl (w : World) : Quiet w w := ⟨0, rfl⟩
theorem Quiet.below {w w' : World} (h : Quiet w w') : Below w.heap.size w w' := by
  obtain ⟨n, rfl⟩ := h; exact below_drewN (Below.refl _ _) n
theorem Quiet.trans {a b c : World} (h : Quiet a b) (k : Quiet b c) : Quiet a c := by
  obtain ⟨n, rfl⟩ := h; obtain ⟨m, rfl⟩ := k
  exact ⟨_, World.drewN_drewN ..⟩

theorem W_Same (v1 v2 : Value) (xs ys : List Int) (w : World) (ok1 ok2 : Nat → Prop) (h1 : SI w ok1 v1 xs) (h2 : SI w ok2 v2 ys) :
    Calls Try.prog 32 #[v1, v2] w fun e w' => e = .returned (.bool (decide (xs = ys))) ∧ Quiet w w' := by
  obtain ⟨A1, c1, rfl, hlc1, hm1⟩ := h1.open
  obtain ⟨A2, c2, rfl, hlc2, hm2⟩ := h2.open
  by_cases hl : xs.length = ys.length
  · have Hl := Lib.hid hl
    have hb : (((xs.length : Int)) != ((ys.length : Int))) = false := by simp [hl]
    have hb2 : (((xs.length : Int)) == ((ys.length : Int))) = true := by simp [hl]
    have hle : xs.length ≤ ys.length := by omega
    have hge : ys.length ≤ xs.length := by omega
    clear hl
    go_enter Try.func32, Try.ntmps32
    go_wp2
    go_loopw [5] (fun i wr => ∃ n m : Nat, n ≤ xs.length ∧ i = .int .i64 n ∧ Hid (wr = w.drewN m) ∧ Hid (∀ i, i < n → gI xs i = gI ys i)) (fun i _ => xs.length - (intOf i).toNat)
    case atStart => exact ⟨0, 0, Nat.zero_le _, rfl, rfl, fun i hi => absurd hi (by omega)⟩
    case round =>
      obtain ⟨n, m, hn, rfl, hw, hall⟩ := hrel
      have hw' := hw.out
      subst hw'
      clear hw
      by_cases hlt : n < xs.length
      · obtain ⟨ad1, rfl, _, hc1⟩ := h1.cell n hlt
        obtain ⟨ad2, rfl, _, hc2⟩ := h2.cell n (by omega)
        by_cases he : gI xs n = gI ys n
        · have hb3 : (gI xs n != gI ys n) = false := by simp [he]
          have He := Lib.hid he
          clear he
          have hlt2 : n < ys.length := by omega
          go_wp2
          go_quiet (fail)
          go_wp2
          go_roundw
          case rel => exact ⟨n + 1, m + nq, by omega, by go_num, by rfl, fun i hi => by
            rcases Nat.lt_or_ge i n with h | h
            · exact hall.out i h
            · obtain rfl : i = n := by omega
              exact He.out⟩
          case measure => simp [intOf]; omega
        · have hb3 : (gI xs n != gI ys n) = true := by simp [he]
          have He := Lib.hid he
          clear he
          have hlt2 : n < ys.length := by omega
          go_wp2
          go_quiet (fail)
          go_wp2
          go_ret
          exact ⟨ret_bool (by simp [ne_of_at He.out]), ⟨m + nq, World.drewN_drewN ..⟩⟩
      · go_wp2
        go_ret
        exact ⟨ret_bool (by rw [decide_eq_true (eq_of_all Hl.out (fun i hi => hall.out i (by omega)))]), ⟨m, rfl⟩⟩
  · have hb : (((xs.length : Int)) != ((ys.length : Int))) = true := by simp; omega
    have hne : Hid (xs ≠ ys) := fun e => hl (by rw [e])
    clear hl
    go_enter Try.func32, Try.ntmps32
    go_wp2
    go_ret
    exact ⟨ret_bool (by simp [hne.out]), Quiet.refl w⟩

theorem slices_Equal (v1 v2 : Value) (xs ys : List Int) (w : World) (ok1 ok2 : Nat → Prop) (h1 : SI w ok1 v1 xs) (h2 : SI w ok2 v2 ys) :
    Calls Try.prog 112 #[v1, v2] w fun e w' => e = .returned (.bool (decide (xs = ys))) ∧ Quiet w w' := by
  obtain ⟨A1, c1, rfl, hlc1, hm1⟩ := h1.open
  obtain ⟨A2, c2, rfl, hlc2, hm2⟩ := h2.open
  by_cases hl : xs.length = ys.length
  · have Hl := Lib.hid hl
    have hb : (((xs.length : Int)) != ((ys.length : Int))) = false := by simp [hl]
    have hb2 : (((xs.length : Int)) == ((ys.length : Int))) = true := by simp [hl]
    have hle : xs.length ≤ ys.length := by omega
    have hge : ys.length ≤ xs.length := by omega
    clear hl
    go_enter Try.func112, Try.ntmps112
    go_wp2
    go_loopw [13] (fun i wr => ∃ n m : Nat, n ≤ xs.length ∧ i = .int .i64 n ∧ Hid (wr = w.drewN m) ∧ Hid (∀ i, i < n → gI xs i = gI ys i)) (fun i _ => xs.length - (intOf i).toNat)
    case atStart => exact ⟨0, 0, Nat.zero_le _, rfl, rfl, fun i hi => absurd hi (by omega)⟩
    case round =>
      obtain ⟨n, m, hn, rfl, hw, hall⟩ := hrel
      have hw' := hw.out
      subst hw'
      clear hw
      by_cases hlt : n < xs.length
      · obtain ⟨ad1, rfl, _, hc1⟩ := h1.cell n hlt
        obtain ⟨ad2, rfl, _, hc2⟩ := h2.cell n (by omega)
        by_cases he : gI xs n = gI ys n
        · have hb3 : (gI xs n != gI ys n) = false := by simp [he]
          have He := Lib.hid he
          clear he
          have hlt2 : n < ys.length := by omega
          go_wp2
          go_quiet (fail)
          go_wp2
          go_roundw
          case rel => exact ⟨n + 1, m + nq, by omega, by go_num, by rfl, fun i hi => by
            rcases Nat.lt_or_ge i n with h | h
            · exact hall.out i h
            · obtain rfl : i = n := by omega
              exact He.out⟩
          case measure => simp [intOf]; omega
        · have hb3 : (gI xs n != gI ys n) = true := by simp [he]
          have He := Lib.hid he
          clear he
          have hlt2 : n < ys.length := by omega
          go_wp2
          go_quiet (fail)
          go_wp2
          go_ret
          exact ⟨ret_bool (by simp [ne_of_at He.out]), ⟨m + nq, World.drewN_drewN ..⟩⟩
      · go_wp2
        go_ret
        exact ⟨ret_bool (by rw [decide_eq_true (eq_of_all Hl.out (fun i hi => hall.out i (by omega)))]), ⟨m, rfl⟩⟩
  · have hb : (((xs.length : Int)) != ((ys.length : Int))) = true := by simp; omega
    have hne : Hid (xs ≠ ys) := fun e => hl (by rw [e])
    clear hl
    go_enter Try.func112, Try.ntmps112
    go_wp2
    go_ret
    exact ⟨ret_bool (by simp [hne.out]), Quiet.refl w⟩

/-- A new row without elements, of some capacity nought. -/
theorem own_empty (w : World) (B : Nat) (e : TypeId) (sz : Nat) (hB : B ≤ w.heap.size) : (w.alloc (.cells #[] e)).ownsRow B e sz (.slice (some ⟨w.heap.size, 0, none⟩) 0 0) 0 [] :=
  ⟨by simp, .inr ⟨w.heap.size, 0, #[], rfl, hB, heap_alloc_new w _, Nat.le_refl _, by simp [maxLen], by simp, by simp⟩⟩

theorem below_alloc (w : World) (o : Obj) : Below w.heap.size w (w.alloc o) := (Below.refl _ _).alloc (Nat.le_refl _) o

theorem slices_Clone (v : Value) (xs : List Int) (w : World) (ok : Nat → Prop) (h : SI w ok v xs) (hb : xs.length ≤ 17592186044415) :
    Calls Try.prog 101 #[v] w fun e w' => ∃ v', e = .returned v' ∧ OI w' w.heap.size v' xs ∧ Below w.heap.size w w' := by
  obtain ⟨A, c, rfl, hlc, hm⟩ := h.open
  have heq := fun (w : World) (a : Option Addr) (n c : Nat) => Lib.run_eql_slice_nil (P := Try.prog) w 29 3 a n c 0 0 Try.underlying29
  rcases A with _ | ad
  · obtain rfl : xs = [] := by
      cases xs with
      | nil => rfl
      | cons x xs => obtain ⟨ad, e, _⟩ := h.cell 0 (by simp); cases e
    go_enter Try.func101, Try.ntmps101
    go_wp2
    go_ret
    exact ⟨_, rfl, World.ownsRow_nil .., Below.refl _ _⟩
  · go_enter Try.func101, Try.ntmps101
    go_wp2_with (at_builtin; refine wpl_append rfl (.tmp 5) (.tmp 6) 29 rfl w.heap.size 3 (.int .i64 0) 1 8 Try.underlying29 info_int rfl (by decide) (by decide) _ 0 [] rfl (own_empty w _ _ _ (Nat.le_refl _)) (some ad) xs.length c (ints xs) rfl (by simp [ints]) (h.below (below_alloc ..)).rv (ints_one xs) (by omega) (by simp) ?_; intro v1 w1 hown hg hloc)
    go_ret
    refine ⟨v1, rfl, ?_, ((below_alloc ..).grown hg (by simp) (fun k hk => ?_))⟩
    · simpa [OI] using hown
    · have hk' : w.heap.size = k := Option.some.inj hk
      omega

/-- append(nil, make([]int, n)...) -/
theorem run_append_zeros (w : World) (ty : TypeId) (n : Nat) (h0 : 0 < n) (hb : n ≤ 17592186044415) :
    ∃ w' cap, (Builtin.append_ #[29, 3] ty #[.slice none 0 0, .int .i64 n]).run Try.prog w = .ok (.slice (some ⟨w.heap.size, 0, none⟩) n cap) w' ∧
      w'.ownsRow w.heap.size 3 1 (.slice (some ⟨w.heap.size, 0, none⟩) 0 cap) 0 [] ∧ n ≤ cap ∧ Below w.heap.size w w' := by
  obtain ⟨i, hi, hz0, hz1, hz2⟩ := info_parts info_int
  have hw : IntKind.i64.wrap (n : Int) = n := IntWalk.i64_in _ (by omega)
  have h1 : ¬ ((n : Int) < 0) := by omega
  have h2 : ¬ (281474976710656 < (n : Int) * 8) := by omega
  have hn : n ≠ 0 := by omega
  have h3 : ¬ (9223372036854775807 < (n : Int)) := by omega
  have h4 : ¬ (281474976710656 < Builtin.nextslicecap n 0 * 8) := by rw [nextslicecap_zero h0]; omega
  have hge := grownCap_ge w n 0 3
  have hcm : grownCap w n 0 3 ≤ maxLen := grownCap_le_maxLen w n 0 3 (by simp only [maxLen]; omega)
  refine ⟨w.drew.alloc (.cells (Builtin.zeroCells #[.int .i64 0] n ++ Builtin.zeroCells #[.int .i64 0] (grownCap w n 0 3 - n)) 3), grownCap w n 0 3, ?_, ⟨by simp, .inr ⟨w.heap.size, _, _, rfl, Nat.le_refl _, heap_alloc_new w.drew _, by omega, hcm, ?_, by simp⟩⟩, hge, ?_⟩
  · simp [Builtin.append_, run_underlying Try.underlying29, run_underlying Try.underlying3, sizeOf, typeInfo, zeroValue, hi, hz0, hz1, hz2, hw, h1, h2, hn, h3, h4, Builtin.firstCells, Question.forced, newRow, grownCap, asInt, asIntOf, Value.cells]
  · simp [size_zeroCells]; omega
  · exact ((Below.refl _ _).drew).alloc (Nat.le_refl _) _
end Go.Proofs.Ytoafjmfnnbpnoaa
