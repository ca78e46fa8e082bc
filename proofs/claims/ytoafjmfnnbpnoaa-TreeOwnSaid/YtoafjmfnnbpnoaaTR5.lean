/-
  What tree.New computes.
-/
import Derived.Test.YtoafjmfnnbpnoaaTR4
set_option linter.unusedVariables false
set_option linter.unusedSimpArgs false
namespace Go.Proofs.Ytoafjmfnnbpnoaa
open Go Go.RowKit

def newErr (kind k o : Int) : Int := if kind ≠ 1 ∧ kind ≠ 2 then 30 else if k < 1 ∨ k > 64 then 1 else if (kind = 1 ∧ o ≠ 2) ∨ o < 1 ∨ o > 64 then 33 else 0
def newP (kind k o : Int) : PT := { kind := kind, k := k, o := o, all := [.leaf 0], access := [[]], place := [0], busy := false, word := [], pos := 0 }
def NewR (w : World) (kind k o : Int) (e : Ending) (w' : World) : Prop :=
  Below w.heap.size w w' ∧ ((newErr kind k o ≠ 0 ∧ e = .returned (.tuple #[.pointer none, .int .i64 (newErr kind k o)])) ∨
    (newErr kind k o = 0 ∧ ∃ T, e = .returned (.tuple #[.pointer (some ⟨T, 0, none⟩), .int .i64 0]) ∧ TreeAt w' (fun x => w.heap.size ≤ x ∧ x < w'.heap.size) T (newP kind k o)))

theorem new_tree (w : World) (kind k o : Int) :
    TreeAt ((((w.alloc (.cells #[.iface 140 (.agg #[.int .i64 0])] 165)).alloc (.cells #[.slice none 0 0] 29)).alloc (.cells #[.int .i64 0] 3)).alloc
      (.cells #[.int .i64 kind, .int .i64 k, .int .i64 o, .int .i64 0, .slice none 0 0, .slice none 0 0, .slice (some ⟨w.heap.size, 0, none⟩) 1 1, .slice (some ⟨w.heap.size + 1, 0, none⟩) 1 1, .slice (some ⟨w.heap.size + 1 + 1, 0, none⟩) 1 1, .bool false, .slice none 0 0, .int .i64 0] 143))
      (fun x => w.heap.size ≤ x ∧ x < w.heap.size + 4) (w.heap.size + 1 + 1 + 1) (newP kind k o) := by
  have s1 : ∀ (W : World) o, (W.alloc o).heap.size = W.heap.size + 1 := fun W o => by simp
  have n1 := block_alloc_new w (.cells #[.iface 140 (.agg #[.int .i64 0])] 165)
  have n2 := block_alloc_new (w.alloc (.cells #[.iface 140 (.agg #[.int .i64 0])] 165)) (.cells #[.slice none 0 0] 29)
  have n3 := block_alloc_new ((w.alloc (.cells #[.iface 140 (.agg #[.int .i64 0])] 165)).alloc (.cells #[.slice none 0 0] 29)) (.cells #[.int .i64 0] 3)
  have n4 := block_alloc_new (((w.alloc (.cells #[.iface 140 (.agg #[.int .i64 0])] 165)).alloc (.cells #[.slice none 0 0] 29)).alloc (.cells #[.int .i64 0] 3)) (.cells #[.int .i64 kind, .int .i64 k, .int .i64 o, .int .i64 0, .slice none 0 0, .slice none 0 0, .slice (some ⟨w.heap.size, 0, none⟩) 1 1, .slice (some ⟨w.heap.size + 1, 0, none⟩) 1 1, .slice (some ⟨w.heap.size + 1 + 1, 0, none⟩) 1 1, .bool false, .slice none 0 0, .int .i64 0] 143)
  rw [s1] at n2
  rw [s1, s1] at n3
  rw [s1, s1, s1] at n4
  replace n1 := block_alloc_old (block_alloc_old (block_alloc_old n1 (.cells #[.slice none 0 0] 29)) (.cells #[.int .i64 0] 3)) (.cells #[.int .i64 kind, .int .i64 k, .int .i64 o, .int .i64 0, .slice none 0 0, .slice none 0 0, .slice (some ⟨w.heap.size, 0, none⟩) 1 1, .slice (some ⟨w.heap.size + 1, 0, none⟩) 1 1, .slice (some ⟨w.heap.size + 1 + 1, 0, none⟩) 1 1, .bool false, .slice none 0 0, .int .i64 0] 143)
  replace n2 := block_alloc_old (block_alloc_old n2 (.cells #[.int .i64 0] 3)) (.cells #[.int .i64 kind, .int .i64 k, .int .i64 o, .int .i64 0, .slice none 0 0, .slice none 0 0, .slice (some ⟨w.heap.size, 0, none⟩) 1 1, .slice (some ⟨w.heap.size + 1, 0, none⟩) 1 1, .slice (some ⟨w.heap.size + 1 + 1, 0, none⟩) 1 1, .bool false, .slice none 0 0, .int .i64 0] 143)
  replace n3 := block_alloc_old n3 (.cells #[.int .i64 kind, .int .i64 k, .int .i64 o, .int .i64 0, .slice none 0 0, .slice none 0 0, .slice (some ⟨w.heap.size, 0, none⟩) 1 1, .slice (some ⟨w.heap.size + 1, 0, none⟩) 1 1, .slice (some ⟨w.heap.size + 1 + 1, 0, none⟩) 1 1, .bool false, .slice none 0 0, .int .i64 0] 143)
  refine ⟨.slice (some ⟨w.heap.size, 0, none⟩) 1 1, .slice (some ⟨w.heap.size + 1, 0, none⟩) 1 1, .slice (some ⟨w.heap.size + 1 + 1, 0, none⟩) 1 1, .slice none 0 0, [.slice none 0 0], [.leaf 0], ?_⟩
  exact {
    blk := n4
    all := ⟨rfl, .inr ⟨_, 1, _, rfl, Nat.zero_le _, n1, Nat.le_refl _, by simp [maxLen], rfl, rfl⟩⟩
    pall := rfl
    acc := ⟨rfl, .inr ⟨_, 1, _, rfl, Nat.zero_le _, n2, Nat.le_refl _, by simp [maxLen], rfl, rfl⟩⟩
    accl := rfl
    accs := fun i hi => by
      match i, hi with
      | 0, _ => exact SI.nil _ _
    place := ⟨rfl, .inr ⟨_, 1, _, rfl, Nat.zero_le _, n3, Nat.le_refl _, by simp [maxLen], rfl, rfl⟩⟩
    word := SI.nil _ _
    nodes := fun nb mb vby b c hm => by simp at hm
    mbs := (List.nodup_nil : List.Nodup ([] : List Nat))
    fmut := fun k hk => by
      rcases hk with rfl | hk | hk | hk | ⟨g, hg, hk⟩
      · omega
      · have : w.heap.size = k := Option.some.inj hk
        omega
      · have : w.heap.size + 1 = k := Option.some.inj hk
        omega
      · have : w.heap.size + 1 + 1 = k := Option.some.inj hk
        omega
      · simp at hg; subst hg; cases hk
    flt := fun k hk => by rw [s1, s1, s1, s1]; omega }

set_option maxRecDepth 20000 in
theorem tree_New (kind k o : Int) (w : World) : Calls Try.prog 19 #[.int .i64 kind, .int .i64 k, .int .i64 o] w (NewR w kind k o) := by
  obtain ⟨r, hr⟩ : ∃ r, newErr kind k o = r := ⟨_, rfl⟩
  by_cases hk : kind = 1 ∨ kind = 2
  · by_cases h1 : k < 1
    · have He := Lib.hid (show newErr kind k o = 1 by unfold newErr; rw [if_neg (by omega), if_pos (by omega)])
      clear hr
      rcases hk with rfl | rfl
      all_goals
        go_enter Try.func19, Try.ntmps19
        go_wp2_with fail
        go_ret2
        exact ⟨Below.refl _ _, .inl ⟨by rw [He.out]; decide, by rw [He.out]; rfl⟩⟩
    · by_cases h2 : k > 64
      · have He := Lib.hid (show newErr kind k o = 1 by unfold newErr; rw [if_neg (by omega), if_pos (by omega)])
        clear hr
        rcases hk with rfl | rfl
        all_goals
          go_enter Try.func19, Try.ntmps19
          go_wp2_with fail
          go_ret2
          exact ⟨Below.refl _ _, .inl ⟨by rw [He.out]; decide, by rw [He.out]; rfl⟩⟩
      · by_cases h3 : (kind = 1 ∧ o ≠ 2) ∨ o < 1 ∨ o > 64
        · have He := Lib.hid (show newErr kind k o = 33 by unfold newErr; rw [if_neg (by omega), if_neg (by omega), if_pos (by omega)])
          clear hr
          rcases hk with rfl | rfl
          · by_cases ho : o = 2
            · omega
            · have hb : (o != 2) = true := by simp [ho]
              clear ho h3
              go_enter Try.func19, Try.ntmps19
              go_wp2_with fail
              go_ret2
              exact ⟨Below.refl _ _, .inl ⟨by rw [He.out]; decide, by rw [He.out]; rfl⟩⟩
          · by_cases ho : o < 1
            · clear h3
              go_enter Try.func19, Try.ntmps19
              go_wp2_with fail
              go_ret2
              exact ⟨Below.refl _ _, .inl ⟨by rw [He.out]; decide, by rw [He.out]; rfl⟩⟩
            · have ho2 : o > 64 := by omega
              clear h3
              go_enter Try.func19, Try.ntmps19
              go_wp2_with fail
              go_ret2
              exact ⟨Below.refl _ _, .inl ⟨by rw [He.out]; decide, by rw [He.out]; rfl⟩⟩
        · have He := Lib.hid (show newErr kind k o = 0 by unfold newErr; rw [if_neg (by omega), if_neg (by omega), if_neg (by omega)])
          clear hr
          rcases hk with rfl | rfl
          · obtain rfl : o = 2 := by omega
            clear h3
            go_enter Try.func19, Try.ntmps19
            go_wp2_with fail
            go_ret2
            have ht := new_tree w 1 k 2
            exact ⟨below_then (below_then (below_then (below_alloc ..) (below_alloc ..)) (below_alloc ..)) (below_alloc ..), .inr ⟨He.out, _, rfl, by simpa using ht⟩⟩
          · have ho1 : 1 ≤ o := by omega
            have ho2 : o ≤ 64 := by omega
            clear h3
            go_enter Try.func19, Try.ntmps19
            go_wp2_with fail
            go_ret2
            have ht := new_tree w 2 k o
            exact ⟨below_then (below_then (below_then (below_alloc ..) (below_alloc ..)) (below_alloc ..)) (below_alloc ..), .inr ⟨He.out, _, rfl, by simpa using ht⟩⟩
  · have He := Lib.hid (show newErr kind k o = 30 by unfold newErr; rw [if_pos (by omega)])
    have hb1 : (kind != 1) = true := by rw [bne_iff_ne]; omega
    have hb2 : (kind != 2) = true := by rw [bne_iff_ne]; omega
    clear hk hr
    go_enter Try.func19, Try.ntmps19
    go_wp2_with fail
    go_ret2
    exact ⟨Below.refl _ _, .inl ⟨by rw [He.out]; decide, by rw [He.out]; rfl⟩⟩
end Go.Proofs.Ytoafjmfnnbpnoaa
