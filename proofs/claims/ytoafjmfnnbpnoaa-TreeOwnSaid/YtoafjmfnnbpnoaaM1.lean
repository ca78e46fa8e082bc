/-
  What the reference's M.Check, M.Right, M.Big compute of a machine that is handed in.
-/
import Derived.Test.YtoafjmfnnbpnoaaW3
set_option linter.unusedVariables false
set_option linter.unusedSimpArgs false
namespace Go.Proofs.Ytoafjmfnnbpnoaa
open Go Go.RowKit

/-- A machine as data. -/
structure Mach where
  kind : Int
  k : Int
  o : Int
  n : Int
  next : List Int
  out : List Int

/-- An api.Machine that reads as m. -/
def MachV (w : World) (ok : Nat → Prop) (v : Value) (m : Mach) : Prop :=
  ∃ vn vo, v = .agg #[.int .i64 m.kind, .int .i64 m.k, .int .i64 m.o, .int .i64 m.n, vn, vo] ∧ SI w ok vn m.next ∧ SI w ok vo m.out
theorem MachV.keep {w w' : World} {ok ok' : Nat → Prop} {v : Value} {m : Mach} (h : MachV w ok v m)
    (hb : ∀ k, ok k → k < w.heap.size → w'.heap[k]? = w.heap[k]?) (ho : ∀ k, ok k → k < w.heap.size → ok' k) : MachV w' ok' v m := by
  obtain ⟨vn, vo, e, h1, h2⟩ := h
  exact ⟨vn, vo, e, h1.keep hb ho, h2.keep hb ho⟩
theorem MachV.below {w w' : World} {ok : Nat → Prop} {v : Value} {m : Mach} (h : MachV w ok v m) (hb : Below w.heap.size w w') : MachV w' ok v m :=
  h.keep (fun k _ hk => hb.block k hk) (fun _ h _ => h)
theorem MachV.open {w : World} {ok : Nat → Prop} {v : Value} {m : Mach} (h : MachV w ok v m) : ∃ A1 c1 A2 c2,
    v = .agg #[.int .i64 m.kind, .int .i64 m.k, .int .i64 m.o, .int .i64 m.n, .slice A1 m.next.length c1, .slice A2 m.out.length c2] ∧
    SI w ok (.slice A1 m.next.length c1) m.next ∧ SI w ok (.slice A2 m.out.length c2) m.out ∧ m.next.length ≤ c1 ∧ m.out.length ≤ c2 ∧ m.next.length ≤ 9223372036854775807 ∧ m.out.length ≤ 9223372036854775807 := by
  obtain ⟨vn, vo, rfl, h1, h2⟩ := h
  obtain ⟨A1, c1, rfl, a, b⟩ := h1.open
  obtain ⟨A2, c2, rfl, a', b'⟩ := h2.open
  exact ⟨A1, c1, A2, c2, rfl, h1, h2, a, a', b, b'⟩

def mcheckF (m : Mach) : Int × Int :=
  if m.kind ≠ 1 ∧ m.kind ≠ 2 then (0, 30)
  else if m.k < 1 ∨ m.k > 64 then (0, 1)
  else if (m.kind = 1 ∧ m.o ≠ 2) ∨ m.o < 1 ∨ m.o > 64 then (0, 33)
  else if m.n < 1 ∨ m.n > 1024 then (0, 3)
  else if (m.next.length : Int) ≠ m.n * m.k ∨ (m.out.length : Int) ≠ (if m.kind = 2 then m.n * m.k else m.n) then (0, 31)
  else match badAt m.n m.next 0 with
    | some i => (i, 32)
    | none => match badAt m.o m.out 0 with
      | some i => (i, 33)
      | none => (0, 0)

def bigF (m : Mach) (s : Int) : Bool := decide (m.n > s ∨ m.next.length > 70000 ∨ m.out.length > 70000)
theorem M_Big (v : Value) (m : Mach) (s : Int) (w : World) (ok : Nat → Prop) (h : MachV w ok v m) :
    Calls Try.prog 35 #[v, .int .i64 s] w fun e w' => e = .returned (.bool (bigF m s)) ∧ Below w.heap.size w w' := by
  obtain ⟨A1, c1, A2, c2, rfl, _, _, _, _, hm1, hm2⟩ := h.open
  obtain ⟨kind, k, o, n, next, out⟩ := m
  simp only at *
  clear h
  by_cases h1 : n > s
  · have H := Lib.hid (show bigF ⟨kind, k, o, n, next, out⟩ s = true from decide_eq_true (by simp only; omega))
    go_enter Try.func35, Try.ntmps35
    go_wp2
    go_ret
    exact ⟨ret_bool (by first | (rw [H.out]; done) | (rw [H.out]; simp; done) | (rw [H.out]; simp; omega)), below_alloc ..⟩
  · by_cases h2 : next.length > 70000
    · have H := Lib.hid (show bigF ⟨kind, k, o, n, next, out⟩ s = true from decide_eq_true (by simp only; omega))
      go_enter Try.func35, Try.ntmps35
      go_wp2
      go_ret
      exact ⟨ret_bool (by first | (rw [H.out]; done) | (rw [H.out]; simp; done) | (rw [H.out]; simp; omega)), below_alloc ..⟩
    · by_cases h3 : out.length > 70000
      · have H := Lib.hid (show bigF ⟨kind, k, o, n, next, out⟩ s = true from decide_eq_true (by simp only; omega))
        go_enter Try.func35, Try.ntmps35
        go_wp2
        go_ret
        exact ⟨ret_bool (by first | (rw [H.out]; done) | (rw [H.out]; simp; done) | (rw [H.out]; simp; omega)), below_alloc ..⟩
      · have H := Lib.hid (show bigF ⟨kind, k, o, n, next, out⟩ s = false from decide_eq_false (by simp only; omega))
        go_enter Try.func35, Try.ntmps35
        go_wp2
        go_ret
        exact ⟨ret_bool (by first | (rw [H.out]; done) | (rw [H.out]; simp; done) | (rw [H.out]; simp; omega)), below_alloc ..⟩

def pairV (p : Int × Int) : Value := .tuple #[.int .i64 p.1, .int .i64 p.2]

set_option maxRecDepth 20000 in
theorem M_Check_head (A1 A2 : Option Addr) (c1 c2 : Nat) (kind k o n : Int) (next out : List Int) (w : World) (hm1 : next.length ≤ 9223372036854775807) (hm2 : out.length ≤ 9223372036854775807)
    (h : ¬ ((kind = 1 ∨ kind = 2) ∧ 1 ≤ k ∧ k ≤ 64 ∧ (kind = 1 → o = 2) ∧ 1 ≤ o ∧ o ≤ 64 ∧ 1 ≤ n ∧ n ≤ 1024)) :
    Calls Try.prog 119 #[.agg #[.int .i64 kind, .int .i64 k, .int .i64 o, .int .i64 n, .slice A1 next.length c1, .slice A2 out.length c2]] w fun e w' =>
      e = .returned (pairV (mcheckF ⟨kind, k, o, n, next, out⟩)) ∧ Below w.heap.size w w' := by
  by_cases hk : kind = 1 ∨ kind = 2
  · by_cases h1 : k < 1
    · have He := Lib.hid (show mcheckF ⟨kind, k, o, n, next, out⟩ = (0, 1) by unfold mcheckF; simp only; rw [if_neg (by omega), if_pos (by omega)])
      clear h
      rcases hk with rfl | rfl
      all_goals
        go_enter Try.func119, Try.ntmps119
        go_wp2
        go_ret2
        exact ⟨by rw [He.out]; rfl, below_alloc ..⟩
    · by_cases h2 : k > 64
      · have He := Lib.hid (show mcheckF ⟨kind, k, o, n, next, out⟩ = (0, 1) by unfold mcheckF; simp only; rw [if_neg (by omega), if_pos (by omega)])
        clear h
        rcases hk with rfl | rfl
        all_goals
          go_enter Try.func119, Try.ntmps119
          go_wp2
          go_ret2
          exact ⟨by rw [He.out]; rfl, below_alloc ..⟩
      · by_cases h3 : (kind = 1 ∧ o ≠ 2) ∨ o < 1 ∨ o > 64
        · have He := Lib.hid (show mcheckF ⟨kind, k, o, n, next, out⟩ = (0, 33) by unfold mcheckF; simp only; rw [if_neg (by omega), if_neg (by omega), if_pos (by omega)])
          clear h
          rcases hk with rfl | rfl
          · by_cases ho : o = 2
            · omega
            · have hb : (o != 2) = true := by simp [ho]
              clear ho h3
              go_enter Try.func119, Try.ntmps119
              go_wp2
              go_ret2
              exact ⟨by rw [He.out]; rfl, below_alloc ..⟩
          · by_cases ho : o < 1
            · clear h3
              go_enter Try.func119, Try.ntmps119
              go_wp2
              go_ret2
              exact ⟨by rw [He.out]; rfl, below_alloc ..⟩
            · have ho2 : o > 64 := by omega
              clear h3
              go_enter Try.func119, Try.ntmps119
              go_wp2
              go_ret2
              exact ⟨by rw [He.out]; rfl, below_alloc ..⟩
        · have He := Lib.hid (show mcheckF ⟨kind, k, o, n, next, out⟩ = (0, 3) by unfold mcheckF; simp only; rw [if_neg (by omega), if_neg (by omega), if_neg (by omega), if_pos (by omega)])
          rcases hk with rfl | rfl
          · obtain rfl : o = 2 := by omega
            by_cases hn : n < 1
            · clear h h3
              go_enter Try.func119, Try.ntmps119
              go_wp2
              go_ret2
              exact ⟨by rw [He.out]; rfl, below_alloc ..⟩
            · have hn2 : n > 1024 := by omega
              clear h h3
              go_enter Try.func119, Try.ntmps119
              go_wp2
              go_ret2
              exact ⟨by rw [He.out]; rfl, below_alloc ..⟩
          · have ho1 : 1 ≤ o := by omega
            have ho2 : o ≤ 64 := by omega
            by_cases hn : n < 1
            · clear h h3
              go_enter Try.func119, Try.ntmps119
              go_wp2
              go_ret2
              exact ⟨by rw [He.out]; rfl, below_alloc ..⟩
            · have hn2 : n > 1024 := by omega
              clear h h3
              go_enter Try.func119, Try.ntmps119
              go_wp2
              go_ret2
              exact ⟨by rw [He.out]; rfl, below_alloc ..⟩
  · have He := Lib.hid (show mcheckF ⟨kind, k, o, n, next, out⟩ = (0, 30) by unfold mcheckF; simp only; rw [if_pos (by omega)])
    have hb1 : (kind != 1) = true := by rw [bne_iff_ne]; omega
    have hb2 : (kind != 2) = true := by rw [bne_iff_ne]; omega
    clear hk h
    go_enter Try.func119, Try.ntmps119
    go_wp2
    go_ret2
    exact ⟨by rw [He.out]; rfl, below_alloc ..⟩

set_option maxRecDepth 20000 in
set_option maxHeartbeats 1000000 in
theorem M_Check_tail (A1 A2 : Option Addr) (c1 c2 : Nat) (kind k o n nk : Int) (next out : List Int) (w : World) (ok : Nat → Prop) (hm1 : next.length ≤ 9223372036854775807) (hm2 : out.length ≤ 9223372036854775807)
    (hs1 : SI w ok (.slice A1 next.length c1) next) (hs2 : SI w ok (.slice A2 out.length c2) out)
    (hk : kind = 1 ∨ kind = 2) (k1 : 1 ≤ k) (k2 : k ≤ 64) (ho : kind = 1 → o = 2) (o1 : 1 ≤ o) (o2 : o ≤ 64) (n1 : 1 ≤ n) (n2 : n ≤ 1024) (nk1 : 0 ≤ n * k) (nk2 : n * k ≤ 65536) :
    Calls Try.prog 119 #[.agg #[.int .i64 kind, .int .i64 k, .int .i64 o, .int .i64 n, .slice A1 next.length c1, .slice A2 out.length c2]] w fun e w' =>
      e = .returned (pairV (mcheckF ⟨kind, k, o, n, next, out⟩)) ∧ Below w.heap.size w w' := by
  have HF : Hid (mcheckF ⟨kind, k, o, n, next, out⟩ = if (next.length : Int) ≠ n * k ∨ (out.length : Int) ≠ (if kind = 2 then n * k else n) then (0, 31)
    else match badAt n (next.drop 0) 0 with
    | some i => ((i : Int), (32 : Int))
    | none => match badAt o (out.drop 0) 0 with
      | some i => ((i : Int), (33 : Int))
      | none => (0, 0)) := by
    show _ = _
    unfold mcheckF; simp only
    rw [if_neg (by omega), if_neg (by omega), if_neg (by omega), if_neg (by omega)]; rfl
  have key : ∀ (q : Int), (kind = 2 → q = n * k) → (kind = 1 → q = n) → (if kind = 2 then n * k else n) = q := by
    intro q h2 h1; split
    · rw [h2 ‹_›]
    · rw [h1 (by omega)]
  by_cases hl1 : (next.length : Int) = n * k
  · by_cases hl2 : (out.length : Int) = (if kind = 2 then n * k else n)
    · have hb1 : ((next.length : Int) != n * k) = false := by rw [hl1]; simp
      have Hl1 := Lib.hid hl1
      have Hl2 := Lib.hid hl2
      have HM : Hid (mcheckF ⟨kind, k, o, n, next, out⟩ = match badAt n (next.drop 0) 0 with
        | some i => ((i : Int), (32 : Int))
        | none => match badAt o (out.drop 0) 0 with
          | some i => ((i : Int), (33 : Int))
          | none => (0, 0)) := by
        show _ = _
        rw [HF.out, if_neg]; rintro (h | h)
        · exact h hl1
        · exact h hl2
      clear HF
      have hb2 : (kind = 2 → ((out.length : Int) != n * k) = false) ∧ (kind = 1 → ((out.length : Int) != n) = false) := by
        constructor
        · intro e; rw [hl2, if_pos e]; simp
        · intro e; rw [hl2, if_neg (by omega)]; simp
      clear key hl1 hl2
      rcases hk with rfl | rfl
      · have hb3 := hb2.2 rfl; obtain rfl := ho rfl; clear hb2 ho
        go_enter Try.func119, Try.ntmps119
        go_wp2
        go_loopw [5] (fun i wr => ∃ j mm : Nat, j ≤ next.length ∧ i = .int .i64 j ∧ Hid (wr = (w.alloc (.cells #[.int .i64 1, .int .i64 k, .int .i64 2, .int .i64 n, .slice A1 next.length c1, .slice A2 out.length c2] 31)).drewN mm) ∧ Hid (mcheckF ⟨1, k, 2, n, next, out⟩ = match badAt n (next.drop j) j with
          | some i => ((i : Int), (32 : Int))
          | none => match badAt 2 (out.drop 0) 0 with
            | some i => ((i : Int), (33 : Int))
            | none => (0, 0))) (fun i _ => next.length - (intOf i).toNat)
        case atStart => exact ⟨0, 0, Nat.zero_le _, rfl, rfl, HM.out⟩
        case round =>
          clear HM
          obtain ⟨j, mm, hj, rfl, hw, hF⟩ := hrel
          have hw' := hw.out
          subst hw'
          clear hw
          by_cases hlt : j < next.length
          · obtain ⟨ad, rfl, _, hc⟩ := hs1.cell j hlt
            have hb := Lib.hid (badAt_drop n next j hlt)
            obtain ⟨x, hx⟩ : ∃ x, gI next j = x := ⟨_, rfl⟩
            rw [hx] at hc
            have Hx := Lib.hid hx
            have hcA := (below_alloc w (.cells #[.int .i64 1, .int .i64 k, .int .i64 2, .int .i64 n, .slice (some ad) next.length c1, .slice A2 out.length c2] 31)).cell (World.block_lt_of_cell? w _ hc)
            rw [hc] at hcA
            clear hx
            by_cases hx1 : x < 0
            · have he : Hid (mcheckF ⟨1, k, 2, n, next, out⟩ = ((j : Int), (32 : Int))) := by show _ = _; rw [hF.out, hb.out, Hx.out, if_pos (Or.inl hx1)]
              go_wp2
              go_quiet (fail)
              go_wp2
              go_ret2
              exact ⟨by rw [he.out]; rfl, below_drewN (below_drewN (below_alloc ..) _) _⟩
            · have hx1' : decide (x < 0) = false := by simpa using hx1
              by_cases hx2 : x ≥ n
              · have he : Hid (mcheckF ⟨1, k, 2, n, next, out⟩ = ((j : Int), (32 : Int))) := by show _ = _; rw [hF.out, hb.out, Hx.out, if_pos (Or.inr hx2)]
                go_wp2
                go_quiet (fail)
                go_wp2
                go_ret2
                exact ⟨by rw [he.out]; rfl, below_drewN (below_drewN (below_alloc ..) _) _⟩
              · have hx2' : decide (x ≥ n) = false := by simpa using hx2
                have hF' := hF.out
                rw [hb.out, Hx.out, if_neg (by omega)] at hF'
                have HF' := Lib.hid hF'
                clear hF'
                go_wp2
                go_quiet (fail)
                go_wp2
                go_roundw
                case rel => exact ⟨j + 1, mm + nq, by omega, by go_num, rfl, HF'.out⟩
                case measure => simp [intOf]; omega
          · have HM2 := hF.out
            rw [List.drop_eq_nil_of_le (by omega), badAt] at HM2
            simp only at HM2
            have HM2 := Lib.hid HM2
            clear hF
            go_wp2
            go_loopw [6] (fun i wr => ∃ j mm : Nat, j ≤ out.length ∧ i = .int .i64 j ∧ Hid (wr = (w.alloc (.cells #[.int .i64 1, .int .i64 k, .int .i64 2, .int .i64 n, .slice A1 next.length c1, .slice A2 out.length c2] 31)).drewN mm) ∧ Hid (mcheckF ⟨1, k, 2, n, next, out⟩ = match badAt 2 (out.drop j) j with
          | some i => ((i : Int), (33 : Int))
          | none => (0, 0))) (fun i _ => out.length - (intOf i).toNat)
            case atStart => exact ⟨0, mm, Nat.zero_le _, rfl, rfl, HM2.out⟩
            case round =>
              clear HM2 hlt hj
              obtain ⟨j, mm, hj, rfl, hw, hF⟩ := hrel
              have hw' := hw.out
              subst hw'
              clear hw
              by_cases hlt : j < out.length
              · obtain ⟨ad, rfl, _, hc⟩ := hs2.cell j hlt
                have hb := Lib.hid (badAt_drop 2 out j hlt)
                obtain ⟨x, hx⟩ : ∃ x, gI out j = x := ⟨_, rfl⟩
                rw [hx] at hc
                have Hx := Lib.hid hx
                have hcA := (below_alloc w (.cells #[.int .i64 1, .int .i64 k, .int .i64 2, .int .i64 n, .slice A1 next.length c1, .slice (some ad) out.length c2] 31)).cell (World.block_lt_of_cell? w _ hc)
                rw [hc] at hcA
                clear hx
                by_cases hx1 : x < 0
                · have he : Hid (mcheckF ⟨1, k, 2, n, next, out⟩ = ((j : Int), (33 : Int))) := by show _ = _; rw [hF.out, hb.out, Hx.out, if_pos (Or.inl hx1)]
                  go_wp2
                  go_quiet (fail)
                  go_wp2
                  go_ret2
                  exact ⟨by rw [he.out]; rfl, below_drewN (below_drewN (below_alloc ..) _) _⟩
                · have hx1' : decide (x < 0) = false := by simpa using hx1
                  by_cases hx2 : x ≥ 2
                  · have he : Hid (mcheckF ⟨1, k, 2, n, next, out⟩ = ((j : Int), (33 : Int))) := by show _ = _; rw [hF.out, hb.out, Hx.out, if_pos (Or.inr hx2)]
                    go_wp2
                    go_quiet (fail)
                    go_wp2
                    go_ret2
                    exact ⟨by rw [he.out]; rfl, below_drewN (below_drewN (below_alloc ..) _) _⟩
                  · have hx2' : decide (x ≥ 2) = false := by simpa using hx2
                    have hF' := hF.out
                    rw [hb.out, Hx.out, if_neg (by omega)] at hF'
                    have HF' := Lib.hid hF'
                    clear hF'
                    go_wp2
                    go_quiet (fail)
                    go_wp2
                    go_roundw
                    case rel => exact ⟨j + 1, mm + nq, by omega, by go_num, rfl, HF'.out⟩
                    case measure => simp [intOf]; omega
              · have HM2 := hF.out
                rw [List.drop_eq_nil_of_le (by omega), badAt] at HM2
                simp only at HM2
                have HM2 := Lib.hid HM2
                clear hF
                go_wp2
                go_ret2
                exact ⟨by rw [HM2.out]; rfl, below_drewN (below_alloc ..) _⟩
      · have hb3 := hb2.1 rfl; clear hb2 ho
        go_enter Try.func119, Try.ntmps119
        go_wp2
        go_loopw [5] (fun i wr => ∃ j mm : Nat, j ≤ next.length ∧ i = .int .i64 j ∧ Hid (wr = (w.alloc (.cells #[.int .i64 2, .int .i64 k, .int .i64 o, .int .i64 n, .slice A1 next.length c1, .slice A2 out.length c2] 31)).drewN mm) ∧ Hid (mcheckF ⟨2, k, o, n, next, out⟩ = match badAt n (next.drop j) j with
          | some i => ((i : Int), (32 : Int))
          | none => match badAt o (out.drop 0) 0 with
            | some i => ((i : Int), (33 : Int))
            | none => (0, 0))) (fun i _ => next.length - (intOf i).toNat)
        case atStart => exact ⟨0, 0, Nat.zero_le _, rfl, rfl, HM.out⟩
        case round =>
          clear HM
          obtain ⟨j, mm, hj, rfl, hw, hF⟩ := hrel
          have hw' := hw.out
          subst hw'
          clear hw
          by_cases hlt : j < next.length
          · obtain ⟨ad, rfl, _, hc⟩ := hs1.cell j hlt
            have hb := Lib.hid (badAt_drop n next j hlt)
            obtain ⟨x, hx⟩ : ∃ x, gI next j = x := ⟨_, rfl⟩
            rw [hx] at hc
            have Hx := Lib.hid hx
            have hcA := (below_alloc w (.cells #[.int .i64 2, .int .i64 k, .int .i64 o, .int .i64 n, .slice (some ad) next.length c1, .slice A2 out.length c2] 31)).cell (World.block_lt_of_cell? w _ hc)
            rw [hc] at hcA
            clear hx
            by_cases hx1 : x < 0
            · have he : Hid (mcheckF ⟨2, k, o, n, next, out⟩ = ((j : Int), (32 : Int))) := by show _ = _; rw [hF.out, hb.out, Hx.out, if_pos (Or.inl hx1)]
              go_wp2
              go_quiet (fail)
              go_wp2
              go_ret2
              exact ⟨by rw [he.out]; rfl, below_drewN (below_drewN (below_alloc ..) _) _⟩
            · have hx1' : decide (x < 0) = false := by simpa using hx1
              by_cases hx2 : x ≥ n
              · have he : Hid (mcheckF ⟨2, k, o, n, next, out⟩ = ((j : Int), (32 : Int))) := by show _ = _; rw [hF.out, hb.out, Hx.out, if_pos (Or.inr hx2)]
                go_wp2
                go_quiet (fail)
                go_wp2
                go_ret2
                exact ⟨by rw [he.out]; rfl, below_drewN (below_drewN (below_alloc ..) _) _⟩
              · have hx2' : decide (x ≥ n) = false := by simpa using hx2
                have hF' := hF.out
                rw [hb.out, Hx.out, if_neg (by omega)] at hF'
                have HF' := Lib.hid hF'
                clear hF'
                go_wp2
                go_quiet (fail)
                go_wp2
                go_roundw
                case rel => exact ⟨j + 1, mm + nq, by omega, by go_num, rfl, HF'.out⟩
                case measure => simp [intOf]; omega
          · have HM2 := hF.out
            rw [List.drop_eq_nil_of_le (by omega), badAt] at HM2
            simp only at HM2
            have HM2 := Lib.hid HM2
            clear hF
            go_wp2
            go_loopw [6] (fun i wr => ∃ j mm : Nat, j ≤ out.length ∧ i = .int .i64 j ∧ Hid (wr = (w.alloc (.cells #[.int .i64 2, .int .i64 k, .int .i64 o, .int .i64 n, .slice A1 next.length c1, .slice A2 out.length c2] 31)).drewN mm) ∧ Hid (mcheckF ⟨2, k, o, n, next, out⟩ = match badAt o (out.drop j) j with
          | some i => ((i : Int), (33 : Int))
          | none => (0, 0))) (fun i _ => out.length - (intOf i).toNat)
            case atStart => exact ⟨0, mm, Nat.zero_le _, rfl, rfl, HM2.out⟩
            case round =>
              clear HM2 hlt hj
              obtain ⟨j, mm, hj, rfl, hw, hF⟩ := hrel
              have hw' := hw.out
              subst hw'
              clear hw
              by_cases hlt : j < out.length
              · obtain ⟨ad, rfl, _, hc⟩ := hs2.cell j hlt
                have hb := Lib.hid (badAt_drop o out j hlt)
                obtain ⟨x, hx⟩ : ∃ x, gI out j = x := ⟨_, rfl⟩
                rw [hx] at hc
                have Hx := Lib.hid hx
                have hcA := (below_alloc w (.cells #[.int .i64 2, .int .i64 k, .int .i64 o, .int .i64 n, .slice A1 next.length c1, .slice (some ad) out.length c2] 31)).cell (World.block_lt_of_cell? w _ hc)
                rw [hc] at hcA
                clear hx
                by_cases hx1 : x < 0
                · have he : Hid (mcheckF ⟨2, k, o, n, next, out⟩ = ((j : Int), (33 : Int))) := by show _ = _; rw [hF.out, hb.out, Hx.out, if_pos (Or.inl hx1)]
                  go_wp2
                  go_quiet (fail)
                  go_wp2
                  go_ret2
                  exact ⟨by rw [he.out]; rfl, below_drewN (below_drewN (below_alloc ..) _) _⟩
                · have hx1' : decide (x < 0) = false := by simpa using hx1
                  by_cases hx2 : x ≥ o
                  · have he : Hid (mcheckF ⟨2, k, o, n, next, out⟩ = ((j : Int), (33 : Int))) := by show _ = _; rw [hF.out, hb.out, Hx.out, if_pos (Or.inr hx2)]
                    go_wp2
                    go_quiet (fail)
                    go_wp2
                    go_ret2
                    exact ⟨by rw [he.out]; rfl, below_drewN (below_drewN (below_alloc ..) _) _⟩
                  · have hx2' : decide (x ≥ o) = false := by simpa using hx2
                    have hF' := hF.out
                    rw [hb.out, Hx.out, if_neg (by omega)] at hF'
                    have HF' := Lib.hid hF'
                    clear hF'
                    go_wp2
                    go_quiet (fail)
                    go_wp2
                    go_roundw
                    case rel => exact ⟨j + 1, mm + nq, by omega, by go_num, rfl, HF'.out⟩
                    case measure => simp [intOf]; omega
              · have HM2 := hF.out
                rw [List.drop_eq_nil_of_le (by omega), badAt] at HM2
                simp only at HM2
                have HM2 := Lib.hid HM2
                clear hF
                go_wp2
                go_ret2
                exact ⟨by rw [HM2.out]; rfl, below_drewN (below_alloc ..) _⟩
    · have He : Hid (mcheckF ⟨kind, k, o, n, next, out⟩ = (0, 31)) := by show _ = _; rw [HF.out, if_pos (Or.inr hl2)]
      have hb1 : ((next.length : Int) != n * k) = false := by rw [hl1]; simp
      clear HF key hl1
      rcases hk with rfl | rfl
      · obtain rfl := ho rfl
        have hb2 : ((out.length : Int) != n) = true := by rw [bne_iff_ne]; simpa using hl2
        clear hl2 ho
        go_enter Try.func119, Try.ntmps119
        go_wp2
        go_ret2
        exact ⟨by rw [He.out]; rfl, below_alloc ..⟩
      · have hb2 : ((out.length : Int) != n * k) = true := by rw [bne_iff_ne]; simpa using hl2
        clear hl2 ho
        go_enter Try.func119, Try.ntmps119
        go_wp2
        go_ret2
        exact ⟨by rw [He.out]; rfl, below_alloc ..⟩
  · have He : Hid (mcheckF ⟨kind, k, o, n, next, out⟩ = (0, 31)) := by show _ = _; rw [HF.out, if_pos (Or.inl hl1)]
    have hb1 : ((next.length : Int) != n * k) = true := by rw [bne_iff_ne]; exact hl1
    clear HF key hl1
    rcases hk with rfl | rfl
    · obtain rfl := ho rfl
      clear ho
      go_enter Try.func119, Try.ntmps119
      go_wp2
      go_ret2
      exact ⟨by rw [He.out]; rfl, below_alloc ..⟩
    · clear ho
      go_enter Try.func119, Try.ntmps119
      go_wp2
      go_ret2
      exact ⟨by rw [He.out]; rfl, below_alloc ..⟩

end Go.Proofs.Ytoafjmfnnbpnoaa
