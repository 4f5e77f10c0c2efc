/-
  Contracts of the program's and the reference's small functions on whole numbers.
-/
import Derived.Test.YtjiogodidicaeaaFl
import Derived.Test.YtjiogodidicaeaaRows
namespace Go.Proofs.Ytjiogodidicaeaa
open Go.RowKit

/-- Whether a number lies within two others. -/
def inB (x lo hi : Int) : Bool := decide (lo ≤ x ∧ x ≤ hi)
theorem inB_yes {x lo hi : Int} (h1 : lo ≤ x) (h2 : x ≤ hi) : inB x lo hi = true := decide_eq_true ⟨h1, h2⟩
theorem inB_no {x lo hi : Int} (h : ¬ (lo ≤ x ∧ x ≤ hi)) : inB x lo hi = false := decide_eq_false h
theorem inB_true {x lo hi : Int} (h : inB x lo hi = true) : lo ≤ x ∧ x ≤ hi := of_decide_eq_true h
theorem inB_false {x lo hi : Int} (h : inB x lo hi = false) : ¬ (lo ≤ x ∧ x ≤ hi) := of_decide_eq_false h
theorem ret_bool {a b : Bool} (h : a = b) : Ending.returned (.bool a) = .returned (.bool b) := by rw [h]
theorem ret_int {k : IntKind} {a b : Int} (h : a = b) : Ending.returned (.int k a) = .returned (.int k b) := by rw [h]

theorem l00In_any (x lo hi : Int) (w : World) : Calls Try.prog 47 #[.int .i64 x, .int .i64 lo, .int .i64 hi] w fun e w' => e = .returned (.bool (inB x lo hi)) ∧ w = w' := by
  by_cases h1 : lo ≤ x
  · by_cases h2 : x ≤ hi
    all_goals
      go_enter Try.func47, Try.ntmps47
      go_wp2
      go_ret
      exact ⟨ret_bool (by simp [inB, h1, h2]), rfl⟩
  · go_enter Try.func47, Try.ntmps47
    go_wp2
    go_ret
    exact ⟨ret_bool (inB_no (by omega)).symm, rfl⟩

theorem in_any (x lo hi : Int) (w : World) : Calls Try.prog 49 #[.int .i64 x, .int .i64 lo, .int .i64 hi] w fun e w' => e = .returned (.bool (inB x lo hi)) ∧ w = w' := by
  by_cases h1 : lo ≤ x
  · by_cases h2 : x ≤ hi
    all_goals
      go_enter Try.func49, Try.ntmps49
      go_wp2
      go_ret
      exact ⟨ret_bool (by simp [inB, h1, h2]), rfl⟩
  · go_enter Try.func49, Try.ntmps49
    go_wp2
    go_ret
    exact ⟨ret_bool (inB_no (by omega)).symm, rfl⟩

/-- A code unless something is so. -/
def unl (b : Bool) (c : Int) : Int := if b then 0 else c
theorem unless_any (b : Bool) (c : Int) (w : World) : Calls Try.prog 67 #[.bool b, .int .i64 c] w fun e w' => e = .returned (.int .i64 (unl b c)) ∧ w = w' := by
  cases b
  all_goals
    go_enter Try.func67, Try.ntmps67
    go_wp2
    go_ret
    exact ⟨rfl, rfl⟩


/-! ### BlockCount -/
/-- How many blocks a signal has, of right numbers. -/
def cntF (l s p : Int) : Int := if l = 0 then 0 else if l ≤ s then 1 else 1 + (l - s + p - 1) / p
theorem cntF_zero {s p : Int} : cntF 0 s p = 0 := rfl
theorem cntF_one {l s p : Int} (h0 : ¬ l = 0) (h1 : l ≤ s) : cntF l s p = 1 := by unfold cntF; rw [if_neg h0, if_pos h1]
theorem cntF_more {l s p : Int} (h0 : ¬ l = 0) (h1 : ¬ l ≤ s) : cntF l s p = 1 + (l - s + p - 1) / p := by unfold cntF; rw [if_neg h0, if_neg h1]
theorem count_any (l s p : Int) (w : World) (hl : 0 ≤ l) (hl2 : l ≤ 256) (hs : 1 ≤ s) (hs2 : s ≤ 256) (hp : 1 ≤ p) (hp2 : p ≤ s) :
    Calls Try.prog 48 #[.int .i64 l, .int .i64 s, .int .i64 p] w fun e w' => e = .returned (.int .i64 (cntF l s p)) ∧ w = w' := by
  by_cases h0 : l = 0
  · subst h0
    go_enter Try.func48, Try.ntmps48
    go_wp2
    go_ret
    exact ⟨rfl, rfl⟩
  · by_cases h1 : l ≤ s
    · go_enter Try.func48, Try.ntmps48
      go_wp2
      go_ret
      exact ⟨ret_int (cntF_one h0 h1).symm, rfl⟩
    · have hd : 0 ≤ (l - s + p - 1) / p := Int.ediv_nonneg (by omega) (by omega)
      have hd1 : (l - s + p - 1) / p ≤ l - s + p - 1 := Int.ediv_le_self _ (by omega)
      go_enter Try.func48, Try.ntmps48
      go_wp2
      go_ret
      exact ⟨ret_int (cntF_more h0 (by omega)).symm, rfl⟩

/-- What both BlockCounts return. -/
def bcOk (l s p : Int) : Prop := 0 ≤ l ∧ l ≤ 256 ∧ 1 ≤ s ∧ s ≤ 256 ∧ 1 ≤ p ∧ p ≤ s
instance (l s p : Int) : Decidable (bcOk l s p) := by unfold bcOk; infer_instance
def bc0 (l s p : Int) : Int := if bcOk l s p then cntF l s p else 0
def bc1 (l s p : Int) : Int := if bcOk l s p then 0 else 2
theorem ret_bc {l s p a b : Int} (h0 : a = bc0 l s p) (h1 : b = bc1 l s p) : Ending.returned (.tuple #[.int .i64 a, .int .i64 b]) = .returned (.tuple #[.int .i64 (bc0 l s p), .int .i64 (bc1 l s p)]) := by rw [h0, h1]
theorem bc0_no {l s p : Int} (h : ¬ bcOk l s p) : 0 = bc0 l s p := (if_neg h).symm
theorem bc1_no {l s p : Int} (h : ¬ bcOk l s p) : 2 = bc1 l s p := (if_neg h).symm
theorem bc0_yes {l s p a : Int} (h : bcOk l s p) (ha : a = cntF l s p) : a = bc0 l s p := ha.trans (if_pos h).symm
theorem bc1_yes {l s p : Int} (h : bcOk l s p) : 0 = bc1 l s p := (if_pos h).symm
theorem bc_no1 {l s p : Int} (h : inB l 0 256 = false) : ¬ bcOk l s p := fun k => inB_false h ⟨k.1, k.2.1⟩
theorem bc_no2 {l s p : Int} (h : inB s 1 256 = false) : ¬ bcOk l s p := fun k => inB_false h ⟨k.2.2.1, k.2.2.2.1⟩
theorem bc_no3 {l s p : Int} (h : inB p 1 s = false) : ¬ bcOk l s p := fun k => inB_false h ⟨k.2.2.2.2.1, k.2.2.2.2.2⟩

theorem specCount_any (l s p : Int) (w : World) : Calls Try.prog 14 #[.int .i64 l, .int .i64 s, .int .i64 p] w fun e w' => e = .returned (.tuple #[.int .i64 (bc0 l s p), .int .i64 (bc1 l s p)]) ∧ w = w' := by
  cases b1 : inB l 0 256 with
  | false =>
    go_enter Try.func14, Try.ntmps14
    go_wp2_with (go_at_call 47; refine (l00In_any _ _ _ _).mono ?_; rintro e w' ⟨rfl, rfl⟩)
    go_ret2
    exact ⟨ret_bc (bc0_no (bc_no1 b1)) (bc1_no (bc_no1 b1)), rfl⟩
  | true =>
    cases b2 : inB s 1 256 with
    | false =>
      go_enter Try.func14, Try.ntmps14
      go_wp2_with (go_at_call 47; refine (l00In_any _ _ _ _).mono ?_; rintro e w' ⟨rfl, rfl⟩)
      go_ret2
      exact ⟨ret_bc (bc0_no (bc_no2 b2)) (bc1_no (bc_no2 b2)), rfl⟩
    | true =>
      cases b3 : inB p 1 s with
      | false =>
        go_enter Try.func14, Try.ntmps14
        go_wp2_with (go_at_call 47; refine (l00In_any _ _ _ _).mono ?_; rintro e w' ⟨rfl, rfl⟩)
        go_ret2
        exact ⟨ret_bc (bc0_no (bc_no3 b3)) (bc1_no (bc_no3 b3)), rfl⟩
      | true =>
        obtain ⟨hl, hl2⟩ := inB_true b1
        obtain ⟨hs, hs2⟩ := inB_true b2
        obtain ⟨hp, hp2⟩ := inB_true b3
        go_enter Try.func14, Try.ntmps14
        go_wp2_with (first | (go_at_call 47; refine (l00In_any _ _ _ _).mono ?_; rintro e w' ⟨rfl, rfl⟩) | (go_at_call 48; refine (count_any l s p _ hl hl2 hs hs2 hp hp2).mono ?_; rintro e w' ⟨rfl, rfl⟩))
        go_ret2
        exact ⟨ret_bc (bc0_yes ⟨hl, hl2, hs, hs2, hp, hp2⟩ rfl) (bc1_yes ⟨hl, hl2, hs, hs2, hp, hp2⟩), rfl⟩

theorem implCount_any (l s p : Int) (w : World) : Calls Try.prog 15 #[.int .i64 l, .int .i64 s, .int .i64 p] w fun e w' => e = .returned (.tuple #[.int .i64 (bc0 l s p), .int .i64 (bc1 l s p)]) ∧ w = w' := by
  cases b1 : inB l 0 256 with
  | false =>
    go_enter Try.func15, Try.ntmps15
    go_wp2_with (go_at_call 49; refine (in_any _ _ _ _).mono ?_; rintro e w' ⟨rfl, rfl⟩)
    go_ret2
    exact ⟨ret_bc (bc0_no (bc_no1 b1)) (bc1_no (bc_no1 b1)), rfl⟩
  | true =>
    cases b2 : inB s 1 256 with
    | false =>
      go_enter Try.func15, Try.ntmps15
      go_wp2_with (go_at_call 49; refine (in_any _ _ _ _).mono ?_; rintro e w' ⟨rfl, rfl⟩)
      go_ret2
      exact ⟨ret_bc (bc0_no (bc_no2 b2)) (bc1_no (bc_no2 b2)), rfl⟩
    | true =>
      cases b3 : inB p 1 s with
      | false =>
        go_enter Try.func15, Try.ntmps15
        go_wp2_with (go_at_call 49; refine (in_any _ _ _ _).mono ?_; rintro e w' ⟨rfl, rfl⟩)
        go_ret2
        exact ⟨ret_bc (bc0_no (bc_no3 b3)) (bc1_no (bc_no3 b3)), rfl⟩
      | true =>
        obtain ⟨hl, hl2⟩ := inB_true b1
        obtain ⟨hs, hs2⟩ := inB_true b2
        obtain ⟨hp, hp2⟩ := inB_true b3
        by_cases h0 : l = 0
        · subst h0
          go_enter Try.func15, Try.ntmps15
          go_wp2_with (go_at_call 49; refine (in_any _ _ _ _).mono ?_; rintro e w' ⟨rfl, rfl⟩)
          go_ret2
          exact ⟨ret_bc (bc0_yes ⟨hl, hl2, hs, hs2, hp, hp2⟩ rfl) (bc1_yes ⟨hl, hl2, hs, hs2, hp, hp2⟩), rfl⟩
        · by_cases h1 : l < s
          · have hd : (p - 1) / p = 0 := Int.ediv_eq_zero_of_lt (by omega) (by omega)
            go_enter Try.func15, Try.ntmps15
            go_wp2_with (go_at_call 49; refine (in_any _ _ _ _).mono ?_; rintro e w' ⟨rfl, rfl⟩)
            go_ret2
            exact ⟨ret_bc (bc0_yes ⟨hl, hl2, hs, hs2, hp, hp2⟩ (cntF_one h0 (by omega)).symm) (bc1_yes ⟨hl, hl2, hs, hs2, hp, hp2⟩), rfl⟩
          · by_cases h2 : l = s
            · subst h2
              have hd : (p - 1) / p = 0 := Int.ediv_eq_zero_of_lt (by omega) (by omega)
              go_enter Try.func15, Try.ntmps15
              go_wp2_with (go_at_call 49; refine (in_any _ _ _ _).mono ?_; rintro e w' ⟨rfl, rfl⟩)
              go_ret2
              exact ⟨ret_bc (bc0_yes ⟨hl, hl2, hs, hs2, hp, hp2⟩ (cntF_one h0 (by omega)).symm) (bc1_yes ⟨hl, hl2, hs, hs2, hp, hp2⟩), rfl⟩
            · have hd : 0 ≤ (l - s + p - 1) / p := Int.ediv_nonneg (by omega) (by omega)
              have hd1 : (l - s + p - 1) / p ≤ l - s + p - 1 := Int.ediv_le_self _ (by omega)
              go_enter Try.func15, Try.ntmps15
              go_wp2_with (go_at_call 49; refine (in_any _ _ _ _).mono ?_; rintro e w' ⟨rfl, rfl⟩)
              go_ret2
              exact ⟨ret_bc (bc0_yes ⟨hl, hl2, hs, hs2, hp, hp2⟩ (cntF_more h0 (by omega)).symm) (bc1_yes ⟨hl, hl2, hs, hs2, hp, hp2⟩), rfl⟩

theorem law_BlockCount (l s p : Int) (_ : (Lit.int .i64 l).wf = true) (_ : (Lit.int .i64 s).wf = true) (_ : (Lit.int .i64 p).wf = true) (w : World) : Calls Try.prog 3 #[.int .i64 l, .int .i64 s, .int .i64 p] w fun e w' => e = .returned (.bool true) ∧ Below w.heap.size w w' := by
  go_enter Try.func3, Try.ntmps3
  go_wp2_with (first | (go_at_call 14; refine (specCount_any _ _ _ _).mono ?_; rintro e w' ⟨rfl, rfl⟩) | (go_at_call 15; refine (implCount_any _ _ _ _).mono ?_; rintro e w' ⟨rfl, rfl⟩))
  go_ret
  exact ⟨rfl, Below.refl _ _⟩
end Go.Proofs.Ytjiogodidicaeaa
