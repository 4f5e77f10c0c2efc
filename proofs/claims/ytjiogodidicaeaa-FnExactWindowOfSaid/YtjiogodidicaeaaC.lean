/-
  Contracts of the program's limits, codes and sums.
-/
import Derived.Test.YtjiogodidicaeaaB
namespace Go.Proofs.Ytjiogodidicaeaa
open Go.RowKit

/-- Over 256. -/
theorem over_any (x : Int) (w : World) : Calls Try.prog 79 #[.int .i64 x] w fun e w' => e = .returned (.bool (decide (256 < x))) ∧ w = w' := by
  go_enter Try.func79, Try.ntmps79
  go_wp2
  go_ret
  exact ⟨rfl, rfl⟩

theorem index_any (b cap : Nat) (x : Int) (w : World) (hc : w.cell? ⟨b, 0, none⟩ = some (.int .i64 x)) :
    Calls Try.prog 87 #[.slice (some ⟨b, 0, none⟩) 1 cap, .func (.func 79) #[] #[]] w fun e w' => e = .returned (.int .i64 (if 256 < x then 0 else -1)) ∧ w = w' := by
  by_cases h : 256 < x
  · go_enter Try.func87, Try.ntmps87
    go_wp2
    refine wp_loop_rounds 2 ?_
    rw [rounds_succ]
    go_wp2_with (go_at_call 79; refine (over_any _ _).mono ?_; rintro e w' ⟨rfl, rfl⟩)
    go_ret
    exact ⟨rfl, rfl⟩
  · go_enter Try.func87, Try.ntmps87
    go_wp2
    refine wp_loop_rounds 2 ?_
    rw [rounds_succ]
    go_wp2_with (go_at_call 79; refine (over_any _ _).mono ?_; rintro e w' ⟨rfl, rfl⟩)
    rw [rounds_succ]
    go_wp2
    go_ret
    exact ⟨rfl, rfl⟩
theorem contains_any (b cap : Nat) (x : Int) (w : World) (hc : w.cell? ⟨b, 0, none⟩ = some (.int .i64 x)) :
    Calls Try.prog 78 #[.slice (some ⟨b, 0, none⟩) 1 cap, .func (.func 79) #[] #[]] w fun e w' => e = .returned (.bool (decide (256 < x))) ∧ w = w' := by
  by_cases h : 256 < x
  all_goals
    go_enter Try.func78, Try.ntmps78
    go_wp2_with (go_at_call 87; refine (index_any _ _ x _ hc).mono ?_; rintro e w' ⟨rfl, rfl⟩)
    go_ret
    exact ⟨ret_bool (by simp [h]), rfl⟩
/-- ErrLimit of one length. -/
def limC (x : Int) : Int := if 256 < x then 3 else 0
theorem limit_any (b cap : Nat) (x : Int) (w : World) (hc : w.cell? ⟨b, 0, none⟩ = some (.int .i64 x)) :
    Calls Try.prog 68 #[.slice (some ⟨b, 0, none⟩) 1 cap] w fun e w' => e = .returned (.int .i64 (limC x)) ∧ w = w' := by
  by_cases h : 256 < x
  all_goals
    go_enter Try.func68, Try.ntmps68
    go_wp2_with (first | (go_at_call 78; refine (contains_any _ _ x _ hc).mono ?_; rintro e w' ⟨rfl, rfl⟩) | (go_at_call 67; refine (unless_any _ _ _).mono ?_; rintro e w' ⟨rfl, rfl⟩))
    go_ret
    exact ⟨ret_int (by simp [limC, unl, h]), rfl⟩
theorem realLimit_any (ao : Option Addr) (n cap : Nat) (w : World) :
    Calls Try.prog 50 #[.slice ao n cap] w fun e w' => e = .returned (.int .i64 (limC n)) ∧ Below w.heap.size w w' := by
  have hc : (w.alloc (.cells #[.int .i64 n] 3)).cell? ⟨w.heap.size, 0, none⟩ = some (.int .i64 n) := by
    rw [World.cell?_alloc_at _ _ _ _ rfl]; rfl
  go_enter Try.func50, Try.ntmps50
  go_wp2_with (go_at_call 68; refine (limit_any _ _ (n : Int) _ hc).mono ?_; rintro e w' ⟨rfl, rfl⟩)
  go_ret
  exact ⟨rfl, (Below.refl _ _).alloc (Nat.le_refl _) _⟩
/-- The code of a hop. -/
def hopC (h n : Int) : Int := unl (inB h 1 n) 2
theorem hop_any (h n : Int) (w : World) : Calls Try.prog 63 #[.int .i64 h, .int .i64 n] w fun e w' => e = .returned (.int .i64 (hopC h n)) ∧ w = w' := by
  go_enter Try.func63, Try.ntmps63
  go_wp2_with (first | (go_at_call 49; refine (in_any _ _ _ _).mono ?_; rintro e w' ⟨rfl, rfl⟩) | (go_at_call 67; refine (unless_any _ _ _).mono ?_; rintro e w' ⟨rfl, rfl⟩))
  go_ret
  exact ⟨rfl, rfl⟩
/-- The first code that is not 0. -/
def fst2 (a b : Int) : Int := if a = 0 then b else a
theorem first2_any (q cap : Nat) (a b : Int) (w : World) (hc : w.cell? ⟨q, 0, none⟩ = some (.int .i64 a)) (hc1 : w.cell? ⟨q, 1, none⟩ = some (.int .i64 b)) :
    Calls Try.prog 62 #[.slice (some ⟨q, 0, none⟩) 2 cap] w fun e w' => e = .returned (.int .i64 (fst2 a b)) ∧ w = w' := by
  by_cases h : a = 0
  · subst h
    by_cases h' : b = 0
    · subst h'
      go_enter Try.func62, Try.ntmps62
      go_wp2
      refine wp_loop_rounds 3 ?_
      rw [rounds_succ]
      go_wp2
      rw [rounds_succ]
      go_wp2
      rw [rounds_succ]
      go_wp2
      go_ret
      exact ⟨rfl, rfl⟩
    · go_enter Try.func62, Try.ntmps62
      go_wp2
      refine wp_loop_rounds 3 ?_
      rw [rounds_succ]
      go_wp2
      rw [rounds_succ]
      go_wp2
      go_ret
      exact ⟨rfl, rfl⟩
  · go_enter Try.func62, Try.ntmps62
    go_wp2
    refine wp_loop_rounds 3 ?_
    rw [rounds_succ]
    go_wp2
    go_ret
    exact ⟨ret_int (if_neg h).symm, rfl⟩
end Go.Proofs.Ytjiogodidicaeaa
