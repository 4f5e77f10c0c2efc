/-
  WindowWeights: the plain function, its parts' contracts.
-/
import Derived.Test.YtjiogodidicaeaaH
import Derived.Test.YtjiogodidicaeaaL
namespace Go.Proofs.Ytjiogodidicaeaa
open Go.RowKit

/-! ### What is computed -/
/-- One number added at a place, or laid behind the last. -/
def addAt (s : Nat × (Nat → Option Nat)) (p : Nat) (q : Option Nat) : Nat × (Nat → Option Nat) :=
  if p = s.1 then (s.1 + 1, fun j => if j = p then q else s.2 j) else (s.1, fun j => if j = p then vop .add (s.2 p) q else s.2 j)
/-- One window. -/
def inW (f : Nat → Nat) (b : Nat) : Nat → Nat × (Nat → Option Nat) → Nat × (Nat → Option Nat)
  | 0, s => s
  | j + 1, s => addAt (inW f b j s) (b + j) (vop .mul (cn (f j)) (cn (f j)))
/-- The windows one by one. -/
def outW (f : Nat → Nat) (n h : Nat) : Nat → Nat × (Nat → Option Nat)
  | 0 => (0, fun _ => none)
  | i + 1 => inW f (i * h) n (outW f n h i)
/-- How long that is. -/
def wT (c n h : Nat) : Nat := if c = 0 then 0 else (c - 1) * h + n

theorem addAt_len (s : Nat × (Nat → Option Nat)) (p : Nat) (q : Option Nat) : (addAt s p q).1 = if p = s.1 then s.1 + 1 else s.1 := by
  unfold addAt; split <;> rfl
theorem inW_len (f : Nat → Nat) (b j : Nat) (s : Nat × (Nat → Option Nat)) (hb : b ≤ s.1) : (inW f b j s).1 = max s.1 (b + j) := by
  induction j with
  | zero => simp [inW]; omega
  | succ j ih =>
    rw [inW, addAt_len, ih]
    split <;> omega
theorem outW_len (f : Nat → Nat) (n h : Nat) (hh : h ≤ n) (i : Nat) : (outW f n h i).1 = wT i n h := by
  induction i with
  | zero => rfl
  | succ i ih =>
    have h1 : i * h ≤ (outW f n h i).1 := by
      rw [ih]
      unfold wT
      split
      · rename_i e; subst e; omega
      · rename_i e
        obtain ⟨k, rfl⟩ : ∃ k, i = k + 1 := ⟨i - 1, by omega⟩
        rw [Nat.add_sub_cancel, Nat.succ_mul]; omega
    rw [outW, inW_len _ _ _ _ h1, ih]
    unfold wT
    rw [if_neg (Nat.succ_ne_zero i), Nat.add_sub_cancel]
    split
    · omega
    · rename_i e
      obtain ⟨k, rfl⟩ : ∃ k, i = k + 1 := ⟨i - 1, by omega⟩
      rw [Nat.add_sub_cancel, Nat.succ_mul]; omega
theorem outW_ge (f : Nat → Nat) (n h : Nat) (hh : h ≤ n) (i : Nat) : i * h ≤ (outW f n h i).1 := by
  rw [outW_len f n h hh]
  unfold wT
  split
  · rename_i e; subst e; omega
  · rename_i e
    obtain ⟨k, rfl⟩ : ∃ k, i = k + 1 := ⟨i - 1, by omega⟩
    rw [Nat.add_sub_cancel, Nat.succ_mul]; omega
theorem wT_mono (n h : Nat) {i c : Nat} (hi : i ≤ c) : wT i n h ≤ wT c n h := by
  unfold wT
  split
  · omega
  · rw [if_neg (by omega)]
    have := Nat.mul_le_mul_right h (show i - 1 ≤ c - 1 by omega)
    omega
/-- Where the next number goes lies within the row. -/
theorem at_lt (n h : Nat) {i j c : Nat} (hi : i < c) (hj : j < n) : i * h + j < wT c n h := by
  have h1 := wT_mono n h (show i + 1 ≤ c by omega)
  have h2 : wT (i + 1) n h = i * h + n := by unfold wT; rw [if_neg (Nat.succ_ne_zero i), Nat.add_sub_cancel]
  omega
theorem inW_le (f : Nat → Nat) (n h : Nat) (hh : h ≤ n) (i j : Nat) : i * h + j ≤ (inW f (i * h) j (outW f n h i)).1 := by
  rw [inW_len _ _ _ _ (outW_ge f n h hh i)]; omega
theorem inW_lt (f : Nat → Nat) (n h : Nat) (hh : h ≤ n) {i j c : Nat} (hi : i < c) (hj : j < n) : (inW f (i * h) j (outW f n h i)).1 ≤ wT c n h := by
  rw [inW_len _ _ _ _ (outW_ge f n h hh i), outW_len f n h hh]
  have := at_lt n h hi hj
  have := wT_mono n h (show i ≤ c by omega)
  omega

/-! ### The first code of three, the length -/
def fst3 (a b c : Int) : Int := if a = 0 then fst2 b c else a
theorem first3_any (q cap : Nat) (a b c : Int) (w : World) (hc : w.cell? ⟨q, 0, none⟩ = some (.int .i64 a)) (hc1 : w.cell? ⟨q, 1, none⟩ = some (.int .i64 b)) (hc2 : w.cell? ⟨q, 2, none⟩ = some (.int .i64 c)) :
    Calls Try.prog 62 #[.slice (some ⟨q, 0, none⟩) 3 cap] w fun e w' => e = .returned (.int .i64 (fst3 a b c)) ∧ w = w' := by
  by_cases h : a = 0
  · subst h
    by_cases h' : b = 0
    · subst h'
      by_cases h'' : c = 0
      · subst h''
        go_enter Try.func62, Try.ntmps62
        go_wp2
        refine wp_loop_rounds 4 ?_
        rw [rounds_succ]
        go_wp2
        rw [rounds_succ]
        go_wp2
        rw [rounds_succ]
        go_wp2
        rw [rounds_succ]
        go_wp2
        go_ret
        exact ⟨rfl, rfl⟩
      · go_enter Try.func62, Try.ntmps62
        go_wp2
        refine wp_loop_rounds 4 ?_
        rw [rounds_succ]
        go_wp2
        rw [rounds_succ]
        go_wp2
        rw [rounds_succ]
        go_wp2
        go_ret
        exact ⟨ret_int (by simp [fst3, fst2]), rfl⟩
    · go_enter Try.func62, Try.ntmps62
      go_wp2
      refine wp_loop_rounds 4 ?_
      rw [rounds_succ]
      go_wp2
      rw [rounds_succ]
      go_wp2
      go_ret
      exact ⟨ret_int (by simp [fst3, fst2, h']), rfl⟩
  · go_enter Try.func62, Try.ntmps62
    go_wp2
    refine wp_loop_rounds 4 ?_
    rw [rounds_succ]
    go_wp2
    go_ret
    exact ⟨ret_int (if_neg h).symm, rfl⟩
theorem longer_any (c n h : Nat) (w : World) (hc : c ≤ 64) (hn : n ≤ 256) (hh : h ≤ n) : Calls Try.prog 69 #[.int .i64 c, .int .i64 n, .int .i64 h] w fun e w' => e = .returned (.int .i64 (wT c n h)) ∧ w = w' := by
  rcases Nat.eq_zero_or_pos c with rfl | hc0
  · go_enter Try.func69, Try.ntmps69
    go_wp2
    go_ret
    exact ⟨rfl, rfl⟩
  · obtain ⟨k, rfl⟩ : ∃ k, c = k + 1 := ⟨c - 1, by omega⟩
    obtain ⟨P, hP⟩ : ∃ P, Hid (P = k * h) := ⟨_, hid rfl⟩
    have hP2 : P ≤ 16384 := by rw [hP.out]; exact Nat.le_trans (Nat.mul_le_mul (show k ≤ 64 by omega) (show h ≤ 256 by omega)) (by omega)
    have e1 : (k : Int) * (h : Int) = (P : Int) := by rw [hP.out]; exact (Int.natCast_mul _ _).symm
    go_enter Try.func69, Try.ntmps69
    go_wp2
    go_ret
    refine ⟨ret_int ?_, rfl⟩
    have : wT (k + 1) n h = P + n := by unfold wT; rw [if_neg (Nat.succ_ne_zero k), Nat.add_sub_cancel, hP.out]
    rw [this]
    go_num
theorem total_any (c n h : Nat) (w : World) (hc : c ≤ 64) (hn : n ≤ 256) (hh : h ≤ n) : Calls Try.prog 65 #[.int .i64 c, .int .i64 n, .int .i64 h] w fun e w' => e = .returned (.int .i64 (wT c n h)) ∧ w = w' := by
  rcases Nat.eq_zero_or_pos c with rfl | hc0
  · go_enter Try.func65, Try.ntmps65
    go_wp2
    go_ret
    exact ⟨rfl, rfl⟩
  · obtain ⟨k, rfl⟩ : ∃ k, c = k + 1 := ⟨c - 1, by omega⟩
    obtain ⟨P, hP⟩ : ∃ P, Hid (P = k * h) := ⟨_, hid rfl⟩
    have hP2 : P ≤ 16384 := by rw [hP.out]; exact Nat.le_trans (Nat.mul_le_mul (show k ≤ 64 by omega) (show h ≤ 256 by omega)) (by omega)
    have e1 : (k : Int) * (h : Int) = (P : Int) := by rw [hP.out]; exact (Int.natCast_mul _ _).symm
    go_enter Try.func65, Try.ntmps65
    go_wp2
    go_ret
    refine ⟨ret_int ?_, rfl⟩
    have : wT (k + 1) n h = P + n := by unfold wT; rw [if_neg (Nat.succ_ne_zero k), Nat.add_sub_cancel, hP.out]
    rw [this]
    go_num
end Go.Proofs.Ytjiogodidicaeaa
