/-
  The greatest divisor, the series: both sides.
-/
import Derived.Test.YtjiogodidicaeaaU
namespace Go.Proofs.Ytjiogodidicaeaa
open Go.RowKit

theorem tmod_nat (k h : Nat) : (k : Int).tmod (h : Int) = ((k % h : Nat) : Int) := rfl
/-- What holds in Euclid's loop. -/
def GcdR (g : Nat) (w : World) (a b : Value) (wr : World) : Prop :=
  ∃ x y m : Nat, x ≤ 1048576 ∧ y ≤ 1048576 ∧ a = .int .i64 x ∧ b = .int .i64 y ∧ Nat.gcd x y = g ∧ Hid (wr = w.drewN m)
def GcdQ (g : Nat) (w : World) (a b : Value) (wr : World) : Prop :=
  ∃ x y : Nat, x ≤ 1048576 ∧ y ≤ 1048576 ∧ a = .int .i64 x ∧ b = .int .i64 y ∧ Nat.gcd x y = g ∧ Hid (wr = w)
theorem gcd_step {x y : Nat} : Nat.gcd x y = Nat.gcd y (x % y) := by
  rw [Nat.gcd_comm x y, Nat.gcd_rec y x, Nat.gcd_comm]

theorem gcd88 (a b : Nat) (w : World) (ha : a ≤ 1048576) (hb : b ≤ 1048576) : Calls Try.prog 88 #[.int .i64 a, .int .i64 b] w fun e w' => e = .returned (.int .i64 (Nat.gcd a b)) ∧ w = w' := by
  go_enter Try.func88, Try.ntmps88
  go_wp2
  go_loopw [0, 1] (fun a' b' wr => GcdQ (Nat.gcd a b) w a' b' wr) (fun _ b' _ => (intOf b').toNat)
  case atStart => exact ⟨a, b, ha, hb, rfl, rfl, rfl, rfl⟩
  case round =>
    obtain ⟨x, y, hx, hy, rfl, rfl, hg, hm⟩ := hrel
    by_cases h0 : y = 0
    · subst h0
      go_wp2
      go_ret
      exact ⟨(show Ending.returned (.int .i64 (x : Int)) = _ from ret_int (by rw [← hg, Nat.gcd_zero_right])), hm.out.symm⟩
    · obtain ⟨r, hr, er⟩ : ∃ r, r < y ∧ Hid (r = x % y) := ⟨_, Nat.mod_lt _ (by omega), hid rfl⟩
      have e1 : (x : Int).tmod (y : Int) = (r : Int) := by rw [tmod_nat, er.out]
      go_wp2
      exact ⟨⟨y, r, hy, by omega, rfl, rfl, by rw [← hg, er.out]; exact gcd_step.symm, hm⟩, by simp [intOf]; omega⟩
theorem gcd92 (a b : Nat) (w : World) (ha : a ≤ 1048576) (hb : b ≤ 1048576) : Calls Try.prog 92 #[.int .i64 a, .int .i64 b] w fun e w' => e = .returned (.int .i64 (Nat.gcd a b)) ∧ ∃ m, w' = w.drewN m := by
  go_enter Try.func92, Try.ntmps92
  go_wp2
  go_loopw [0, 1] (fun a' b' wr => GcdR (Nat.gcd a b) w a' b' wr) (fun _ b' _ => (intOf b').toNat)
  case atStart => exact ⟨a, b, 0, ha, hb, rfl, rfl, rfl, rfl⟩
  case round =>
    obtain ⟨x, y, m, hx, hy, rfl, rfl, hg, hm⟩ := hrel
    by_cases h0 : y = 0
    · subst h0
      go_wp2
      go_ret
      exact ⟨(show Ending.returned (.int .i64 (x : Int)) = _ from ret_int (by rw [← hg, Nat.gcd_zero_right])), m, hm⟩
    · obtain ⟨r, hr, er⟩ : ∃ r, r < y ∧ Hid (r = x % y) := ⟨_, Nat.mod_lt _ (by omega), hid rfl⟩
      have e1 : (x : Int).tmod (y : Int) = (r : Int) := by rw [tmod_nat, er.out]
      go_wp2
      go_region
      all_goals
        go_wp2
        exact ⟨⟨y, r, m + 1, hy, by omega, rfl, rfl, by rw [← hg, er.out]; exact gcd_step.symm, hid (by rw [hm.out]; first | rfl | exact World.drewN_drewN _ _ _)⟩, by simp [intOf]; omega⟩

/-! ### The series -/
/-- The number so far, after s rounds: 1 - x/d * (that before). -/
def serV (d : Nat → Int) (x : Option Nat) : Nat → Option Nat
  | 0 => some 4607182418800017408
  | s + 1 => vop .sub (some 4607182418800017408) (vop .mul (vop .quo x (some (fI (d (9 - s))))) (serV d x s))
def dCos (i : Nat) : Int := ((2 * i - 1) * 2 * i : Nat)
def dSin (i : Nat) : Int := (2 * i * (2 * i + 1) : Nat)
theorem cn_one : cn 4607182418800017408 = some 4607182418800017408 := cn_of (by kernel_rfl)
theorem ser_step (d : Nat → Int) (x r s k : Nat) (D : Int) (w1 w2 w3 : World) (hr : cn r = serV d (cn x) s) (hk : k = 9 - s) (hD : d k = D) :
    cn (fres .sub 4607182418800017408 (fres .mul (fres .quo x (fI D) w1) r w2) w3) = serV d (cn x) (s + 1) := by
  rw [fres_cn, fres_cn, fres_cn, cn_one, hr, serV, cn_of (fI_nn _), ← hk, hD]
/-- What holds in the series' loop. -/
def SerR (d : Nat → Int) (x : Nat) (w : World) (p i : Value) (wr : World) : Prop :=
  ∃ k r m : Nat, k ≤ 9 ∧ i = .int .i64 k ∧ p = .float .f64 r ∧ Hid (cn r = serV d (cn x) (9 - k)) ∧ Hid (wr = w.drewN m)
theorem nine {k : Nat} (h : k ≤ 9) (h0 : k ≠ 0) : k = 1 ∨ k = 2 ∨ k = 3 ∨ k = 4 ∨ k = 5 ∨ k = 6 ∨ k = 7 ∨ k = 8 ∨ k = 9 := by omega

theorem serR_step (d : Nat → Int) (x : Nat) (w : World) (r k : Nat) (D : Int) (w1 w2 w3 : World) (m n : Nat) {wr : World} (h0 : 1 ≤ k) (h9 : k ≤ 9) (hr : Hid (cn r = serV d (cn x) (9 - k))) (hD : d k = D) (hm : Hid (wr = w.drewN m)) :
    SerR d x w (.float .f64 (fres .sub 4607182418800017408 (fres .mul (fres .quo x (fI D) w1) r w2) w3)) (.int .i64 ((k - 1 : Nat) : Int)) (wr.drewN n) := by
  refine ⟨k - 1, _, m + n, by omega, rfl, rfl, ?_, by rw [hm.out]; exact hid (World.drewN_drewN _ _ _)⟩
  have h := ser_step d x r (9 - k) k D w1 w2 w3 hr.out (by omega) hD
  rw [show 9 - (k - 1) = 9 - k + 1 by omega]
  exact h

set_option maxHeartbeats 4000000 in
theorem cos90 (x : Nat) (w : World) : Calls Try.prog 90 #[.float .f64 x] w fun e w' => ∃ r m, e = .returned (.float .f64 r) ∧ cn r = serV dCos (cn x) 9 ∧ w' = w.drewN m := by
  have hcv := run_fI 2 Try.underlying2
  go_enter Try.func90, Try.ntmps90
  go_wp2
  go_loopw [3, 4] (fun p i wr => SerR dCos x w p i wr) (fun _ i _ => (intOf i).toNat)
  case atStart => exact ⟨9, 4607182418800017408, 0, Nat.le_refl _, rfl, rfl, hid cn_one, rfl⟩
  case round =>
    obtain ⟨k, r, m, hk, rfl, rfl, hr, hm⟩ := hrel
    by_cases h0 : k = 0
    · subst h0
      go_wp2
      go_ret
      exact ⟨r, m, rfl, hr.out, hm.out⟩
    · rcases nine hk h0 with rfl | rfl | rfl | rfl | rfl | rfl | rfl | rfl | rfl
      · go_wp2
        exact ⟨serR_step dCos x w r 1 _ _ _ _ m _ (by decide) (by decide) hr rfl hm, by simp [intOf]⟩
      · go_wp2
        exact ⟨serR_step dCos x w r 2 _ _ _ _ m _ (by decide) (by decide) hr rfl hm, by simp [intOf]⟩
      · go_wp2
        exact ⟨serR_step dCos x w r 3 _ _ _ _ m _ (by decide) (by decide) hr rfl hm, by simp [intOf]⟩
      · go_wp2
        exact ⟨serR_step dCos x w r 4 _ _ _ _ m _ (by decide) (by decide) hr rfl hm, by simp [intOf]⟩
      · go_wp2
        exact ⟨serR_step dCos x w r 5 _ _ _ _ m _ (by decide) (by decide) hr rfl hm, by simp [intOf]⟩
      · go_wp2
        exact ⟨serR_step dCos x w r 6 _ _ _ _ m _ (by decide) (by decide) hr rfl hm, by simp [intOf]⟩
      · go_wp2
        exact ⟨serR_step dCos x w r 7 _ _ _ _ m _ (by decide) (by decide) hr rfl hm, by simp [intOf]⟩
      · go_wp2
        exact ⟨serR_step dCos x w r 8 _ _ _ _ m _ (by decide) (by decide) hr rfl hm, by simp [intOf]⟩
      · go_wp2
        exact ⟨serR_step dCos x w r 9 _ _ _ _ m _ (by decide) (by decide) hr rfl hm, by simp [intOf]⟩
set_option maxHeartbeats 4000000 in
theorem sin91 (t x : Nat) (w : World) : Calls Try.prog 91 #[.float .f64 t, .float .f64 x] w fun e w' => ∃ r m, e = .returned (.float .f64 r) ∧ cn r = vop .mul (serV dSin (cn x) 9) (cn t) ∧ w' = w.drewN m := by
  have hcv := run_fI 2 Try.underlying2
  go_enter Try.func91, Try.ntmps91
  go_wp2
  go_loopw [5, 6] (fun p i wr => SerR dSin x w p i wr) (fun _ i _ => (intOf i).toNat)
  case atStart => exact ⟨9, 4607182418800017408, 0, Nat.le_refl _, rfl, rfl, hid cn_one, rfl⟩
  case round =>
    obtain ⟨k, r, m, hk, rfl, rfl, hr, hm⟩ := hrel
    by_cases h0 : k = 0
    · subst h0
      go_wp2
      go_ret
      exact ⟨_, _, rfl, by rw [fres_cn, hr.out], by rw [hm.out]; exact World.drewN_drewN _ _ _⟩
    · rcases nine hk h0 with rfl | rfl | rfl | rfl | rfl | rfl | rfl | rfl | rfl
      · go_wp2
        exact ⟨serR_step dSin x w r 1 _ _ _ _ m _ (by decide) (by decide) hr rfl hm, by simp [intOf]⟩
      · go_wp2
        exact ⟨serR_step dSin x w r 2 _ _ _ _ m _ (by decide) (by decide) hr rfl hm, by simp [intOf]⟩
      · go_wp2
        exact ⟨serR_step dSin x w r 3 _ _ _ _ m _ (by decide) (by decide) hr rfl hm, by simp [intOf]⟩
      · go_wp2
        exact ⟨serR_step dSin x w r 4 _ _ _ _ m _ (by decide) (by decide) hr rfl hm, by simp [intOf]⟩
      · go_wp2
        exact ⟨serR_step dSin x w r 5 _ _ _ _ m _ (by decide) (by decide) hr rfl hm, by simp [intOf]⟩
      · go_wp2
        exact ⟨serR_step dSin x w r 6 _ _ _ _ m _ (by decide) (by decide) hr rfl hm, by simp [intOf]⟩
      · go_wp2
        exact ⟨serR_step dSin x w r 7 _ _ _ _ m _ (by decide) (by decide) hr rfl hm, by simp [intOf]⟩
      · go_wp2
        exact ⟨serR_step dSin x w r 8 _ _ _ _ m _ (by decide) (by decide) hr rfl hm, by simp [intOf]⟩
      · go_wp2
        exact ⟨serR_step dSin x w r 9 _ _ _ _ m _ (by decide) (by decide) hr rfl hm, by simp [intOf]⟩
set_option maxHeartbeats 4000000 in
theorem ser94c (x : Nat) (w : World) : Calls Try.prog 94 #[.float .f64 x, .bool true] w fun e w' => ∃ r m, e = .returned (.float .f64 r) ∧ cn r = serV dCos (cn x) 9 ∧ w' = w.drewN m := by
  have hcv := run_fI 3 Try.underlying3
  go_enter Try.func94, Try.ntmps94
  go_wp2
  go_loopw [5, 6] (fun p i wr => SerR dCos x w p i wr) (fun _ i _ => (intOf i).toNat)
  case atStart => exact ⟨9, 4607182418800017408, 0, Nat.le_refl _, rfl, rfl, hid cn_one, rfl⟩
  case round =>
    obtain ⟨k, r, m, hk, rfl, rfl, hr, hm⟩ := hrel
    by_cases h0 : k = 0
    · subst h0
      go_wp2
      go_ret
      exact ⟨r, m, rfl, hr.out, hm.out⟩
    · rcases nine hk h0 with rfl | rfl | rfl | rfl | rfl | rfl | rfl | rfl | rfl
      · go_wp2_with (go_at_call 54; refine (mul_any _ _ _).mono ?_; rintro e w' ⟨rfl, rfl⟩)
        exact ⟨serR_step dCos x w r 1 _ _ _ _ m _ (by decide) (by decide) hr rfl hm, by simp [intOf]⟩
      · go_wp2_with (go_at_call 54; refine (mul_any _ _ _).mono ?_; rintro e w' ⟨rfl, rfl⟩)
        exact ⟨serR_step dCos x w r 2 _ _ _ _ m _ (by decide) (by decide) hr rfl hm, by simp [intOf]⟩
      · go_wp2_with (go_at_call 54; refine (mul_any _ _ _).mono ?_; rintro e w' ⟨rfl, rfl⟩)
        exact ⟨serR_step dCos x w r 3 _ _ _ _ m _ (by decide) (by decide) hr rfl hm, by simp [intOf]⟩
      · go_wp2_with (go_at_call 54; refine (mul_any _ _ _).mono ?_; rintro e w' ⟨rfl, rfl⟩)
        exact ⟨serR_step dCos x w r 4 _ _ _ _ m _ (by decide) (by decide) hr rfl hm, by simp [intOf]⟩
      · go_wp2_with (go_at_call 54; refine (mul_any _ _ _).mono ?_; rintro e w' ⟨rfl, rfl⟩)
        exact ⟨serR_step dCos x w r 5 _ _ _ _ m _ (by decide) (by decide) hr rfl hm, by simp [intOf]⟩
      · go_wp2_with (go_at_call 54; refine (mul_any _ _ _).mono ?_; rintro e w' ⟨rfl, rfl⟩)
        exact ⟨serR_step dCos x w r 6 _ _ _ _ m _ (by decide) (by decide) hr rfl hm, by simp [intOf]⟩
      · go_wp2_with (go_at_call 54; refine (mul_any _ _ _).mono ?_; rintro e w' ⟨rfl, rfl⟩)
        exact ⟨serR_step dCos x w r 7 _ _ _ _ m _ (by decide) (by decide) hr rfl hm, by simp [intOf]⟩
      · go_wp2_with (go_at_call 54; refine (mul_any _ _ _).mono ?_; rintro e w' ⟨rfl, rfl⟩)
        exact ⟨serR_step dCos x w r 8 _ _ _ _ m _ (by decide) (by decide) hr rfl hm, by simp [intOf]⟩
      · go_wp2_with (go_at_call 54; refine (mul_any _ _ _).mono ?_; rintro e w' ⟨rfl, rfl⟩)
        exact ⟨serR_step dCos x w r 9 _ _ _ _ m _ (by decide) (by decide) hr rfl hm, by simp [intOf]⟩
set_option maxHeartbeats 4000000 in
theorem ser94s (x : Nat) (w : World) : Calls Try.prog 94 #[.float .f64 x, .bool false] w fun e w' => ∃ r m, e = .returned (.float .f64 r) ∧ cn r = serV dSin (cn x) 9 ∧ w' = w.drewN m := by
  have hcv := run_fI 3 Try.underlying3
  go_enter Try.func94, Try.ntmps94
  go_wp2
  go_loopw [5, 6] (fun p i wr => SerR dSin x w p i wr) (fun _ i _ => (intOf i).toNat)
  case atStart => exact ⟨9, 4607182418800017408, 0, Nat.le_refl _, rfl, rfl, hid cn_one, rfl⟩
  case round =>
    obtain ⟨k, r, m, hk, rfl, rfl, hr, hm⟩ := hrel
    by_cases h0 : k = 0
    · subst h0
      go_wp2
      go_ret
      exact ⟨r, m, rfl, hr.out, hm.out⟩
    · rcases nine hk h0 with rfl | rfl | rfl | rfl | rfl | rfl | rfl | rfl | rfl
      · go_wp2_with (go_at_call 54; refine (mul_any _ _ _).mono ?_; rintro e w' ⟨rfl, rfl⟩)
        exact ⟨serR_step dSin x w r 1 _ _ _ _ m _ (by decide) (by decide) hr rfl hm, by simp [intOf]⟩
      · go_wp2_with (go_at_call 54; refine (mul_any _ _ _).mono ?_; rintro e w' ⟨rfl, rfl⟩)
        exact ⟨serR_step dSin x w r 2 _ _ _ _ m _ (by decide) (by decide) hr rfl hm, by simp [intOf]⟩
      · go_wp2_with (go_at_call 54; refine (mul_any _ _ _).mono ?_; rintro e w' ⟨rfl, rfl⟩)
        exact ⟨serR_step dSin x w r 3 _ _ _ _ m _ (by decide) (by decide) hr rfl hm, by simp [intOf]⟩
      · go_wp2_with (go_at_call 54; refine (mul_any _ _ _).mono ?_; rintro e w' ⟨rfl, rfl⟩)
        exact ⟨serR_step dSin x w r 4 _ _ _ _ m _ (by decide) (by decide) hr rfl hm, by simp [intOf]⟩
      · go_wp2_with (go_at_call 54; refine (mul_any _ _ _).mono ?_; rintro e w' ⟨rfl, rfl⟩)
        exact ⟨serR_step dSin x w r 5 _ _ _ _ m _ (by decide) (by decide) hr rfl hm, by simp [intOf]⟩
      · go_wp2_with (go_at_call 54; refine (mul_any _ _ _).mono ?_; rintro e w' ⟨rfl, rfl⟩)
        exact ⟨serR_step dSin x w r 6 _ _ _ _ m _ (by decide) (by decide) hr rfl hm, by simp [intOf]⟩
      · go_wp2_with (go_at_call 54; refine (mul_any _ _ _).mono ?_; rintro e w' ⟨rfl, rfl⟩)
        exact ⟨serR_step dSin x w r 7 _ _ _ _ m _ (by decide) (by decide) hr rfl hm, by simp [intOf]⟩
      · go_wp2_with (go_at_call 54; refine (mul_any _ _ _).mono ?_; rintro e w' ⟨rfl, rfl⟩)
        exact ⟨serR_step dSin x w r 8 _ _ _ _ m _ (by decide) (by decide) hr rfl hm, by simp [intOf]⟩
      · go_wp2_with (go_at_call 54; refine (mul_any _ _ _).mono ?_; rintro e w' ⟨rfl, rfl⟩)
        exact ⟨serR_step dSin x w r 9 _ _ _ _ m _ (by decide) (by decide) hr rfl hm, by simp [intOf]⟩
end Go.Proofs.Ytjiogodidicaeaa
