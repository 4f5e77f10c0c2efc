/-
  A turn of the circle: the plain function and the two sides' walks.
-/
import Derived.Test.YtjiogodidicaeaaUg
namespace Go.Proofs.Ytjiogodidicaeaa
open Go.RowKit

/-! ### What is computed -/
/-- The angle. -/
def thV (N K : Nat) : Option Nat := vop .quo (vop .mul (some 4618760256179416344) (some (fI K))) (some (fI N))
/-- The turn of a reduced fraction, out of the turns of smaller ones. -/
def tS (T : Nat → Nat → Option Nat × Option Nat) (N K : Nat) : Option Nat × Option Nat :=
  if K = 0 then (some 4607182418800017408, some 0)
  else if N < 2 * K then ((T N (N - K)).1, vneg (T N (N - K)).2)
  else if N < 4 * K then (vneg (T (2 * N) (N - 2 * K)).1, (T (2 * N) (N - 2 * K)).2)
  else if N < 8 * K then ((T (4 * N) (N - 4 * K)).2, (T (4 * N) (N - 4 * K)).1)
  else if 8 * K = N then (vsqrt (some 4602678819172646912), vsqrt (some 4602678819172646912))
  else (serV dCos (vop .mul (thV N K) (thV N K)) 9, vop .mul (serV dSin (vop .mul (thV N K) (thV N K)) 9) (thV N K))
/-- The turn, with so many steps to go. -/
def tV : Nat → Nat → Nat → Option Nat × Option Nat
  | 0, _, _ => (none, none)
  | f + 1, n, k => tS (tV f) (n / Nat.gcd n k) (k / Nat.gcd n k)
/-- So many steps are enough. -/
def TOk (f n k : Nat) : Prop := k < n ∧ n * 4 ^ f ≤ 1048576 ∧ (4 ≤ f ∨ 2 * k ≤ n) ∧ (3 ≤ f ∨ 4 * k ≤ n) ∧ (2 ≤ f ∨ 8 * k ≤ n) ∧ 1 ≤ f
theorem tOk_div {f n k : Nat} (h : TOk f n k) : TOk f (n / Nat.gcd n k) (k / Nat.gcd n k) := by
  obtain ⟨h1, h2, h3, h4, h5, h6⟩ := h
  have hg : 0 < Nat.gcd n k := Nat.gcd_pos_of_pos_left _ (by omega)
  obtain ⟨N, hN⟩ := Nat.gcd_dvd_left n k
  obtain ⟨K, hK⟩ := Nat.gcd_dvd_right n k
  have eN : n / Nat.gcd n k = N := by
    conv => lhs; lhs; rw [hN]
    exact Nat.mul_div_cancel_left _ hg
  have eK : k / Nat.gcd n k = K := by
    conv => lhs; lhs; rw [hK]
    exact Nat.mul_div_cancel_left _ hg
  have hle : N ≤ n := by rw [← eN]; exact Nat.div_le_self _ _
  rw [eN, eK]
  generalize Nat.gcd n k = g at *
  subst hN hK
  have key : ∀ c, c * (g * K) ≤ g * N → c * K ≤ N := fun c hc => Nat.le_of_mul_le_mul_left (by rw [Nat.mul_left_comm] at hc; exact hc) hg
  refine ⟨Nat.lt_of_mul_lt_mul_left h1, Nat.le_trans (Nat.mul_le_mul_right _ hle) h2, ?_, ?_, ?_, h6⟩
  · exact h3.imp id (key 2)
  · exact h4.imp id (key 4)
  · exact h5.imp id (key 8)
theorem tOk_pow {f N : Nat} (h : N * 4 ^ (f + 1) ≤ 1048576) : 4 * (N * 4 ^ f) ≤ 1048576 ∧ (2 * N) * 4 ^ f = 2 * (N * 4 ^ f) ∧ (4 * N) * 4 ^ f = 4 * (N * 4 ^ f) := by
  refine ⟨?_, Nat.mul_assoc _ _ _, Nat.mul_assoc _ _ _⟩
  rw [Nat.pow_succ, Nat.mul_comm (4 ^ f) 4, Nat.mul_left_comm] at h
  exact h
theorem tOk_1 {f N K : Nat} (h : TOk (f + 1) N K) (h1 : N < 2 * K) : TOk f N (N - K) := by
  obtain ⟨a1, a2, a3, a4, a5, a6⟩ := h
  obtain ⟨b1, _, _⟩ := tOk_pow a2
  refine ⟨by omega, by omega, ?_, ?_, ?_, ?_⟩ <;> omega
theorem tOk_2 {f N K : Nat} (h : TOk (f + 1) N K) (h1 : ¬ N < 2 * K) (h2 : N < 4 * K) : TOk f (2 * N) (N - 2 * K) := by
  obtain ⟨a1, a2, a3, a4, a5, a6⟩ := h
  obtain ⟨b1, b2, _⟩ := tOk_pow a2
  refine ⟨by omega, by omega, ?_, ?_, ?_, ?_⟩ <;> omega
theorem tOk_3 {f N K : Nat} (h : TOk (f + 1) N K) (h1 : ¬ N < 4 * K) (h2 : N < 8 * K) : TOk f (4 * N) (N - 4 * K) := by
  obtain ⟨a1, a2, a3, a4, a5, a6⟩ := h
  obtain ⟨b1, _, b3⟩ := tOk_pow a2
  refine ⟨by omega, by omega, ?_, ?_, ?_, ?_⟩ <;> omega
theorem tOk_le {f N K : Nat} (h : TOk f N K) : N ≤ 1048576 := Nat.le_trans (Nat.le_mul_of_pos_right _ (Nat.pow_pos (by decide))) h.2.1
theorem tdiv_nat (k h : Nat) : (k : Int).tdiv (h : Int) = ((k / h : Nat) : Int) := rfl
theorem cn_zero : cn 0 = some 0 := cn_of (by kernel_rfl)
theorem cn_pi2 : cn 4618760256179416344 = some 4618760256179416344 := cn_of (by kernel_rfl)
theorem cn_half : cn 4602678819172646912 = some 4602678819172646912 := cn_of (by kernel_rfl)

/-- A complex number up to NaN, some draws. -/
def TurnR (v : Option Nat × Option Nat) (w : World) (e : Ending) (w' : World) : Prop := ∃ a b m, e = .returned (.complex .f64 a b) ∧ cn a = v.1 ∧ cn b = v.2 ∧ w' = w.drewN m
theorem turnR {v : Option Nat × Option Nat} {w w' : World} {a b m : Nat} {x y : Option Nat} (hv : Hid (v = (x, y))) (ha : cn a = x) (hb : cn b = y) (hw : w' = w.drewN m) : TurnR v w (.returned (.complex .f64 a b)) w' :=
  ⟨a, b, m, rfl, by rw [hv.out, ha], by rw [hv.out, hb], hw⟩


set_option maxHeartbeats 4000000 in
theorem turn80 (f : Nat) : ∀ (n k : Nat) (w : World), TOk f n k → Calls Try.prog 80 #[.int .i64 n, .int .i64 k] w (TurnR (tV f n k) w) := by
  induction f with
  | zero => exact fun n k w h => absurd h.2.2.2.2.2 (by omega)
  | succ f ih =>
    intro n k w hok
    have HI := hid ih
    clear ih
    have hcv := run_fI 2 Try.underlying2
    have hng := run_neg64
    obtain ⟨G, hG⟩ : ∃ G, Hid (G = Nat.gcd n k) := ⟨_, hid rfl⟩
    obtain ⟨N, hN⟩ : ∃ N, Hid (N = n / G) := ⟨_, hid rfl⟩
    obtain ⟨K, hK⟩ : ∃ K, Hid (K = k / G) := ⟨_, hid rfl⟩
    have hok2 : TOk (f + 1) N K := by rw [hN.out, hK.out, hG.out]; exact tOk_div hok
    have hv0 : Hid (tV (f + 1) n k = tS (tV f) N K) := hid (by rw [hN.out, hK.out, hG.out]; rfl)
    have g0 : ¬ G = 0 := by
      rw [hG.out]
      exact Nat.ne_of_gt (Nat.gcd_pos_of_pos_left _ (by have := hok.1; omega))
    have b1 : n ≤ 1048576 := tOk_le hok
    have b2 : k < n := hok.1
    have b3 : N ≤ 1048576 := tOk_le hok2
    have b4 : K < N := hok2.1
    have e1 : (n : Int).tdiv (G : Int) = (N : Int) := by rw [tdiv_nat, hN.out]
    have e2 : (k : Int).tdiv (G : Int) = (K : Int) := by rw [tdiv_nat, hK.out]
    have HG := hid (gcd88 n k w b1 (by omega))
    rw [← hG.out] at HG
    have HOK := hid hok2
    clear hok hok2 hG hN hK
    by_cases k0 : K = 0
    · subst k0
      have hv := hid (hv0.out.trans (show tS (tV f) N 0 = (some 4607182418800017408, some 0) from if_pos rfl))
      clear HI hv0
      go_enter Try.func80, Try.ntmps80
      go_wp2_with (first | (go_at_call 88; refine HG.out.mono ?_; rintro e w' ⟨rfl, rfl⟩))
      go_ret
      exact turnR (m := _) hv cn_one cn_zero (by first | exact World.drewN_drewN _ _ _ | exact (World.drewN_zero _).symm | rfl)
    have k1 : (0 : Int) < (K : Int) := by omega
    by_cases c1 : N < 2 * K
    · have hv := hid (hv0.out.trans (show tS (tV f) N K = _ from (if_neg k0).trans (if_pos c1)))
      obtain ⟨D, hD⟩ : ∃ D, Hid (D = N - K) := ⟨_, hid rfl⟩
      have hrec := hid (tOk_1 HOK.out c1)
      rw [← hD.out] at hv hrec
      have e3 : (N : Int) - (K : Int) = (D : Int) := by rw [hD.out]; omega
      have c2 : (N : Int) < 2 * (K : Int) := by omega
      have b5 : D ≤ N := by rw [hD.out]; omega
      clear hD hv0
      go_enter Try.func80, Try.ntmps80
      go_wp2_with (first | (go_at_call 88; refine HG.out.mono ?_; rintro e w' ⟨rfl, rfl⟩) | (go_at_call 80; refine (HI.out N D _ hrec.out).mono ?_; rintro e w' ⟨a, b, m, rfl, ha, hb, rfl⟩) | (go_at_call 89; refine (conj89 _ _ _).mono ?_; rintro e w' ⟨rfl, rfl⟩))
      go_ret
      exact turnR (m := _) hv ha (by rw [cn_neg, hb]) (by first | exact World.drewN_drewN _ _ _ | exact (World.drewN_zero _).symm | rfl)
    have c1' : ¬ (N : Int) < 2 * (K : Int) := by omega
    by_cases c2 : N < 4 * K
    · have hv := hid (hv0.out.trans (show tS (tV f) N K = _ from (if_neg k0).trans ((if_neg c1).trans (if_pos c2))))
      obtain ⟨D, hD⟩ : ∃ D, Hid (D = N - 2 * K) := ⟨_, hid rfl⟩
      obtain ⟨E, hE⟩ : ∃ E, Hid (E = 2 * N) := ⟨_, hid rfl⟩
      have hrec := hid (tOk_2 HOK.out c1 c2)
      rw [← hD.out, ← hE.out] at hv hrec
      have e3 : (N : Int) - 2 * (K : Int) = (D : Int) := by rw [hD.out]; omega
      have e4 : 2 * (N : Int) = (E : Int) := by rw [hE.out]; omega
      have c3 : (N : Int) < 4 * (K : Int) := by omega
      clear hD hE hv0 c1 c2
      go_enter Try.func80, Try.ntmps80
      go_wp2_with (first | (go_at_call 88; refine HG.out.mono ?_; rintro e w' ⟨rfl, rfl⟩) | (go_at_call 80; refine (HI.out E D _ hrec.out).mono ?_; rintro e w' ⟨a, b, m, rfl, ha, hb, rfl⟩))
      go_ret
      exact turnR (m := _) hv (by rw [cn_neg, ha]) hb (by first | exact World.drewN_drewN _ _ _ | exact (World.drewN_zero _).symm | rfl)
    have c2' : ¬ (N : Int) < 4 * (K : Int) := by omega
    by_cases c3 : N < 8 * K
    · have hv := hid (hv0.out.trans (show tS (tV f) N K = _ from (if_neg k0).trans ((if_neg c1).trans ((if_neg c2).trans (if_pos c3)))))
      obtain ⟨D, hD⟩ : ∃ D, Hid (D = N - 4 * K) := ⟨_, hid rfl⟩
      obtain ⟨E, hE⟩ : ∃ E, Hid (E = 4 * N) := ⟨_, hid rfl⟩
      have hrec := hid (tOk_3 HOK.out c2 c3)
      rw [← hD.out, ← hE.out] at hv hrec
      have e3 : (N : Int) - 4 * (K : Int) = (D : Int) := by rw [hD.out]; omega
      have e4 : 4 * (N : Int) = (E : Int) := by rw [hE.out]; omega
      have c4 : (N : Int) < 8 * (K : Int) := by omega
      clear hD hE hv0 c1 c2 c3
      go_enter Try.func80, Try.ntmps80
      go_wp2_with (first | (go_at_call 88; refine HG.out.mono ?_; rintro e w' ⟨rfl, rfl⟩) | (go_at_call 80; refine (HI.out E D _ hrec.out).mono ?_; rintro e w' ⟨a, b, m, rfl, ha, hb, rfl⟩))
      go_ret
      exact turnR (m := _) hv hb ha (by first | exact World.drewN_drewN _ _ _ | exact (World.drewN_zero _).symm | rfl)
    have c3' : ¬ (N : Int) < 8 * (K : Int) := by omega
    by_cases c4 : 8 * K = N
    · have hv := hid (hv0.out.trans (show tS (tV f) N K = _ from (if_neg k0).trans ((if_neg c1).trans ((if_neg c2).trans ((if_neg c3).trans (if_pos c4))))))
      have c5 : 8 * (K : Int) = (N : Int) := by omega
      clear HI hv0 c1 c2 c3 c4
      go_enter Try.func80, Try.ntmps80
      go_wp2_with (first | (go_at_call 88; refine HG.out.mono ?_; rintro e w' ⟨rfl, rfl⟩) | (go_at_call 86; refine (sqrt_any _ _).mono ?_; rintro e w' ⟨rfl, rfl⟩))
      go_ret
      exact turnR (m := _) hv (by rw [sres_cn, cn_half]) (by rw [sres_cn, cn_half]) (by first | exact World.drewN_drewN _ _ _ | exact (World.drewN_zero _).symm | rfl)
    · have hv := hid (hv0.out.trans (show tS (tV f) N K = _ from (if_neg k0).trans ((if_neg c1).trans ((if_neg c2).trans ((if_neg c3).trans (if_neg c4))))))
      have c5 : ¬ 8 * (K : Int) = (N : Int) := by omega
      clear HI hv0 c1 c2 c3 c4
      go_enter Try.func80, Try.ntmps80
      go_wp2_with (first | (go_at_call 88; refine HG.out.mono ?_; rintro e w' ⟨rfl, rfl⟩))
      go_wp2_with fail
      refine (cos90 _ _).mono ?_
      rintro e w' ⟨p, m2, rfl, hp, rfl⟩
      go_wp2_with fail
      refine (sin91 _ _ _).mono ?_
      rintro e w' ⟨q, m3, rfl, hq, rfl⟩
      go_wp2
      go_ret
      exact turnR (m := _) hv (by rw [hp, fres_cn, fres_cn, fres_cn, cn_pi2, cn_of (fI_nn _), cn_of (fI_nn _)]; rfl) (by rw [hq, fres_cn, fres_cn, fres_cn, cn_pi2, cn_of (fI_nn _), cn_of (fI_nn _)]; rfl) (by first | exact World.drewN_drewN _ _ _ | exact (World.drewN_zero _).symm | rfl)

set_option maxHeartbeats 4000000 in
theorem turn81 (f : Nat) : ∀ (n k : Nat) (w : World), TOk f n k → Calls Try.prog 81 #[.int .i64 n, .int .i64 k] w (TurnR (tV f n k) w) := by
  induction f with
  | zero => exact fun n k w h => absurd h.2.2.2.2.2 (by omega)
  | succ f ih =>
    intro n k w hok
    have HI := hid ih
    clear ih
    have hcv := run_fI 2 Try.underlying2
    have hng := run_neg64
    obtain ⟨G, hG⟩ : ∃ G, Hid (G = Nat.gcd n k) := ⟨_, hid rfl⟩
    obtain ⟨N, hN⟩ : ∃ N, Hid (N = n / G) := ⟨_, hid rfl⟩
    obtain ⟨K, hK⟩ : ∃ K, Hid (K = k / G) := ⟨_, hid rfl⟩
    have hok2 : TOk (f + 1) N K := by rw [hN.out, hK.out, hG.out]; exact tOk_div hok
    have hv0 : Hid (tV (f + 1) n k = tS (tV f) N K) := hid (by rw [hN.out, hK.out, hG.out]; rfl)
    have g0 : ¬ G = 0 := by
      rw [hG.out]
      exact Nat.ne_of_gt (Nat.gcd_pos_of_pos_left _ (by have := hok.1; omega))
    have b1 : n ≤ 1048576 := tOk_le hok
    have b2 : k < n := hok.1
    have b3 : N ≤ 1048576 := tOk_le hok2
    have b4 : K < N := hok2.1
    have e1 : (n : Int).tdiv (G : Int) = (N : Int) := by rw [tdiv_nat, hN.out]
    have e2 : (k : Int).tdiv (G : Int) = (K : Int) := by rw [tdiv_nat, hK.out]
    have HG := hid (gcd92 n k w b1 (by omega))
    rw [← hG.out] at HG
    have HOK := hid hok2
    clear hok hok2 hG hN hK
    by_cases k0 : K = 0
    · subst k0
      have hv := hid (hv0.out.trans (show tS (tV f) N 0 = (some 4607182418800017408, some 0) from if_pos rfl))
      clear HI hv0
      go_enter Try.func81, Try.ntmps81
      go_wp2_with (go_at_call 92; refine HG.out.mono ?_; rintro e w' ⟨rfl, m1, rfl⟩)
      go_region
      all_goals (first | rw [World.drewN_drewN] | skip)
      go_wp2
      go_ret
      exact turnR (m := _) hv cn_one cn_zero (by first | exact World.drewN_drewN _ _ _ | exact (World.drewN_zero _).symm | rfl)
    have k1 : (0 : Int) < (K : Int) := by omega
    by_cases c1 : N < 2 * K
    · have hv := hid (hv0.out.trans (show tS (tV f) N K = _ from (if_neg k0).trans (if_pos c1)))
      obtain ⟨D, hD⟩ : ∃ D, Hid (D = N - K) := ⟨_, hid rfl⟩
      have hrec := hid (tOk_1 HOK.out c1)
      rw [← hD.out] at hv hrec
      have e3 : (N : Int) - (K : Int) = (D : Int) := by rw [hD.out]; omega
      have c2 : (N : Int) < 2 * (K : Int) := by omega
      have b5 : D ≤ N := by rw [hD.out]; omega
      clear hD hv0
      go_enter Try.func81, Try.ntmps81
      go_wp2_with (go_at_call 92; refine HG.out.mono ?_; rintro e w' ⟨rfl, m1, rfl⟩)
      go_region
      all_goals (first | rw [World.drewN_drewN] | skip)
      go_wp2_with (first | (go_at_call 81; refine (HI.out N D _ hrec.out).mono ?_; rintro e w' ⟨a, b, m, rfl, ha, hb, rfl⟩) | (go_at_call 93; refine (conj93 _ _ _).mono ?_; rintro e w' ⟨rfl, rfl⟩))
      go_ret
      exact turnR (m := _) hv ha (by rw [cn_neg, hb]) (by first | exact World.drewN_drewN _ _ _ | exact (World.drewN_zero _).symm | rfl)
    have c1' : ¬ (N : Int) < 2 * (K : Int) := by omega
    by_cases c2 : N < 4 * K
    · have hv := hid (hv0.out.trans (show tS (tV f) N K = _ from (if_neg k0).trans ((if_neg c1).trans (if_pos c2))))
      obtain ⟨D, hD⟩ : ∃ D, Hid (D = N - 2 * K) := ⟨_, hid rfl⟩
      obtain ⟨E, hE⟩ : ∃ E, Hid (E = 2 * N) := ⟨_, hid rfl⟩
      have hrec := hid (tOk_2 HOK.out c1 c2)
      rw [← hD.out, ← hE.out] at hv hrec
      have e3 : (N : Int) - 2 * (K : Int) = (D : Int) := by rw [hD.out]; omega
      have e4 : 2 * (N : Int) = (E : Int) := by rw [hE.out]; omega
      have c3 : (N : Int) < 4 * (K : Int) := by omega
      clear hD hE hv0 c1 c2
      go_enter Try.func81, Try.ntmps81
      go_wp2_with (go_at_call 92; refine HG.out.mono ?_; rintro e w' ⟨rfl, m1, rfl⟩)
      go_region
      all_goals (first | rw [World.drewN_drewN] | skip)
      go_wp2_with (first | (go_at_call 81; refine (HI.out E D _ hrec.out).mono ?_; rintro e w' ⟨a, b, m, rfl, ha, hb, rfl⟩))
      go_ret
      exact turnR (m := _) hv (by rw [cn_neg, ha]) hb (by first | exact World.drewN_drewN _ _ _ | exact (World.drewN_zero _).symm | rfl)
    have c2' : ¬ (N : Int) < 4 * (K : Int) := by omega
    by_cases c3 : N < 8 * K
    · have hv := hid (hv0.out.trans (show tS (tV f) N K = _ from (if_neg k0).trans ((if_neg c1).trans ((if_neg c2).trans (if_pos c3)))))
      obtain ⟨D, hD⟩ : ∃ D, Hid (D = N - 4 * K) := ⟨_, hid rfl⟩
      obtain ⟨E, hE⟩ : ∃ E, Hid (E = 4 * N) := ⟨_, hid rfl⟩
      have hrec := hid (tOk_3 HOK.out c2 c3)
      rw [← hD.out, ← hE.out] at hv hrec
      have e3 : (N : Int) - 4 * (K : Int) = (D : Int) := by rw [hD.out]; omega
      have e4 : 4 * (N : Int) = (E : Int) := by rw [hE.out]; omega
      have c4 : (N : Int) < 8 * (K : Int) := by omega
      clear hD hE hv0 c1 c2 c3
      go_enter Try.func81, Try.ntmps81
      go_wp2_with (go_at_call 92; refine HG.out.mono ?_; rintro e w' ⟨rfl, m1, rfl⟩)
      go_region
      all_goals (first | rw [World.drewN_drewN] | skip)
      go_wp2_with (first | (go_at_call 81; refine (HI.out E D _ hrec.out).mono ?_; rintro e w' ⟨a, b, m, rfl, ha, hb, rfl⟩))
      go_ret
      exact turnR (m := _) hv hb ha (by first | exact World.drewN_drewN _ _ _ | exact (World.drewN_zero _).symm | rfl)
    have c3' : ¬ (N : Int) < 8 * (K : Int) := by omega
    by_cases c4 : 8 * K = N
    · have hv := hid (hv0.out.trans (show tS (tV f) N K = _ from (if_neg k0).trans ((if_neg c1).trans ((if_neg c2).trans ((if_neg c3).trans (if_pos c4))))))
      have c5 : 8 * (K : Int) = (N : Int) := by omega
      clear HI hv0 c1 c2 c3 c4
      go_enter Try.func81, Try.ntmps81
      go_wp2_with (go_at_call 92; refine HG.out.mono ?_; rintro e w' ⟨rfl, m1, rfl⟩)
      go_region
      all_goals (first | rw [World.drewN_drewN] | skip)
      go_wp2_with (first | (go_at_call 86; refine (sqrt_any _ _).mono ?_; rintro e w' ⟨rfl, rfl⟩))
      go_ret
      exact turnR (m := _) hv (by rw [sres_cn, cn_half]) (by rw [sres_cn, cn_half]) (by first | exact World.drewN_drewN _ _ _ | exact (World.drewN_zero _).symm | rfl)
    · have hv := hid (hv0.out.trans (show tS (tV f) N K = _ from (if_neg k0).trans ((if_neg c1).trans ((if_neg c2).trans ((if_neg c3).trans (if_neg c4))))))
      have c5 : ¬ 8 * (K : Int) = (N : Int) := by omega
      clear HI hv0 c1 c2 c3 c4
      go_enter Try.func81, Try.ntmps81
      go_wp2_with (go_at_call 92; refine HG.out.mono ?_; rintro e w' ⟨rfl, m1, rfl⟩)
      go_region
      all_goals (first | rw [World.drewN_drewN] | skip)
      go_wp2_with fail
      refine (mul_any _ _ _).mono ?_
      rintro e w' ⟨rfl, rfl⟩
      go_wp2_with fail
      refine (mul_any _ _ _).mono ?_
      rintro e w' ⟨rfl, rfl⟩
      go_wp2_with fail
      refine (ser94c _ _).mono ?_
      rintro e w' ⟨p, m2, rfl, hp, rfl⟩
      go_wp2_with fail
      refine (ser94s _ _).mono ?_
      rintro e w' ⟨q, m3, rfl, hq, rfl⟩
      go_wp2_with fail
      refine (mul_any _ _ _).mono ?_
      rintro e w' ⟨rfl, rfl⟩
      go_wp2
      go_ret
      exact turnR (m := _) hv (by rw [hp, fres_cn, fres_cn, fres_cn, cn_pi2, cn_of (fI_nn _), cn_of (fI_nn _)]; rfl) (by rw [fres_cn, hq, fres_cn, fres_cn, fres_cn, cn_pi2, cn_of (fI_nn _), cn_of (fI_nn _)]; rfl) (by first | exact World.drewN_drewN _ _ _ | exact (World.drewN_zero _).symm | rfl)
end Go.Proofs.Ytjiogodidicaeaa
