/-
  WindowOf: both sides.
-/
import Derived.Test.YtjiogodidicaeaaUt
import Derived.Test.YtjiogodidicaeaaH
import Derived.Test.YtjiogodidicaeaaL
namespace Go.Proofs.Ytjiogodidicaeaa
open Go.RowKit

/-! ### What is computed -/
/-- The cosine. -/
def coV (n i : Nat) : Option Nat := (tV 4 n (i % n)).1
/-- Hann's number. -/
def haV (n i : Nat) : Option Nat := vop .sub (some 4602678819172646912) (vop .mul (some 4602678819172646912) (coV n i))
/-- The window's number. -/
def waV (kind n i : Nat) : Option Nat :=
  if kind = 2 then vop .sub (some 4607182418800017408) (vabs (vop .sub (vop .quo (some (fI ((2 * i : Nat) : Int))) (some (fI n))) (some 4607182418800017408)))
  else if kind = 3 then haV n i
  else if kind = 4 then vop .sub (some 4603039107142836552) (vop .mul (some 4601958243232267633) (coV n i))
  else if kind = 5 then vsqrt (haV n i)
  else if kind = 6 then vop .add (vop .sub (some 4601237667291888353) (vop .mul (some 4602678819172646912) (coV n i))) (vop .mul (some 4590429028186199163) (coV n (2 * i)))
  else some 4607182418800017408
theorem cn_046 : cn 4601958243232267633 = some 4601958243232267633 := cn_of (by kernel_rfl)
theorem cn_054 : cn 4603039107142836552 = some 4603039107142836552 := cn_of (by kernel_rfl)
theorem cn_042 : cn 4601237667291888353 = some 4601237667291888353 := cn_of (by kernel_rfl)
theorem cn_008 : cn 4590429028186199163 = some 4590429028186199163 := cn_of (by kernel_rfl)
/-- A float up to NaN, some draws. -/
def FloR (v : Option Nat) (w : World) (e : Ending) (w' : World) : Prop := ∃ r m, e = .returned (.float .f64 r) ∧ cn r = v ∧ w' = w.drewN m
theorem co_ok {n i : Nat} (h1 : 1 ≤ n) (h2 : n ≤ 256) : TOk 4 n (i % n) := by
  have h : i % n < n := Nat.mod_lt _ (by omega)
  refine ⟨h, ?_, .inl (Nat.le_refl _), .inl (by omega), .inl (by omega), by omega⟩
  have : (4 : Nat) ^ 4 = 256 := by decide
  rw [this]; omega

theorem cos95 (n i : Nat) (w : World) (h1 : 1 ≤ n) (h2 : n ≤ 256) : Calls Try.prog 95 #[.int .i64 n, .int .i64 i] w (FloR (coV n i) w) := by
  obtain ⟨r, hr, er⟩ : ∃ r, r < n ∧ Hid (r = i % n) := ⟨_, Nat.mod_lt _ (by omega), hid rfl⟩
  have e1 : (i : Int).tmod (n : Int) = (r : Int) := by rw [er.out]; rfl
  have n0 : ¬ n = 0 := by omega
  have HT := hid (turn80 4 n r w (by rw [er.out]; exact co_ok h1 h2))
  have HV := hid (show (tV 4 n r).1 = coV n i by rw [er.out]; rfl)
  go_enter Try.func95, Try.ntmps95
  go_wp2_with (first | (go_at_call 80; refine HT.out.mono ?_; rintro e w' ⟨a, b, m, rfl, ha, hb, rfl⟩))
  go_ret
  exact ⟨a, m, rfl, ha.trans HV.out, rfl⟩
theorem rest98 (n i : Nat) (w : World) (h1 : 1 ≤ n) (h2 : n ≤ 256) : Calls Try.prog 98 #[.int .i64 i, .int .i64 n] w fun e w' => e = .returned (.int .i64 ((i % n : Nat) : Int)) ∧ w = w' := by
  obtain ⟨r, hr, er⟩ : ∃ r, r < n ∧ Hid (r = i % n) := ⟨_, Nat.mod_lt _ (by omega), hid rfl⟩
  have e1 : (i : Int).tmod (n : Int) = (r : Int) := by rw [er.out]; rfl
  have e2 : ((r : Int) + (n : Int)).tmod (n : Int) = (r : Int) := by
    have : ((r : Int) + (n : Int)).tmod (n : Int) = (((r + n) % n : Nat) : Int) := rfl
    rw [this, Nat.add_mod_right, Nat.mod_eq_of_lt hr]
  have n0 : ¬ n = 0 := by omega
  rw [← er.out]
  go_enter Try.func98, Try.ntmps98
  go_wp2
  go_ret
  exact ⟨rfl, rfl⟩
theorem cos85 (n i : Nat) (w : World) (h1 : 1 ≤ n) (h2 : n ≤ 256) : Calls Try.prog 85 #[.int .i64 n, .int .i64 i] w (FloR (coV n i) w) := by
  have HT := hid (turn81 4 n (i % n) w (co_ok h1 h2))
  go_enter Try.func85, Try.ntmps85
  go_wp2_with (first | (go_at_call 98; refine (rest98 _ _ _ h1 h2).mono ?_; rintro e w' ⟨rfl, rfl⟩) | (go_at_call 81; refine HT.out.mono ?_; rintro e w' ⟨a, b, m, rfl, ha, hb, rfl⟩))
  go_ret
  exact ⟨a, m, rfl, ha, rfl⟩
theorem hann84 (n i : Nat) (w : World) (h1 : 1 ≤ n) (h2 : n ≤ 256) : Calls Try.prog 84 #[.int .i64 n, .int .i64 i] w (FloR (haV n i) w) := by
  go_enter Try.func84, Try.ntmps84
  go_wp2_with (first | (go_at_call 85; refine (cos85 _ _ _ h1 h2).mono ?_; rintro e w' ⟨a, m, rfl, ha, rfl⟩) | (go_at_call 54; refine (mul_any _ _ _).mono ?_; rintro e w' ⟨rfl, rfl⟩))
  go_ret
  exact ⟨_, _, rfl, by rw [fres_cn, fres_cn, cn_half, ha]; rfl, rfl⟩


set_option maxHeartbeats 2000000 in
theorem val82 (kind n i : Nat) (w : World) (hk : 1 ≤ kind ∧ kind ≤ 6) (h1 : 1 ≤ n) (h2 : n ≤ 256) (h3 : i ≤ 256) : Calls Try.prog 82 #[.int .i64 kind, .int .i64 n, .int .i64 i] w (FloR (waV kind n i) w) := by
  have hcv := run_fI 2 Try.underlying2
  obtain ⟨I, hI⟩ : ∃ I, Hid (I = 2 * i) := ⟨_, hid rfl⟩
  have eI : 2 * (i : Int) = (I : Int) := by rw [hI.out]; omega
  have bI : I ≤ 512 := by rw [hI.out]; omega
  rcases (show kind = 1 ∨ kind = 2 ∨ kind = 3 ∨ kind = 4 ∨ kind = 5 ∨ kind = 6 by omega) with rfl | rfl | rfl | rfl | rfl | rfl
  · go_enter Try.func82, Try.ntmps82
    go_wp2
    go_ret
    exact ⟨_, _, rfl, by exact cn_one, by first | exact World.drewN_drewN _ _ _ | exact (World.drewN_zero _).symm | rfl⟩
  · go_enter Try.func82, Try.ntmps82
    go_wp2_with (first | (go_at_call 83; refine (abs_any _ _).mono ?_; rintro e w' ⟨rfl, rfl⟩))
    go_ret
    exact ⟨_, _, rfl, by rw [fres_cn, cn_one, cn_abs, fres_cn, fres_cn, cn_of (fI_nn _), cn_of (fI_nn _), cn_one, hI.out]; rfl, by first | exact World.drewN_drewN _ _ _ | exact (World.drewN_zero _).symm | rfl⟩
  · go_enter Try.func82, Try.ntmps82
    go_wp2_with (first | (go_at_call 95; refine (cos95 _ _ _ h1 h2).mono ?_; rintro e w' ⟨a, m, rfl, ha, rfl⟩))
    go_ret
    exact ⟨_, _, rfl, by rw [fres_cn, fres_cn, cn_half, ha]; rfl, by first | exact World.drewN_drewN _ _ _ | exact (World.drewN_zero _).symm | rfl⟩
  · go_enter Try.func82, Try.ntmps82
    go_wp2_with (first | (go_at_call 95; refine (cos95 _ _ _ h1 h2).mono ?_; rintro e w' ⟨a, m, rfl, ha, rfl⟩))
    go_ret
    exact ⟨_, _, rfl, by rw [fres_cn, fres_cn, cn_054, cn_046, ha]; rfl, by first | exact World.drewN_drewN _ _ _ | exact (World.drewN_zero _).symm | rfl⟩
  · go_enter Try.func82, Try.ntmps82
    go_wp2_with (first | (go_at_call 95; refine (cos95 _ _ _ h1 h2).mono ?_; rintro e w' ⟨a, m, rfl, ha, rfl⟩) | (go_at_call 86; refine (sqrt_any _ _).mono ?_; rintro e w' ⟨rfl, rfl⟩))
    go_ret
    exact ⟨_, _, rfl, by rw [sres_cn, fres_cn, fres_cn, cn_half, ha]; rfl, by first | exact World.drewN_drewN _ _ _ | exact (World.drewN_zero _).symm | rfl⟩
  · go_enter Try.func82, Try.ntmps82
    go_wp2_with fail
    refine (cos95 _ _ _ h1 h2).mono ?_
    rintro e w' ⟨a, m, rfl, ha, rfl⟩
    go_wp2_with fail
    refine (cos95 _ _ _ h1 h2).mono ?_
    rintro e w' ⟨b, m2, rfl, hb, rfl⟩
    rw [hI.out] at hb
    go_wp2
    go_ret
    exact ⟨_, _, rfl, by rw [fres_cn, fres_cn, fres_cn, fres_cn, cn_042, cn_half, cn_008, ha, hb]; rfl, by first | exact World.drewN_drewN _ _ _ | exact (World.drewN_zero _).symm | rfl⟩

set_option maxHeartbeats 2000000 in
theorem val76 (kind n i : Nat) (w : World) (hk : 1 ≤ kind ∧ kind ≤ 6) (h1 : 1 ≤ n) (h2 : n ≤ 256) (h3 : i ≤ 256) : Calls Try.prog 76 #[.int .i64 kind, .int .i64 n, .int .i64 i] w (FloR (waV kind n i) w) := by
  have hcv := run_fI 2 Try.underlying2
  obtain ⟨I, hI⟩ : ∃ I, Hid (I = 2 * i) := ⟨_, hid rfl⟩
  have eI : 2 * (i : Int) = (I : Int) := by rw [hI.out]; omega
  have bI : I ≤ 512 := by rw [hI.out]; omega
  rcases (show kind = 1 ∨ kind = 2 ∨ kind = 3 ∨ kind = 4 ∨ kind = 5 ∨ kind = 6 by omega) with rfl | rfl | rfl | rfl | rfl | rfl
  · go_enter Try.func76, Try.ntmps76
    go_wp2
    go_ret
    exact ⟨_, _, rfl, by exact cn_one, by first | exact World.drewN_drewN _ _ _ | exact (World.drewN_zero _).symm | rfl⟩
  · go_enter Try.func76, Try.ntmps76
    go_wp2_with (first | (go_at_call 83; refine (abs_any _ _).mono ?_; rintro e w' ⟨rfl, rfl⟩))
    go_ret
    exact ⟨_, _, rfl, by rw [fres_cn, cn_one, cn_abs, fres_cn, fres_cn, cn_of (fI_nn _), cn_of (fI_nn _), cn_one, hI.out]; rfl, by first | exact World.drewN_drewN _ _ _ | exact (World.drewN_zero _).symm | rfl⟩
  · go_enter Try.func76, Try.ntmps76
    go_wp2_with (first | (go_at_call 84; refine (hann84 _ _ _ h1 h2).mono ?_; rintro e w' ⟨a, m, rfl, ha, rfl⟩))
    go_ret
    exact ⟨_, _, rfl, ha, by first | exact World.drewN_drewN _ _ _ | exact (World.drewN_zero _).symm | rfl⟩
  · go_enter Try.func76, Try.ntmps76
    go_wp2_with (first | (go_at_call 85; refine (cos85 _ _ _ h1 h2).mono ?_; rintro e w' ⟨a, m, rfl, ha, rfl⟩) | (go_at_call 54; refine (mul_any _ _ _).mono ?_; rintro e w' ⟨rfl, rfl⟩))
    go_ret
    exact ⟨_, _, rfl, by rw [fres_cn, fres_cn, cn_054, cn_046, ha]; rfl, by first | exact World.drewN_drewN _ _ _ | exact (World.drewN_zero _).symm | rfl⟩
  · go_enter Try.func76, Try.ntmps76
    go_wp2_with (first | (go_at_call 84; refine (hann84 _ _ _ h1 h2).mono ?_; rintro e w' ⟨a, m, rfl, ha, rfl⟩) | (go_at_call 86; refine (sqrt_any _ _).mono ?_; rintro e w' ⟨rfl, rfl⟩))
    go_ret
    exact ⟨_, _, rfl, by rw [sres_cn, ha]; rfl, by first | exact World.drewN_drewN _ _ _ | exact (World.drewN_zero _).symm | rfl⟩
  · go_enter Try.func76, Try.ntmps76
    go_wp2_with fail
    refine (cos85 _ _ _ h1 h2).mono ?_
    rintro e w' ⟨a, m, rfl, ha, rfl⟩
    go_wp2_with fail
    refine (mul_any _ _ _).mono ?_
    rintro e w' ⟨rfl, rfl⟩
    go_wp2_with fail
    refine (cos85 _ _ _ h1 h2).mono ?_
    rintro e w' ⟨b, m2, rfl, hb, rfl⟩
    go_wp2_with fail
    refine (mul_any _ _ _).mono ?_
    rintro e w' ⟨rfl, rfl⟩
    rw [hI.out] at hb
    go_wp2
    go_ret
    exact ⟨_, _, rfl, by rw [fres_cn, fres_cn, fres_cn, fres_cn, cn_042, cn_half, cn_008, ha, hb]; rfl, by first | exact World.drewN_drewN _ _ _ | exact (World.drewN_zero _).symm | rfl⟩

/-- What holds in both loops. -/
def WaR (kind n B : Nat) (w0 : World) (v i : Value) (wr : World) : Prop :=
  ∃ k : Nat, k ≤ n ∧ i = .int .i64 k ∧ OwnF wr B v k (waV kind n) ∧ Below B w0 wr

set_option maxHeartbeats 1000000 in
theorem specWin75 (kind n : Nat) (w : World) (hk : 1 ≤ kind ∧ kind ≤ 6) (h1 : 1 ≤ n) (h2 : n ≤ 256) : Calls Try.prog 75 #[.int .i64 kind, .int .i64 n] w fun e w' => ∃ v, e = .returned v ∧ OwnF w' w.heap.size v n (waV kind n) ∧ Below w.heap.size w w' := by
  go_enter Try.func75, Try.ntmps75
  go_wp2
  go_loopw [5, 6] (fun v i wr => WaR kind n w.heap.size w v i wr) (fun _ i _ => n - (intOf i).toNat)
  case atStart => exact ⟨0, Nat.zero_le _, rfl, OwnF.made w w.heap.size _ (Nat.le_refl _), (Below.refl _ _).alloc (Nat.le_refl _) _⟩
  case round =>
    obtain ⟨k, hk', rfl, hown, hbe⟩ := hrel
    have hsz : w.heap.size ≤ wr.heap.size := hbe.size
    have HOWN := hid hown
    have HBR := hid hbe
    clear hown hbe
    by_cases hlt : k < n
    · go_wp2_with fail
      refine (val82 kind n k wr hk h1 h2 (by omega)).mono ?_
      rintro e w' ⟨b, m5, rfl, hb5, rfl⟩
      go_wp2_with (at_builtin; refine wpList_app _ rfl _ _ rfl w.heap.size _ k (waV kind n) rfl ?c0 b _ rfl ?c1 ?c2 ?c3 ?_)
      case c0 => exact (HOWN.out.drewN _).alloc _
      case c1 => exact (World.cell?_alloc_at _ _ _ _ rfl).trans rfl
      case c2 => omega
      case c3 => simp; omega
      intro v' w6 hown6 hb6
      have hb := ((below_drewN HBR.out m5).alloc (by simp; omega) (.cells #[.float .f64 b] 26)).trans hb6
      go_wp2
      exact ⟨⟨k + 1, by omega, by go_num, hown6.congr (fun j hj => by
        by_cases e : j = k
        · subst e; rw [if_pos rfl]
        · rw [if_neg e]), hb⟩, by simp [intOf]; omega⟩
    · obtain rfl : k = n := by omega
      go_wp2
      go_ret
      exact ⟨_, rfl, HOWN.out, HBR.out⟩

set_option maxHeartbeats 1000000 in
theorem implWin46 (kind n : Nat) (w : World) (hk : 1 ≤ kind ∧ kind ≤ 6) (h1 : 1 ≤ n) (h2 : n ≤ 256) (b1 : inB (kind : Int) 1 6 = true) (b2 : inB (n : Int) 1 256 = true) : Calls Try.prog 46 #[.int .i64 kind, .int .i64 n] w fun e w' => ∃ v, e = .returned (.tuple #[v, .int .i64 0]) ∧ OwnF w' w.heap.size v n (waV kind n) ∧ Below w.heap.size w w' := by
  go_enter Try.func46, Try.ntmps46
  go_wp2_with (go_at_call 49; refine (in_any _ _ _ _).mono ?_; rintro e w' ⟨rfl, rfl⟩)
  go_loopw [6, 18] (fun v i wr => WaR kind n w.heap.size w v i wr) (fun _ i _ => n - (intOf i).toNat)
  case atStart => exact ⟨0, Nat.zero_le _, rfl, OwnF.made w w.heap.size _ (Nat.le_refl _), (Below.refl _ _).alloc (Nat.le_refl _) _⟩
  case round =>
    obtain ⟨k, hk', rfl, hown, hbe⟩ := hrel
    have hsz : w.heap.size ≤ wr.heap.size := hbe.size
    have HOWN := hid hown
    have HBR := hid hbe
    clear hown hbe
    by_cases hlt : k < n
    · go_wp2_with fail
      refine (val76 kind n k wr hk h1 h2 (by omega)).mono ?_
      rintro e w' ⟨b, m5, rfl, hb5, rfl⟩
      go_wp2_with (at_builtin; refine wpList_app _ rfl _ _ rfl w.heap.size _ k (waV kind n) rfl ?c0 b _ rfl ?c1 ?c2 ?c3 ?_)
      case c0 => exact (HOWN.out.drewN _).alloc _
      case c1 => exact (World.cell?_alloc_at _ _ _ _ rfl).trans rfl
      case c2 => omega
      case c3 => simp; omega
      intro v' w6 hown6 hb6
      have hb := ((below_drewN HBR.out m5).alloc (by simp; omega) (.cells #[.float .f64 b] 26)).trans hb6
      go_wp2
      exact ⟨⟨k + 1, by omega, by go_num, hown6.congr (fun j hj => by
        by_cases e : j = k
        · subst e; rw [if_pos rfl]
        · rw [if_neg e]), hb⟩, by simp [intOf]; omega⟩
    · obtain rfl : k = n := by omega
      go_wp2
      go_ret2
      exact ⟨_, rfl, HOWN.out, HBR.out⟩

/-! ### The whole -/
def woB (kind n : Int) : Bool := inB kind 1 6 && inB n 1 256
def woC (kind n : Int) : Int := unl (woB kind n) 2
def woN (kind n : Int) : Nat := if woB kind n then n.toNat else 0
theorem woN_le (kind n : Int) : woN kind n ≤ 1048576 := by
  unfold woN woB
  split
  · rename_i h
    rw [Bool.and_eq_true] at h
    have := inB_true h.2
    omega
  · omega
theorem specWo (kind n : Int) (_ : (Lit.int .i64 kind).wf = true) (_ : (Lit.int .i64 n).wf = true) (w : World) : Calls Try.prog 45 #[.int .i64 kind, .int .i64 n] w (ResS w (woN kind n) (waV kind.toNat n.toNat) (woC kind n)) := by
  cases b1 : inB kind 1 6 with
  | false =>
    have hN : woN kind n = 0 := by unfold woN woB; rw [b1]; rfl
    have hC := hid (show woC kind n = 2 by unfold woC woB; rw [b1]; rfl)
    rw [hN]
    go_enter Try.func45, Try.ntmps45
    go_wp2_with (first | (go_at_call 47; refine (l00In_any _ _ _ _).mono ?_; rintro e w' ⟨rfl, rfl⟩))
    go_ret2
    exact ⟨_, ret_sc hC.out.symm, OwnF.made w _ _ (Nat.le_refl _), (Below.refl _ _).alloc (Nat.le_refl _) _⟩
  | true =>
    cases b2 : inB n 1 256 with
    | false =>
      have hN : woN kind n = 0 := by unfold woN woB; rw [b1, b2]; rfl
      have hC := hid (show woC kind n = 2 by unfold woC woB; rw [b1, b2]; rfl)
      rw [hN]
      go_enter Try.func45, Try.ntmps45
      go_wp2_with (first | (go_at_call 47; refine (l00In_any _ _ _ _).mono ?_; rintro e w' ⟨rfl, rfl⟩))
      go_ret2
      exact ⟨_, ret_sc hC.out.symm, OwnF.made w _ _ (Nat.le_refl _), (Below.refl _ _).alloc (Nat.le_refl _) _⟩
    | true =>
      obtain ⟨k1, k2⟩ := inB_true b1
      obtain ⟨n1, n2⟩ := inB_true b2
      obtain ⟨K, rfl⟩ : ∃ K : Nat, kind = K := ⟨kind.toNat, by omega⟩
      obtain ⟨N, rfl⟩ : ∃ N : Nat, n = N := ⟨n.toNat, by omega⟩
      have hN : woN K N = N := by unfold woN woB; rw [b1, b2]; rfl
      have hC := hid (show woC K N = 0 by unfold woC woB; rw [b1, b2]; rfl)
      rw [hN]
      have HS := hid (specWin75 K N w ⟨by omega, by omega⟩ (by omega) (by omega))
      go_enter Try.func45, Try.ntmps45
      go_wp2_with (first | (go_at_call 47; refine (l00In_any _ _ _ _).mono ?_; rintro e w' ⟨rfl, rfl⟩) | (go_at_call 75; refine HS.out.mono ?_; rintro e w2 ⟨v, rfl, ho, hb⟩))
      go_ret2
      exact ⟨_, ret_sc hC.out.symm, ho, hb⟩
theorem implWo (kind n : Int) (_ : (Lit.int .i64 kind).wf = true) (_ : (Lit.int .i64 n).wf = true) (w : World) : Calls Try.prog 46 #[.int .i64 kind, .int .i64 n] w (ResS w (woN kind n) (waV kind.toNat n.toNat) (woC kind n)) := by
  cases b1 : inB kind 1 6 with
  | false =>
    have hN : woN kind n = 0 := by unfold woN woB; rw [b1]; rfl
    have hC := hid (show woC kind n = 2 by unfold woC woB; rw [b1]; rfl)
    rw [hN]
    go_enter Try.func46, Try.ntmps46
    go_wp2_with (first | (go_at_call 49; refine (in_any _ _ _ _).mono ?_; rintro e w' ⟨rfl, rfl⟩))
    go_ret2
    exact ⟨_, ret_sc hC.out.symm, OwnF.nil _ _ _, Below.refl _ _⟩
  | true =>
    cases b2 : inB n 1 256 with
    | false =>
      have hN : woN kind n = 0 := by unfold woN woB; rw [b1, b2]; rfl
      have hC := hid (show woC kind n = 2 by unfold woC woB; rw [b1, b2]; rfl)
      rw [hN]
      go_enter Try.func46, Try.ntmps46
      go_wp2_with (first | (go_at_call 49; refine (in_any _ _ _ _).mono ?_; rintro e w' ⟨rfl, rfl⟩))
      go_ret2
      exact ⟨_, ret_sc hC.out.symm, OwnF.nil _ _ _, Below.refl _ _⟩
    | true =>
      obtain ⟨k1, k2⟩ := inB_true b1
      obtain ⟨n1, n2⟩ := inB_true b2
      obtain ⟨K, rfl⟩ : ∃ K : Nat, kind = K := ⟨kind.toNat, by omega⟩
      obtain ⟨N, rfl⟩ : ∃ N : Nat, n = N := ⟨n.toNat, by omega⟩
      have hN : woN K N = N := by unfold woN woB; rw [b1, b2]; rfl
      have hC := hid (show woC K N = 0 by unfold woC woB; rw [b1, b2]; rfl)
      rw [hN]
      refine (implWin46 K N w ⟨by omega, by omega⟩ (by omega) (by omega) b1 b2).mono fun e w' ⟨v, he, ho, hb⟩ => ⟨v, ?_, ho, hb⟩
      rw [he, hC.out]
end Go.Proofs.Ytjiogodidicaeaa
