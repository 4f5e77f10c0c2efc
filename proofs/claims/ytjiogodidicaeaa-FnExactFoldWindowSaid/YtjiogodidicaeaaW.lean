/-
  FoldWindow: both sides.
-/
import Derived.Test.YtjiogodidicaeaaUt
import Derived.Test.YtjiogodidicaeaaH
import Derived.Test.YtjiogodidicaeaaL
namespace Go.Proofs.Ytjiogodidicaeaa
open Go.RowKit

/-- The fold window's number. -/
def fwV (m : Nat) (j : Nat) : Option Nat := (tV 4 (8 * m) (2 * j + 1)).2
/-- What holds in both loops. -/
def FwR (m B : Nat) (w0 : World) (v i : Value) (wr : World) : Prop :=
  ∃ k : Nat, k ≤ 2 * m ∧ i = .int .i64 k ∧ OwnF wr B v k (fwV m) ∧ Below B w0 wr
theorem fw_ok {m k : Nat} (hm : m ≤ 128) (hk : k < 2 * m) : TOk 4 (8 * m) (2 * k + 1) := by
  refine ⟨by omega, by have : (4 : Nat) ^ 4 = 256 := by decide
                       rw [this]; omega, .inl (Nat.le_refl _), .inl (by omega), .inl (by omega), by omega⟩

set_option maxHeartbeats 1000000 in
theorem specFold72 (m : Nat) (w : World) (hm : m ≤ 128) : Calls Try.prog 72 #[.int .i64 m] w fun e w' => ∃ v, e = .returned v ∧ OwnF w' w.heap.size v (2 * m) (fwV m) ∧ Below w.heap.size w w' := by
  obtain ⟨E, hE⟩ : ∃ E, Hid (E = 8 * m) := ⟨_, hid rfl⟩
  have e1 : 8 * (m : Int) = (E : Int) := by rw [hE.out]; omega
  go_enter Try.func72, Try.ntmps72
  go_wp2
  go_loopw [3, 4] (fun v i wr => FwR m w.heap.size w v i wr) (fun _ i _ => 2 * m - (intOf i).toNat)
  case atStart => exact ⟨0, Nat.zero_le _, rfl, OwnF.made w w.heap.size _ (Nat.le_refl _), (Below.refl _ _).alloc (Nat.le_refl _) _⟩
  case round =>
    obtain ⟨k, hk, rfl, hown, hbe⟩ := hrel
    have hsz : w.heap.size ≤ wr.heap.size := hbe.size
    have HOWN := hid hown
    have HBR := hid hbe
    clear hown hbe
    by_cases hlt : k < 2 * m
    · have i1 : (k : Int) < 2 * (m : Int) := by omega
      obtain ⟨A, hA⟩ : ∃ A, Hid (A = 2 * k + 1) := ⟨_, hid rfl⟩
      have e2 : 2 * (k : Int) + 1 = (A : Int) := by rw [hA.out]; omega
      have hT := hid (turn80 4 E A wr (by rw [hE.out, hA.out]; exact fw_ok hm hlt))
      have hV : Hid ((tV 4 E A).2 = fwV m k) := hid (by rw [hE.out, hA.out]; rfl)
      go_wp2_with fail
      refine hT.out.mono ?_
      rintro e w' ⟨a, b, m5, rfl, ha, hb5, rfl⟩
      go_wp2_with (at_builtin; refine wpList_app _ rfl _ _ rfl w.heap.size _ k (fwV m) rfl ?c0 b _ rfl ?c1 ?c2 ?c3 ?_)
      case c0 => exact (HOWN.out.drewN _).alloc _
      case c1 => exact (World.cell?_alloc_at _ _ _ _ rfl).trans rfl
      case c2 => omega
      case c3 => simp; omega
      intro v' w6 hown6 hb6
      have hb := ((below_drewN HBR.out m5).alloc (by simp; omega) (.cells #[.float .f64 b] 26)).trans hb6
      go_wp2
      exact ⟨⟨k + 1, by omega, by go_num, hown6.congr (fun j hj => by
        by_cases e : j = k
        · subst e; rw [if_pos rfl]; (try rw [hb5]); exact hV.out
        · rw [if_neg e]), hb⟩, by simp [intOf]; omega⟩
    · obtain rfl : k = 2 * m := by omega
      have i1 : ¬ ((2 * m : Nat) : Int) < 2 * (m : Int) := by omega
      go_wp2
      go_ret
      exact ⟨_, rfl, HOWN.out, HBR.out⟩
set_option maxHeartbeats 1000000 in
theorem implFold74 (m : Nat) (w : World) (hm : m ≤ 128) : Calls Try.prog 74 #[.int .i64 m] w fun e w' => ∃ v, e = .returned v ∧ OwnF w' w.heap.size v (2 * m) (fwV m) ∧ Below w.heap.size w w' := by
  obtain ⟨E, hE⟩ : ∃ E, Hid (E = 8 * m) := ⟨_, hid rfl⟩
  have e1 : 8 * (m : Int) = (E : Int) := by rw [hE.out]; omega
  go_enter Try.func74, Try.ntmps74
  go_wp2
  go_loopw [3, 8] (fun v i wr => FwR m w.heap.size w v i wr) (fun _ i _ => 2 * m - (intOf i).toNat)
  case atStart => exact ⟨0, Nat.zero_le _, rfl, OwnF.made w w.heap.size _ (Nat.le_refl _), (Below.refl _ _).alloc (Nat.le_refl _) _⟩
  case round =>
    obtain ⟨k, hk, rfl, hown, hbe⟩ := hrel
    have hsz : w.heap.size ≤ wr.heap.size := hbe.size
    have HOWN := hid hown
    have HBR := hid hbe
    clear hown hbe
    by_cases hlt : k < 2 * m
    · have i1 : (k : Int) < 2 * (m : Int) := by omega
      obtain ⟨A, hA⟩ : ∃ A, Hid (A = 2 * k + 1) := ⟨_, hid rfl⟩
      have e2 : 2 * (k : Int) + 1 = (A : Int) := by rw [hA.out]; omega
      have hT := hid (turn81 4 E A wr (by rw [hE.out, hA.out]; exact fw_ok hm hlt))
      have hV : Hid ((tV 4 E A).2 = fwV m k) := hid (by rw [hE.out, hA.out]; rfl)
      go_wp2_with fail
      refine hT.out.mono ?_
      rintro e w' ⟨a, b, m5, rfl, ha, hb5, rfl⟩
      go_wp2_with (at_builtin; refine wpList_app _ rfl _ _ rfl w.heap.size _ k (fwV m) rfl ?c0 b _ rfl ?c1 ?c2 ?c3 ?_)
      case c0 => exact (HOWN.out.drewN _).alloc _
      case c1 => exact (World.cell?_alloc_at _ _ _ _ rfl).trans rfl
      case c2 => omega
      case c3 => simp; omega
      intro v' w6 hown6 hb6
      have hb := ((below_drewN HBR.out m5).alloc (by simp; omega) (.cells #[.float .f64 b] 26)).trans hb6
      go_wp2
      exact ⟨⟨k + 1, by omega, by go_num, hown6.congr (fun j hj => by
        by_cases e : j = k
        · subst e; rw [if_pos rfl]; (try rw [hb5]); exact hV.out
        · rw [if_neg e]), hb⟩, by simp [intOf]; omega⟩
    · obtain rfl : k = 2 * m := by omega
      have i1 : ¬ ((2 * m : Nat) : Int) < 2 * (m : Int) := by omega
      go_wp2
      go_ret
      exact ⟨_, rfl, HOWN.out, HBR.out⟩

/-! ### The whole -/
def evB (m : Int) : Bool := inB m 2 128 && (m % 2 == 0)
theorem even71 (m : Int) (w : World) : Calls Try.prog 71 #[.int .i64 m] w fun e w' => e = .returned (.bool (evB m)) ∧ w = w' := by
  cases b1 : inB m 2 128 with
  | true =>
    obtain ⟨h1, h2⟩ := inB_true b1
    by_cases h : m % 2 = 0
    all_goals
      go_enter Try.func71, Try.ntmps71
      go_wp2_with (go_at_call 47; refine (l00In_any _ _ _ _).mono ?_; rintro e w' ⟨rfl, rfl⟩)
      go_ret
      exact ⟨ret_bool (by simp [evB, b1, h]), rfl⟩
  | false =>
    go_enter Try.func71, Try.ntmps71
    go_wp2_with (go_at_call 47; refine (l00In_any _ _ _ _).mono ?_; rintro e w' ⟨rfl, rfl⟩)
    go_ret
    exact ⟨ret_bool (by simp [evB, b1]), rfl⟩
theorem even73 (m : Int) (w : World) : Calls Try.prog 73 #[.int .i64 m] w fun e w' => e = .returned (.bool (evB m)) ∧ w = w' := by
  cases b1 : inB m 2 128 with
  | true =>
    obtain ⟨h1, h2⟩ := inB_true b1
    by_cases h : m % 2 = 0
    all_goals
      go_enter Try.func73, Try.ntmps73
      go_wp2_with (go_at_call 49; refine (in_any _ _ _ _).mono ?_; rintro e w' ⟨rfl, rfl⟩)
      go_ret
      exact ⟨ret_bool (by simp [evB, b1, h]), rfl⟩
  | false =>
    go_enter Try.func73, Try.ntmps73
    go_wp2_with (go_at_call 49; refine (in_any _ _ _ _).mono ?_; rintro e w' ⟨rfl, rfl⟩)
    go_ret
    exact ⟨ret_bool (by simp [evB, b1]), rfl⟩
def fwC (m : Int) : Int := unl (evB m) 2
def fwN (m : Int) : Nat := if evB m then 2 * m.toNat else 0
theorem fwN_le (m : Int) : fwN m ≤ 1048576 := by
  unfold fwN evB
  split
  · rename_i h
    rw [Bool.and_eq_true] at h
    have := inB_true h.1
    omega
  · omega
theorem ev_nat {m : Int} (h : evB m = true) : ∃ k : Nat, m = k ∧ k ≤ 128 := by
  unfold evB at h
  rw [Bool.and_eq_true] at h
  have := inB_true h.1
  exact ⟨m.toNat, by omega, by omega⟩
theorem specFold_any (m : Int) (w : World) : Calls Try.prog 43 #[.int .i64 m] w (ResS w (fwN m) (fwV m.toNat) (fwC m)) := by
  cases b : evB m with
  | true =>
    obtain ⟨k, rfl, hk⟩ := ev_nat b
    have hN : fwN k = 2 * k := by unfold fwN; rw [b]; rfl
    have hC := hid (show fwC k = 0 by unfold fwC; rw [b]; rfl)
    have HS := hid (specFold72 k w hk)
    rw [hN]
    go_enter Try.func43, Try.ntmps43
    go_wp2_with (first | (go_at_call 71; refine (even71 _ _).mono ?_; rintro e w' ⟨rfl, rfl⟩) | (go_at_call 72; refine HS.out.mono ?_; rintro e w2 ⟨v, rfl, ho, hb⟩))
    go_ret2
    exact ⟨_, ret_sc hC.out.symm, ho, hb⟩
  | false =>
    have hN : fwN m = 0 := by unfold fwN; rw [b]; rfl
    have hC := hid (show fwC m = 2 by unfold fwC; rw [b]; rfl)
    rw [hN]
    go_enter Try.func43, Try.ntmps43
    go_wp2_with (first | (go_at_call 71; refine (even71 _ _).mono ?_; rintro e w' ⟨rfl, rfl⟩))
    go_ret2
    exact ⟨_, ret_sc hC.out.symm, OwnF.made w _ _ (Nat.le_refl _), (Below.refl _ _).alloc (Nat.le_refl _) _⟩
theorem implFold_any (m : Int) (w : World) : Calls Try.prog 44 #[.int .i64 m] w (ResS w (fwN m) (fwV m.toNat) (fwC m)) := by
  cases b : evB m with
  | true =>
    obtain ⟨k, rfl, hk⟩ := ev_nat b
    have hN : fwN k = 2 * k := by unfold fwN; rw [b]; rfl
    have hC := hid (show fwC k = 0 by unfold fwC; rw [b]; rfl)
    have HS := hid (implFold74 k w hk)
    rw [hN]
    go_enter Try.func44, Try.ntmps44
    go_wp2_with (first | (go_at_call 73; refine (even73 _ _).mono ?_; rintro e w' ⟨rfl, rfl⟩) | (go_at_call 74; refine HS.out.mono ?_; rintro e w2 ⟨v, rfl, ho, hb⟩))
    go_ret2
    exact ⟨_, ret_sc hC.out.symm, ho, hb⟩
  | false =>
    have hN : fwN m = 0 := by unfold fwN; rw [b]; rfl
    have hC := hid (show fwC m = 2 by unfold fwC; rw [b]; rfl)
    rw [hN]
    go_enter Try.func44, Try.ntmps44
    go_wp2_with (first | (go_at_call 73; refine (even73 _ _).mono ?_; rintro e w' ⟨rfl, rfl⟩))
    go_ret2
    exact ⟨_, ret_sc hC.out.symm, OwnF.nil _ _ _, Below.refl _ _⟩
theorem specFoldW (m : Int) (_ : (Lit.int .i64 m).wf = true) (w : World) : Calls Try.prog 43 #[.int .i64 m] w (ResS w (fwN m) (fwV m.toNat) (fwC m)) := specFold_any m w
theorem implFoldW (m : Int) (_ : (Lit.int .i64 m).wf = true) (w : World) : Calls Try.prog 44 #[.int .i64 m] w (ResS w (fwN m) (fwV m.toNat) (fwC m)) := implFold_any m w
end Go.Proofs.Ytjiogodidicaeaa
