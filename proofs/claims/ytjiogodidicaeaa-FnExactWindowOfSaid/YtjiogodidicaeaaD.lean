/-
  Contracts of the sums: the program's 'total' over its closures, the reference's loops; GainOf and PowerOf.
-/
import Derived.Test.YtjiogodidicaeaaC
namespace Go.Proofs.Ytjiogodidicaeaa
open Go.RowKit

/-- The sum of the first words of a row, from the first one on. -/
def sumV (g : Nat → Option Nat) : Nat → Option Nat
  | 0 => some 0
  | 1 => g 0
  | n + 2 => vop .add (sumV g (n + 1)) (g (n + 1))
theorem sumV_succ (g : Nat → Option Nat) {n : Nat} (h : 1 ≤ n) : sumV g (n + 1) = vop .add (sumV g n) (g n) := by
  obtain ⟨m, rfl⟩ : ∃ m, n = m + 1 := ⟨n - 1, by omega⟩
  rfl
theorem cn0 : cn 0 = some 0 := by decide
theorem ret_f {a b : Nat} (h : a = b) : Ending.returned (.float .f64 a) = .returned (.float .f64 b) := by rw [h]

theorem mul_any (x y : Nat) (w : World) : Calls Try.prog 54 #[.float .f64 x, .float .f64 y] w fun e w' => e = .returned (.float .f64 (fres .mul x y w)) ∧ w.drewN (fdr .mul x y) = w' := by
  go_enter Try.func54, Try.ntmps54
  go_wp2
  go_ret
  exact ⟨rfl, rfl⟩

/-- What a closure gives at i: a word that is g i up to NaN; only draws. -/
def ClosR (w : World) (v : Option Nat) (e : Ending) (w' : World) : Prop := ∃ r m : Nat, e = .returned (.float .f64 r) ∧ cn r = v ∧ w' = w.drewN m

theorem clos52 (q g cap n i r : Nat) (w : World) (hi : i < n) (h1 : w.cell? ⟨q, 0, none⟩ = some (.slice (some ⟨g, 0, none⟩) n cap)) (h2 : w.cell? ⟨g, i, none⟩ = some (.float .f64 r)) :
    Calls Try.prog 52 #[.int .i64 i, .pointer (some ⟨q, 0, none⟩)] w (ClosR w (cn r)) := by
  go_enter Try.func52, Try.ntmps52
  go_wp2
  go_ret
  exact ⟨_, 0, rfl, rfl, rfl⟩
theorem clos53 (q g cap n i r : Nat) (w : World) (hi : i < n) (h1 : w.cell? ⟨q, 0, none⟩ = some (.slice (some ⟨g, 0, none⟩) n cap)) (h2 : w.cell? ⟨g, i, none⟩ = some (.float .f64 r)) :
    Calls Try.prog 53 #[.int .i64 i, .pointer (some ⟨q, 0, none⟩)] w (ClosR w (vop .mul (cn r) (cn r))) := by
  go_enter Try.func53, Try.ntmps53
  go_wp2
  go_region_with (go_at_call 54; refine (mul_any _ _ _).mono ?_; rintro e w' ⟨rfl, rfl⟩)
  all_goals go_wp2
  all_goals go_ret
  all_goals exact ⟨_, _, rfl, fres_cn _ _ _ _, rfl⟩

/-- What holds in the loop of a sum. -/
def SumR (v : Nat → Option Nat) (n : Nat) (w : World) (out i : Value) (wr : World) : Prop :=
  ∃ k r m : Nat, 1 ≤ k ∧ k ≤ n ∧ i = .int .i64 k ∧ out = .float .f64 r ∧ cn r = sumV v k ∧ Hid (wr = w.drewN m)
theorem sumR_step {v : Nat → Option Nat} {n k r r' m m' : Nat} {w wr : World} (h1 : 1 ≤ k) (h2 : k < n) (hr : cn r = sumV v k) (hr' : cn r' = v k) (hm : Hid (wr = w.drewN m)) :
    SumR v n w (.float .f64 (fres .add r r' (wr.drewN m'))) (.int .i64 ((k : Int) + 1)) (wr.drewN (m' + fdr .add r r')) := by
  refine ⟨k + 1, _, m + (m' + fdr .add r r'), by omega, by omega, by go_num, rfl, ?_, ?_⟩
  · rw [fres_cn, hr, hr', sumV_succ v h1]
  · rw [hm.out]
    exact hid (World.drewN_drewN _ _ _)

/-- The program's sum over a closure. -/
theorem total52 (n q : Nat) (v : Nat → Option Nat) (w : World) (hn : n ≤ 256)
    (hcl : ∀ (i m : Nat), i < n → Calls Try.prog 52 #[.int .i64 i, .pointer (some ⟨q, 0, none⟩)] (w.drewN m) (ClosR (w.drewN m) (v i))) :
    Calls Try.prog 51 #[.int .i64 n, .func (.func 52) #[] #[.pointer (some ⟨q, 0, none⟩)]] w (ClosR w (sumV v n)) := by
  by_cases h0 : n = 0
  · subst h0
    go_enter Try.func51, Try.ntmps51
    go_wp2
    go_ret
    exact ⟨0, 0, rfl, cn0, rfl⟩
  · have hc0 := hcl 0 0 (by omega)
    rw [World.drewN_zero] at hc0
    go_enter Try.func51, Try.ntmps51
    go_wp2_with (go_at_call 52; refine hc0.mono ?_; rintro e w' ⟨r, m, rfl, hr, hw⟩)
    go_loopw [5, 6] (fun out i wr => SumR v n w out i wr) (fun _ i _ => n - (intOf i).toNat)
    case atStart => exact ⟨1, r, m, by omega, by omega, rfl, rfl, hr, rfl⟩
    case round =>
      clear hr hw hc0
      obtain ⟨k, r, m, hk1, hk, rfl, rfl, hr, hm⟩ := hrel
      by_cases hlt : k < n
      · have hck := hid (hcl k m hlt)
        rw [← hm.out] at hck
        clear hcl
        go_wp2_with (go_at_call 52; refine hck.out.mono ?_; rintro e w' ⟨r', m', rfl, hr', hw⟩)
        exact ⟨sumR_step hk1 hlt hr hr' hm, by simp [intOf]; omega⟩
      · obtain rfl : k = n := by omega
        go_wp2
        go_ret
        exact ⟨r, m, rfl, hr, hm.out⟩
theorem total53 (n q : Nat) (v : Nat → Option Nat) (w : World) (hn : n ≤ 256)
    (hcl : ∀ (i m : Nat), i < n → Calls Try.prog 53 #[.int .i64 i, .pointer (some ⟨q, 0, none⟩)] (w.drewN m) (ClosR (w.drewN m) (v i))) :
    Calls Try.prog 51 #[.int .i64 n, .func (.func 53) #[] #[.pointer (some ⟨q, 0, none⟩)]] w (ClosR w (sumV v n)) := by
  by_cases h0 : n = 0
  · subst h0
    go_enter Try.func51, Try.ntmps51
    go_wp2
    go_ret
    exact ⟨0, 0, rfl, cn0, rfl⟩
  · have hc0 := hcl 0 0 (by omega)
    rw [World.drewN_zero] at hc0
    go_enter Try.func51, Try.ntmps51
    go_wp2_with (go_at_call 53; refine hc0.mono ?_; rintro e w' ⟨r, m, rfl, hr, hw⟩)
    go_loopw [5, 6] (fun out i wr => SumR v n w out i wr) (fun _ i _ => n - (intOf i).toNat)
    case atStart => exact ⟨1, r, m, by omega, by omega, rfl, rfl, hr, rfl⟩
    case round =>
      clear hr hw hc0
      obtain ⟨k, r, m, hk1, hk, rfl, rfl, hr, hm⟩ := hrel
      by_cases hlt : k < n
      · have hck := hid (hcl k m hlt)
        rw [← hm.out] at hck
        clear hcl
        go_wp2_with (go_at_call 53; refine hck.out.mono ?_; rintro e w' ⟨r', m', rfl, hr', hw⟩)
        exact ⟨sumR_step hk1 hlt hr hr' hm, by simp [intOf]; omega⟩
      · obtain rfl : k = n := by omega
        go_wp2
        go_ret
        exact ⟨r, m, rfl, hr, hm.out⟩
theorem total64 (n q q2 q3 : Nat) (v : Nat → Option Nat) (w : World) (hn : n ≤ 256)
    (hcl : ∀ (i m : Nat), i < n → Calls Try.prog 64 #[.int .i64 i, .pointer (some ⟨q, 0, none⟩), .pointer (some ⟨q2, 0, none⟩), .pointer (some ⟨q3, 0, none⟩)] (w.drewN m) (ClosR (w.drewN m) (v i))) :
    Calls Try.prog 51 #[.int .i64 n, .func (.func 64) #[] #[.pointer (some ⟨q, 0, none⟩), .pointer (some ⟨q2, 0, none⟩), .pointer (some ⟨q3, 0, none⟩)]] w (ClosR w (sumV v n)) := by
  by_cases h0 : n = 0
  · subst h0
    go_enter Try.func51, Try.ntmps51
    go_wp2
    go_ret
    exact ⟨0, 0, rfl, cn0, rfl⟩
  · have hc0 := hcl 0 0 (by omega)
    rw [World.drewN_zero] at hc0
    go_enter Try.func51, Try.ntmps51
    go_wp2_with (go_at_call 64; refine hc0.mono ?_; rintro e w' ⟨r, m, rfl, hr, hw⟩)
    go_loopw [5, 6] (fun out i wr => SumR v n w out i wr) (fun _ i _ => n - (intOf i).toNat)
    case atStart => exact ⟨1, r, m, by omega, by omega, rfl, rfl, hr, rfl⟩
    case round =>
      clear hr hw hc0
      obtain ⟨k, r, m, hk1, hk, rfl, rfl, hr, hm⟩ := hrel
      by_cases hlt : k < n
      · have hck := hid (hcl k m hlt)
        rw [← hm.out] at hck
        clear hcl
        go_wp2_with (go_at_call 64; refine hck.out.mono ?_; rintro e w' ⟨r', m', rfl, hr', hw⟩)
        exact ⟨sumR_step hk1 hlt hr hr' hm, by simp [intOf]; omega⟩
      · obtain rfl : k = n := by omega
        go_wp2
        go_ret
        exact ⟨r, m, rfl, hr, hm.out⟩
end Go.Proofs.Ytjiogodidicaeaa
