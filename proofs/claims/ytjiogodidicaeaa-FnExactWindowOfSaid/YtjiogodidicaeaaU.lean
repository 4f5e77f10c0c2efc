/-
  The parts of a turn: signs, roots and magnitudes of words up to NaN; the functions of package math; the divisor; the series.
-/
import Derived.Test.YtjiogodidicaeaaD
import Derived.Laws.Externs
namespace Go.Proofs.Ytjiogodidicaeaa
open Go.RowKit

/-! ### Words -/
theorem nanB_congr {x y : Nat} (h : x % 9223372036854775808 = y % 9223372036854775808) : nanB x = nanB y := by
  have hs : Ieee.double.signWeight = 9223372036854775808 := by decide
  unfold nanB Ieee.Format.read
  rw [hs]
  dsimp only
  rw [h]
  split
  · rfl
  · split
    · rfl
    · split <;> rfl
/-- The sign turned. -/
def vneg (x : Option Nat) : Option Nat := x.map (Op.negFloat .f64)
theorem cn_neg (x : Nat) : cn (Op.negFloat .f64 x) = vneg (cn x) := by
  have h : nanB (Op.negFloat .f64 x) = nanB x := by
    apply nanB_congr
    show (x ^^^ 2 ^ 63) % 2 ^ 63 = x % 2 ^ 63
    rw [Nat.xor_mod_two_pow]; simp
  unfold cn
  rw [h]
  cases nanB x <;> rfl
/-- The magnitude. -/
def vabs (x : Option Nat) : Option Nat := x.map (· % 9223372036854775808)
theorem cn_abs (x : Nat) : cn (x % 9223372036854775808) = vabs (cn x) := by
  have h : nanB (x % 9223372036854775808) = nanB x := nanB_congr (Nat.mod_mod _ _)
  unfold cn
  rw [h]
  cases nanB x <;> rfl
/-- The root. -/
def vsqrt : Option Nat → Option Nat
  | some x => FloatKind.f64.format.sqrt x
  | none => none
def sres (x : Nat) (w : World) : Nat := (FloatKind.f64.format.sqrt x).getD ((Question.nanBits .f64 x x).cut (w.tape w.drawn (.nanBits .f64 x x)))
def sdr (x : Nat) : Nat := if (FloatKind.f64.format.sqrt x).isSome then 0 else 1
theorem sqrt_nn {x r : Nat} (h : FloatKind.f64.format.sqrt x = some r) : nanB x = false ∧ nanB r = false := by
  obtain ⟨c, hc, rfl⟩ := Option.map_eq_some_iff.1 h
  obtain ⟨h1, h2⟩ := root_nn hc
  exact ⟨h1, write_not_nan _ _ h2⟩
theorem sres_cn (x : Nat) (w : World) : cn (sres x w) = vsqrt (cn x) := by
  unfold sres
  cases h : FloatKind.f64.format.sqrt x with
  | some r =>
    obtain ⟨h1, h2⟩ := sqrt_nn h
    rw [Option.getD_some, cn_of h1, cn_of h2]
    exact h.symm
  | none =>
    rw [Option.getD_none]
    have hl : cn ((Question.nanBits .f64 x x).cut (w.tape w.drawn (.nanBits .f64 x x))) = none := by simp [cn, drawn_nan]
    rw [hl]
    cases hx : cn x with
    | none => rfl
    | some a =>
      obtain ⟨rfl, _⟩ := cn_some hx
      exact h.symm

/-! ### Package math -/
theorem run_sqrt (x : Nat) (w : World) : (callFunc 99 #[.float .f64 x]).run Try.prog w = .ok (.value (.float .f64 (sres x w))) (w.drewN (sdr x)) := by
  rw [run_callFunc_extern Try.func99 (by kernel_rfl) (by kernel_rfl) (by kernel_rfl) (e := Extern.MathSqrt.sqrt) (by kernel_rfl)]
  change (Sem.run Try.prog (match FloatKind.f64.format.sqrt x with
    | some r => pure (Value.float .f64 r)
    | none => do pure (Value.float .f64 (← choose (.nanBits .f64 x x)))) w).andThen _ = _
  unfold sres sdr
  cases h : FloatKind.f64.format.sqrt x with
  | some r => simp [Sem.run_pure, Result.andThen, World.drewN_zero]
  | none => simp [Result.andThen, Question.forced, World.drew_is_drewN]
theorem run_bits (x : Nat) (w : World) : (callFunc 97 #[.float .f64 x]).run Try.prog w = .ok (.value (.int .u64 x)) w := by
  rw [run_callFunc_extern Try.func97 (by kernel_rfl) (by kernel_rfl) (by kernel_rfl) (e := Extern.MathFloatBits.float64bits) (by kernel_rfl)]
  rfl
theorem run_frombits (x : Int) (w : World) : (callFunc 96 #[.int .u64 x]).run Try.prog w = .ok (.value (.float .f64 x.toNat)) w := by
  rw [run_callFunc_extern Try.func96 (by kernel_rfl) (by kernel_rfl) (by kernel_rfl) (e := Extern.MathFloatBits.float64frombits) (by kernel_rfl)]
  rfl
theorem bits_clear (x : Nat) : bits .andNot .u64 (x : Int) 9223372036854775808 = ((x % 9223372036854775808 : Nat) : Int) := by
  have e : (BitVec.ofInt 64 (x : Int) &&& ~~~BitVec.ofInt 64 9223372036854775808).toNat = x % 9223372036854775808 := by
    rw [BitVec.toNat_and]
    have e1 : (~~~BitVec.ofInt 64 9223372036854775808).toNat = 2 ^ 63 - 1 := by decide
    have e2 : (BitVec.ofInt 64 (x : Int)).toNat = x % 2 ^ 64 := by
      rw [BitVec.toNat_ofInt]; omega
    rw [e1, e2, Nat.and_two_pow_sub_one_eq_mod]; omega
  show IntKind.u64.wrap ((BitVec.ofInt 64 (x : Int) &&& ~~~BitVec.ofInt 64 9223372036854775808).toNat : Int) = _
  rw [e, IntKind.wrap_u64]; omega
theorem sqrt_any (x : Nat) (w : World) : Calls Try.prog 86 #[.float .f64 x] w fun e w' => e = .returned (.float .f64 (sres x w)) ∧ w.drewN (sdr x) = w' := by
  have h := run_sqrt x
  go_enter Try.func86, Try.ntmps86
  go_wp2
  go_ret
  exact ⟨rfl, rfl⟩
theorem abs_any (x : Nat) (w : World) : Calls Try.prog 83 #[.float .f64 x] w fun e w' => e = .returned (.float .f64 (x % 9223372036854775808)) ∧ w = w' := by
  have h1 := run_bits x
  have h2 := run_frombits
  go_enter Try.func83, Try.ntmps83
  go_wp2
  go_ret
  refine ⟨?_, rfl⟩
  show Ending.returned (.float .f64 (bits .andNot .u64 (x : Int) 9223372036854775808).toNat) = _
  rw [bits_clear]; rfl
theorem run_neg64 (b : Nat) (w : World) : (Op.unary .neg (.float .f64 b)).run Try.prog w = .ok (.float .f64 (Op.negFloat .f64 b)) w := rfl
theorem conj89 (a b : Nat) (w : World) : Calls Try.prog 89 #[.complex .f64 a b] w fun e w' => e = .returned (.complex .f64 a (Op.negFloat .f64 b)) ∧ w = w' := by
  have hn := run_neg64
  go_enter Try.func89, Try.ntmps89
  go_wp2
  go_ret
  exact ⟨rfl, rfl⟩
theorem conj93 (a b : Nat) (w : World) : Calls Try.prog 93 #[.complex .f64 a b] w fun e w' => e = .returned (.complex .f64 a (Op.negFloat .f64 b)) ∧ w = w' := by
  have hn := run_neg64
  go_enter Try.func93, Try.ntmps93
  go_wp2
  go_ret
  exact ⟨rfl, rfl⟩
end Go.Proofs.Ytjiogodidicaeaa
