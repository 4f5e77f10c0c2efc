/-
  Slices of floats in the call's own memory; the laws' own helpers on them: the copy, the comparison, the marks.
-/
import Derived.Test.YtjiogodidicaeaaA
import Derived.Deep.OwnRows
namespace Go.Proofs.Ytjiogodidicaeaa
open Go.RowKit

theorem run_store_f (P : Program) (w : World) (a : Addr) (m : Mode) (k : FloatKind) (b : Nat) : (store a (.float k b) m).run P w = stored P w a (.float k b) m := run_store P w a _ m rfl
attribute [local go_sem] run_store_f

theorem Try.info26 : (Try.prog.info? 26).map (fun i => (i.zero, i.size, i.bytes)) = some (some (.float .f64 0), 1, 8) := by kernel_rfl

/-- What holds in the loop of the copy: the first k elements are there. -/
def CopyR (n B : Nat) (f : Nat → Nat) (w : World) (i : Value) (wr : World) : Prop :=
  ∃ k : Nat, k ≤ n ∧ i = .int .i64 k ∧ wr.rowIs B 26 n (fun j => if j < k then .float .f64 (f j) else .float .f64 0) ∧ Below B w wr
theorem copyR_step {n B k : Nat} {f : Nat → Nat} {w wr : World} (hlt : k < n) (hrow : wr.rowIs B 26 n (fun j => if j < k then .float .f64 (f j) else .float .f64 0)) (hbe : Below B w wr) :
    CopyR n B f w (.int .i64 ((k : Int) + 1)) (wr.setCell ⟨B, k, none⟩ (.float .f64 (f k))) := by
  refine ⟨k + 1, by omega, by go_num, (hrow.set k _).congr ?_, hbe.setCell (Nat.le_refl _) _⟩
  intro j _
  by_cases h : j = k
  · subst h; rw [if_pos rfl, if_pos (by omega)]
  · rw [if_neg h]
    by_cases h2 : j < k
    · rw [if_pos h2, if_pos (by omega)]
    · rw [if_neg h2, if_neg (by omega)]

/-- What a slice of floats holds, where it is not empty: n words from an address on. -/
def Rd (w : World) (ao : Option Addr) (n : Nat) (f : Nat → Nat) : Prop :=
  0 < n → ∃ b off, ao = some ⟨b, off, none⟩ ∧ b < w.heap.size ∧ ∀ j, j < n → w.cell? ⟨b, off + j, none⟩ = some (.float .f64 (f j))

/-- The copy of a slice: its elements in a new row. -/
theorem toF_any (ao : Option Addr) (n cap : Nat) (f : Nat → Nat) (w : World) (hn : n ≤ 1048576) (hr : Rd w ao n f) :
    Calls Try.prog 17 #[.slice ao n cap] w fun e w' => e = .returned (.slice (some ⟨w.heap.size, 0, none⟩) n n) ∧ w'.rowIs w.heap.size 26 n (fun j => .float .f64 (f j)) ∧ Below w.heap.size w w' := by
  have hmk := run_make_row' (P := Try.prog) 25 26 (.float .f64 0) 8 Try.underlying25 Try.info26 rfl .i64 .i64 n (by omega) (by omega)
  go_enter Try.func17, Try.ntmps17
  go_wp2
  go_loopw [4] (fun i wr => CopyR n w.heap.size f w i wr) (fun i _ => n - (intOf i).toNat)
  case atStart => exact ⟨0, Nat.zero_le _, rfl, World.rowIs_made _ _ _ _, (Below.refl _ _).alloc (Nat.le_refl _) _⟩
  case round =>
    obtain ⟨k, hk, rfl, hrow, hbe⟩ := hrel
    by_cases hlt : k < n
    · obtain ⟨b, off, rfl, hb, hc⟩ := hr (by omega)
      have h1 : wr.cell? ⟨b, off + k, none⟩ = some (.float .f64 (f k)) := (hbe.cell hb).trans (hc k hlt)
      have h2 := hrow.cell hlt
      have h3 := hrow.frozen k
      clear hc
      go_wp2
      exact ⟨copyR_step hlt hrow hbe, by simp [intOf]; omega⟩
    · go_wp2
      go_ret
      exact ⟨rfl, hrow.congr (fun j hj => if_pos (by omega)), hbe⟩

theorem sameFloat_any (x y : Nat) (w : World) (hxy : cn x = cn y) : Calls Try.prog 19 #[.float .f64 x, .float .f64 y] w fun e w' => e = .returned (.bool true) ∧ ∃ n, w' = w.drewN n := by
  cases hx : cn x with
  | none =>
    have h1 := order_nan (x := x) (y := x) (.inl (cn_none hx))
    have h2 := order_nan (x := y) (y := y) (.inl (cn_none (hxy.symm.trans hx)))
    clear hxy hx
    go_enter Try.func19, Try.ntmps19
    go_wp2
    go_ret
    exact ⟨rfl, 0, rfl⟩
  | some a =>
    obtain ⟨rfl, hnx⟩ := cn_some hx
    obtain ⟨rfl, _⟩ := cn_some (hxy.symm.trans hx)
    have h1 := order_self hnx
    clear hxy hx hnx
    by_cases h2 : FloatKind.f64.format.order y 0 = some .eq
    · go_enter Try.func19, Try.ntmps19
      go_wp2
      go_ret
      exact ⟨ret_bool (by simp only [ord_cn, fres_cn, beq_self_eq_true]), _, rfl⟩
    · go_enter Try.func19, Try.ntmps19
      go_wp2
      go_ret
      exact ⟨rfl, 0, rfl⟩

/-- The comparison of two slices that hold the same words up to NaN. -/
theorem eqF_any (ao ao' : Option Addr) (n cap cap' : Nat) (f f' : Nat → Nat) (w : World) (hn : n ≤ 1048576) (hr : Rd w ao n f) (hr' : Rd w ao' n f') (hff : ∀ j, j < n → cn (f j) = cn (f' j)) :
    Calls Try.prog 20 #[.slice ao n cap, .slice ao' n cap'] w fun e w' => e = .returned (.bool true) ∧ ∃ m, w' = w.drewN m := by
  go_enter Try.func20, Try.ntmps20
  go_wp2
  go_loopw [5] (fun i wr => ∃ k m : Nat, k ≤ n ∧ i = .int .i64 k ∧ Hid (wr = w.drewN m)) (fun i _ => n - (intOf i).toNat)
  case atStart => exact ⟨0, 0, Nat.zero_le _, rfl, rfl⟩
  case round =>
    obtain ⟨k, m, hk, rfl, hm⟩ := hrel
    by_cases hlt : k < n
    · obtain ⟨b, off, rfl, hb, hc⟩ := hr (by omega)
      obtain ⟨b', off', rfl, hb', hc'⟩ := hr' (by omega)
      have h1 : wr.cell? ⟨b, off + k, none⟩ = some (.float .f64 (f k)) := by rw [hm.out]; exact hc k hlt
      have h2 : wr.cell? ⟨b', off' + k, none⟩ = some (.float .f64 (f' k)) := by rw [hm.out]; exact hc' k hlt
      have h3 := hid (hff k hlt)
      clear hc hc' hff
      go_wp2
      go_quiet ((go_at_call 19; exact Calls.quiet_of (sameFloat_any _ _ _ h3.out)))
      go_wp2
      exact ⟨⟨k + 1, m + nq, by omega, by go_num, by rw [hm.out]; exact hid (World.drewN_drewN _ _ _)⟩, by simp [intOf]; omega⟩
    · go_wp2
      go_ret
      exact ⟨rfl, m, hm.out⟩

/-- The word of a whole number. -/
def fI (n : Int) : Nat := floatOfInt .f64 n
theorem fI_nn (n : Int) : nanB (fI n) = false := write_not_nan Ieee.double (.number (n < 0) n.natAbs 0) rfl
theorem run_fI (t : TypeId) (ht : Try.prog.underlying t = some (.int .i64)) (n : Int) (w : World) : (convert t 26 (.int .i64 n)).run Try.prog w = .ok (.float .f64 (fI n)) w :=
  run_convert_int_float w t 26 .i64 .f64 n (by rw [ht]; rfl) Try.underlying26

/-- What holds in the loop of the marks. -/
def MarkR (b c n : Nat) (F : Nat → Value) (p : Int) (w : World) (k i : Value) (wr : World) : Prop :=
  ∃ j : Nat, j ≤ n ∧ i = .int .i64 j ∧ k = .int .i64 (p + j) ∧ wr.rowIs b 26 c (fun x => if x < j then .float .f64 (fI (p + x)) else F x) ∧ w.grownBy wr (some b)
theorem markR_step {b c n j : Nat} {F : Nat → Value} {p : Int} {w wr : World} (hlt : j < n)
    (hrow : wr.rowIs b 26 c (fun x => if x < j then .float .f64 (fI (p + x)) else F x)) (hg : w.grownBy wr (some b)) :
    MarkR b c n F p w (.int .i64 (p + j + 1)) (.int .i64 ((j : Int) + 1)) (wr.setCell ⟨b, j, none⟩ (.float .f64 (fI (p + j)))) := by
  refine ⟨j + 1, by omega, by go_num, by go_num, (hrow.set j _).congr ?_, ?_⟩
  · intro x _
    by_cases h : x = j
    · subst h; rw [if_pos rfl, if_pos (by omega)]
    · rw [if_neg h]
      by_cases h2 : x < j
      · rw [if_pos h2, if_pos (by omega)]
      · rw [if_neg h2, if_neg (by omega)]
  · exact ⟨hg.os, hg.tape, hg.output, by simpa using hg.size, fun k hk hne => (Below.heap_setCell _ _ _ _ (fun e => hne (by rw [e]))).trans (hg.block k hk hne)⟩

/-- The marks: the elements are p, p + 1, .. . -/
theorem markF_any (b c n cap : Nat) (F : Nat → Value) (p : Int) (w : World) (hn : n ≤ 1048576) (hnc : n ≤ c) (hp : 0 ≤ p) (hp2 : p ≤ 1048576) (hrow : w.rowIs b 26 c F) :
    Calls Try.prog 31 #[.slice (some ⟨b, 0, none⟩) n cap, .int .i64 p] w fun e w' => e = .returned (.int .i64 (p + n)) ∧ w'.rowIs b 26 c (fun x => if x < n then .float .f64 (fI (p + x)) else F x) ∧ w.grownBy w' (some b) := by
  have hcv := run_fI 3 Try.underlying3
  go_enter Try.func31, Try.ntmps31
  go_wp2
  go_loopw [1, 5] (fun k i wr => MarkR b c n F p w k i wr) (fun _ i _ => n - (intOf i).toNat)
  case atStart => exact ⟨0, Nat.zero_le _, rfl, by go_num, hrow.congr (fun _ _ => by simp), World.grownBy.refl _ _⟩
  case round =>
    obtain ⟨j, hj, rfl, rfl, hrow', hg⟩ := hrel
    by_cases hlt : j < n
    · have h2 := hrow'.cell (show j < c by omega)
      have h3 := hrow'.frozen j
      go_wp2
      exact ⟨markR_step hlt hrow' hg, by simp [intOf]; omega⟩
    · obtain rfl : j = n := by omega
      go_wp2
      go_ret
      exact ⟨rfl, hrow', hg⟩
/-- An empty slice, a nil one too, has no marks. -/
theorem markF_none (ao : Option Addr) (cap : Nat) (p : Int) (w : World) :
    Calls Try.prog 31 #[.slice ao 0 cap, .int .i64 p] w fun e w' => e = .returned (.int .i64 p) ∧ w = w' := by
  go_enter Try.func31, Try.ntmps31
  go_wp2
  refine wp_loop_rounds 1 ?_
  rw [rounds_succ]
  go_wp2
  go_ret
  exact ⟨rfl, rfl⟩

/-- The look at the marks. -/
theorem heldF_any (ao : Option Addr) (n cap : Nat) (p : Int) (w : World) (hn : n ≤ 1048576) (hp : 0 ≤ p) (hp2 : p ≤ 1048576) (hr : Rd w ao n (fun x => fI (p + x))) :
    Calls Try.prog 36 #[.slice ao n cap, .int .i64 p] w fun e w' => e = .returned (.int .i64 (p + n)) ∧ w = w' := by
  have hcv := run_fI 3 Try.underlying3
  go_enter Try.func36, Try.ntmps36
  go_wp2
  go_loop [1, 5] (fun k i => ∃ j : Nat, j ≤ n ∧ i = .int .i64 j ∧ k = .int .i64 (p + j)) (fun _ i => n - (intOf i).toNat)
  case atStart => exact ⟨0, Nat.zero_le _, rfl, by go_num⟩
  case round =>
    obtain ⟨j, hj, rfl, rfl⟩ := hrel
    by_cases hlt : j < n
    · obtain ⟨b, off, rfl, hb, hc⟩ := hr (by omega)
      have h2 := hc j hlt
      have h3 := order_self (fI_nn (p + j))
      clear hc
      go_wp2
      exact ⟨⟨j + 1, by omega, by go_num, by go_num⟩, by simp [intOf]; omega⟩
    · obtain rfl : j = n := by omega
      go_wp2
      go_ret
      exact ⟨rfl, rfl⟩
theorem below_drewN {B : Nat} {a w : World} (h : Below B a w) (n : Nat) : Below B a (w.drewN n) := ⟨h.os, h.tape, h.output, h.size, h.block⟩
end Go.Proofs.Ytjiogodidicaeaa
