/-
  The law of RippleOf, out of the contracts of its two sides.
-/
import Derived.Test.YtjiogodidicaeaaR
namespace Go.Proofs.Ytjiogodidicaeaa
open Go.RowKit

theorem law_RippleOf_long (ao : Option Addr) (n cap : Nat) (hop : Int) (_ : (Lit.int .i64 hop).wf = true) (w : World) (h0 : 1048576 < n) : Calls Try.prog 9 #[.slice ao n cap, .int .i64 hop] w fun e w' => e = .returned (.bool true) ∧ Below w.heap.size w w' := by
  go_enter Try.func9, Try.ntmps9
  go_wp2
  go_ret
  exact ⟨rfl, Below.refl _ _⟩
theorem law_RippleOf (ao : Option Addr) (n cap : Nat) (f : Nat → Nat) (hop : Int) (_ : (Lit.int .i64 hop).wf = true) (w : World) (h0 : n ≤ 1048576) (hr : Rd w ao n f) : Calls Try.prog 9 #[.slice ao n cap, .int .i64 hop] w fun e w' => e = .returned (.bool true) ∧ Below w.heap.size w w' := by
  have HR := hid hr
  clear hr
  go_enter Try.func9, Try.ntmps9
  go_wp2_with fail
  refine (toF_any ao n cap f w h0 HR.out).mono ?_
  rintro e w1 ⟨rfl, row1, hb1⟩
  go_wp2_with fail
  refine (specRip_any _ n n hop f w1 row1.lt (fun j hj => row1.cell hj)).mono ?_
  rintro e w2 ⟨r0, rfl, hr0, hb2⟩
  have HB2 := hid (hb1.trans (hb2.mono hb1.size))
  clear row1 hb1 hb2
  go_wp2_with fail
  refine (toF_any ao n cap f w2 h0 (rd_below HR.out HB2.out (Nat.le_refl _))).mono ?_
  rintro e w3 ⟨rfl, row3, hb3⟩
  have HB3 := hid (HB2.out.trans (hb3.mono HB2.out.size))
  go_wp2_with fail
  refine (implRip_any _ n n hop f w3 row3.lt (fun j hj => row3.cell hj)).mono ?_
  rintro e w4 ⟨r1, rfl, hr1, hb4⟩
  have HB4 := hid (HB3.out.trans (hb4.mono HB3.out.size))
  have ROW4 := hid (row_below row3 hb4 row3.lt)
  clear row3 hb3 hb4
  go_wp2_with fail
  refine (sameFloat_any r1 r0 w4 (hr1.trans hr0.symm)).mono ?_
  rintro e w5 ⟨rfl, m5, rfl⟩
  go_wp2_with fail
  refine (toF_any ao n cap f _ h0 (rd_below HR.out (below_drewN HB4.out m5) (Nat.le_refl _))).mono ?_
  rintro e w6 ⟨rfl, row6, hb6⟩
  have HB6 := hid ((below_drewN HB4.out m5).trans (hb6.mono HB4.out.size))
  go_wp2_with fail
  refine (eqF_any _ _ n n n f f w6 h0 (rd_of_row (row_below ROW4.out ((below_drewN (Below.refl _ w4) m5).trans hb6) ROW4.out.lt) (Nat.le_refl _)) (rd_of_row row6 (Nat.le_refl _)) (fun _ _ => rfl)).mono ?_
  rintro e w7 ⟨rfl, m7, rfl⟩
  clear row6 hb6
  go_wp2
  go_ret
  exact ⟨rfl, below_drewN HB6.out m7⟩
end Go.Proofs.Ytjiogodidicaeaa
