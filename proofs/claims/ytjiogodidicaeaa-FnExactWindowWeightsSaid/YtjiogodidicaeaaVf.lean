/-
  WindowWeights's law out of its contracts.
-/
import Derived.Test.YtjiogodidicaeaaVi
import Derived.Test.YtjiogodidicaeaaL
namespace Go.Proofs.Ytjiogodidicaeaa
open Go.RowKit

theorem law_WindowWeights_long (ao : Option Addr) (n cap : Nat) (count : Int) (hop : Int) (_ : (Lit.int .i64 count).wf = true) (_ : (Lit.int .i64 hop).wf = true) (w : World) (h0 : 1048576 < n) : Calls Try.prog 11 #[.slice ao n cap, .int .i64 count, .int .i64 hop] w fun e w' => e = .returned (.bool true) ∧ Below w.heap.size w w' := by
  go_enter Try.func11, Try.ntmps11
  go_wp2
  go_ret
  exact ⟨rfl, Below.refl _ _⟩

theorem ne_block_WindowWeights {v : Value} {b : Nat} (h : ∀ k, v.ownBlock = some k → k ≠ b) : v.ownBlock = none ∨ v.ownBlock ≠ some b := by
  cases hv : v.ownBlock with
  | none => exact .inl rfl
  | some k => exact .inr (fun e => h k hv (Option.some.inj e))

theorem ne_own_WindowWeights {v u : Value} (h : ∀ k l, v.ownBlock = some k → u.ownBlock = some l → k ≠ l) : v.ownBlock = none ∨ v.ownBlock ≠ u.ownBlock := by
  cases hv : v.ownBlock with
  | none => exact .inl rfl
  | some k =>
    refine .inr (fun e => ?_)
    exact h k k hv e.symm rfl

set_option maxHeartbeats 1000000 in
theorem law_WindowWeights (ao : Option Addr) (n cap : Nat) (f : Nat → Nat) (count : Int) (hop : Int) (_ : (Lit.int .i64 count).wf = true) (_ : (Lit.int .i64 hop).wf = true) (w : World) (h0 : n ≤ 1048576) (hr : Rd w ao n f) : Calls Try.prog 11 #[.slice ao n cap, .int .i64 count, .int .i64 hop] w fun e w' => e = .returned (.bool true) ∧ Below w.heap.size w w' := by
  have HR := hid hr
  clear hr
  have hN : wwN n count hop ≤ 1048576 := (wwN_le n count hop)
  have HN := hid hN
  clear hN
  go_enter Try.func11, Try.ntmps11
  go_wp2_with fail
  refine (toF_own ao n cap f w h0 HR.out).mono ?_
  rintro e w1 ⟨rfl, row1, _, hb1⟩
  go_wp2_with fail
  refine (specWW_any _ n n count hop f w1 row1.lt (fun j hj => row1.cell hj)).mono ?_
  rintro e w2 ⟨v0, rfl, ho2, hb2⟩
  have HB2 := hid (hb1.trans (hb2.mono hb1.size))
  have O2 := hid (ho2.mono hb1.size)
  clear row1 hb1 hb2 ho2
  go_wp2_with fail
  refine (toF_own ao n cap f w2 h0 (rd_below HR.out HB2.out (Nat.le_refl _))).mono ?_
  rintro e w3 ⟨rfl, row3, own3, hb3⟩
  have HB3 := hid (HB2.out.trans (hb3.mono HB2.out.size))
  have O3 := hid (O2.out.below hb3 (Nat.le_refl _))
  have X3 := hid own3
  have S3 := hid row3.lt
  clear hb3 own3
  go_wp2_with fail
  refine (implWW_any _ n n count hop f w3 row3.lt (fun j hj => row3.cell hj)).mono ?_
  rintro e w4 ⟨v1, rfl, ho4, hb4⟩
  have HB4 := hid (HB3.out.trans (hb4.mono HB3.out.size))
  have O4 := hid (O3.out.below hb4 (Nat.le_refl _))
  have X4 := hid (X3.out.below hb4 (Nat.le_refl _))
  have G4 := hid ho4
  have L4 := hid hb4.size
  clear row3 hb4 ho4
  go_wp2_with fail
  refine (eqF_own v1 v0 _ _ _ _ w4 HN.out G4.out O4.out).mono ?_
  rintro e w5 ⟨rfl, m5, rfl⟩
  go_wp2_with fail
  refine (toF_own ao n cap f _ h0 (rd_below HR.out (below_drewN HB4.out m5) (Nat.le_refl _))).mono ?_
  rintro e w6 ⟨rfl, _, own6, hb6⟩
  have HB6 := hid ((below_drewN HB4.out m5).trans (hb6.mono HB4.out.size))
  have O6 := hid ((O4.out.drewN m5).below hb6 (Nat.le_refl _))
  have X6 := hid ((X4.out.drewN m5).below hb6 (Nat.le_refl _))
  have G6 := hid ((G4.out.drewN m5).below hb6 (Nat.le_refl _))
  have C6 := hid own6
  have L6 := hid (show w4.heap.size ≤ w6.heap.size from hb6.size)
  clear hb6 own6
  go_wp2_with fail
  refine (eqF_own _ _ n _ _ _ w6 h0 X6.out C6.out).mono ?_
  rintro e w7 ⟨rfl, m7, rfl⟩
  go_wp2_with fail
  refine (markF_own _ n _ _ 1 _ h0 (by omega) (by omega) (X6.out.drewN m7)).mono ?_
  rintro e w8 ⟨rfl, _, hg8⟩
  have HB8 := hid ((below_drewN HB6.out m7).grown hg8 HB6.out.size (fun k hk => by have := HB2.out.size; simp [Value.ownBlock] at hk; omega))
  have O8 := hid ((O6.out.drewN m7).grown hg8 (ne_block_WindowWeights (b := w2.heap.size) (fun k hk => by have := (O2.out.lt k hk).2; omega)))
  have G8 := hid ((G6.out.drewN m7).grown hg8 (ne_block_WindowWeights (b := w2.heap.size) (fun k hk => by have := (G4.out.lt k hk).1; have := S3.out; omega)))
  have L8 := hid (show w6.heap.size ≤ w8.heap.size from hg8.size)
  clear hg8
  go_wp2_with fail
  refine (eqF_own v1 v0 _ _ _ _ w8 HN.out G8.out O8.out).mono ?_
  rintro e w9 ⟨rfl, m9, rfl⟩
  go_wp2_with fail
  refine (markF_own v1 _ _ _ 1 _ HN.out (by omega) (by omega) (G8.out.drewN m9)).mono ?_
  rintro e w10 ⟨rfl, hm10, hg10⟩
  have HB10 := hid ((below_drewN HB8.out m9).grown hg10 HB8.out.size (fun k hk => by have := (G4.out.lt k hk).1; have := HB3.out.size; omega))
  have O10 := hid ((O8.out.drewN m9).grown hg10 (ne_own_WindowWeights (fun k l hk hl => by have := (O2.out.lt k hk).2; have := (G4.out.lt l hl).1; have := S3.out; omega)))
  have M10 := hid hm10
  clear hg10 hm10
  go_wp2_with fail
  refine (heldF_own v1 _ _ 1 w10 HN.out (by omega) (by omega) M10.out).mono ?_
  rintro e w11 ⟨rfl, rfl⟩
  go_wp2_with fail
  refine (toF_own ao n cap f w10 h0 (rd_below HR.out HB10.out (Nat.le_refl _))).mono ?_
  rintro e w12 ⟨rfl, row12, _, hb12⟩
  have HB12 := hid (HB10.out.trans (hb12.mono HB10.out.size))
  have O12 := hid (O10.out.below hb12 (Nat.le_refl _))
  have M12 := hid (M10.out.below hb12 (Nat.le_refl _))
  clear hb12
  go_wp2_with fail
  refine (implWW_any _ n n count hop f w12 row12.lt (fun j hj => row12.cell hj)).mono ?_
  rintro e w13 ⟨v2, rfl, ho13, hb13⟩
  have HB13 := hid (HB12.out.trans (hb13.mono HB12.out.size))
  have O13 := hid (O12.out.below hb13 (Nat.le_refl _))
  have M13 := hid (M12.out.below hb13 (Nat.le_refl _))
  have H13 := hid ho13
  clear row12 hb13 ho13
  go_wp2_with fail
  refine (eqF_own v2 v0 _ _ _ _ w13 HN.out H13.out O13.out).mono ?_
  rintro e w14 ⟨rfl, m14, rfl⟩
  go_wp2_with fail
  refine (heldF_own v1 _ _ 1 _ HN.out (by omega) (by omega) (M13.out.drewN m14)).mono ?_
  rintro e w15 ⟨rfl, rfl⟩
  go_wp2
  go_ret
  exact ⟨rfl, below_drewN HB13.out m14⟩
end Go.Proofs.Ytjiogodidicaeaa
