/-
  WindowOf's law out of its contracts.
-/
import Derived.Test.YtjiogodidicaeaaX
import Derived.Test.YtjiogodidicaeaaL
namespace Go.Proofs.Ytjiogodidicaeaa
open Go.RowKit

theorem ne_block_WindowOf {v : Value} {b : Nat} (h : ∀ k, v.ownBlock = some k → k ≠ b) : v.ownBlock = none ∨ v.ownBlock ≠ some b := by
  cases hv : v.ownBlock with
  | none => exact .inl rfl
  | some k => exact .inr (fun e => h k hv (Option.some.inj e))

theorem ne_own_WindowOf {v u : Value} (h : ∀ k l, v.ownBlock = some k → u.ownBlock = some l → k ≠ l) : v.ownBlock = none ∨ v.ownBlock ≠ u.ownBlock := by
  cases hv : v.ownBlock with
  | none => exact .inl rfl
  | some k =>
    refine .inr (fun e => ?_)
    exact h k k hv e.symm rfl

set_option maxHeartbeats 1000000 in
theorem law_WindowOf (kind : Int) (n : Int) (wkind : (Lit.int .i64 kind).wf = true) (wn : (Lit.int .i64 n).wf = true) (w : World) : Calls Try.prog 13 #[.int .i64 kind, .int .i64 n] w fun e w' => e = .returned (.bool true) ∧ Below w.heap.size w w' := by
  have hN : woN kind n ≤ 1048576 := (woN_le kind n)
  have HN := hid hN
  clear hN
  go_enter Try.func13, Try.ntmps13
  go_wp2_with fail
  refine (specWo kind n wkind wn w).mono ?_
  rintro e w2 ⟨v0, rfl, ho2, hb2⟩
  have HB2 := hid hb2
  have O2 := hid ho2
  clear hb2 ho2
  go_wp2_with fail
  refine (implWo kind n wkind wn w2).mono ?_
  rintro e w4 ⟨v1, rfl, ho4, hb4⟩
  have HB4 := hid (HB2.out.trans (hb4.mono HB2.out.size))
  have O4 := hid (O2.out.below hb4 (Nat.le_refl _))
  have G4 := hid ho4
  have L4 := hid hb4.size
  clear hb4 ho4
  go_wp2_with fail
  refine (eqF_own v1 v0 _ _ _ _ w4 HN.out G4.out O4.out).mono ?_
  rintro e w5 ⟨rfl, m5, rfl⟩
  go_wp2_with fail
  refine (markF_own v1 _ _ _ 1 _ HN.out (by omega) (by omega) (G4.out.drewN m5)).mono ?_
  rintro e w10 ⟨rfl, hm10, hg10⟩
  have HB10 := hid ((below_drewN HB4.out m5).grown hg10 HB4.out.size (fun k hk => by have := (G4.out.lt k hk).1; have := HB2.out.size; omega))
  have O10 := hid ((O4.out.drewN m5).grown hg10 (ne_own_WindowOf (fun k l hk hl => by have := (O2.out.lt k hk).2; have := (G4.out.lt l hl).1; omega)))
  have M10 := hid hm10
  clear hg10 hm10
  go_wp2_with fail
  refine (heldF_own v1 _ _ 1 w10 HN.out (by omega) (by omega) M10.out).mono ?_
  rintro e w11 ⟨rfl, rfl⟩
  go_wp2_with fail
  refine (implWo kind n wkind wn w10).mono ?_
  rintro e w13 ⟨v2, rfl, ho13, hb13⟩
  have HB13 := hid (HB10.out.trans (hb13.mono HB10.out.size))
  have O13 := hid (O10.out.below hb13 (Nat.le_refl _))
  have M13 := hid (M10.out.below hb13 (Nat.le_refl _))
  have H13 := hid ho13
  clear hb13 ho13
  go_wp2_with fail
  refine (eqF_own v2 v0 _ _ _ _ w13 HN.out H13.out O13.out).mono ?_
  rintro e w14 ⟨rfl, m14, rfl⟩
  go_wp2_with fail
  refine (heldF_own v1 _ _ 1 _ HN.out (by omega) (by omega) (M13.out.drewN m14)).mono ?_
  rintro e w15 ⟨rfl, rfl⟩
  go_wp2
  go_ret
  exact ⟨rfl, below_drewN HB13.out m14⟩
end Go.Proofs.Ytjiogodidicaeaa
