/-
  GainOf and PowerOf: the reference's and the program's.
-/
import Derived.Test.YtjiogodidicaeaaD
namespace Go.Proofs.Ytjiogodidicaeaa
open Go.RowKit

/-- A float and a code, the float up to NaN; what was there is as it was. -/
def ResFC (w : World) (v : Option Nat) (c : Int) (e : Ending) (w' : World) : Prop := ∃ r : Nat, e = .returned (.tuple #[.float .f64 r, .int .i64 c]) ∧ cn r = v ∧ Below w.heap.size w w'
/-- The sum where it is asked. -/
def gainV (v : Nat → Option Nat) (n : Nat) : Option Nat := if 256 < n then some 0 else sumV v n
theorem gainV_over {v : Nat → Option Nat} {n : Nat} (h : 256 < n) : some 0 = gainV v n := (if_pos h).symm
theorem gainV_ok {v : Nat → Option Nat} {n : Nat} (h : ¬ 256 < n) : sumV v n = gainV v n := (if_neg h).symm
theorem limC_over {n : Nat} (h : 256 < n) : 3 = limC (n : Int) := (if_pos (by omega)).symm
theorem limC_ok {n : Nat} (h : ¬ 256 < n) : 0 = limC (n : Int) := (if_neg (by omega)).symm
theorem ret_fc {r : Nat} {c d : Int} (h : c = d) : Ending.returned (.tuple #[.float .f64 r, .int .i64 c]) = .returned (.tuple #[.float .f64 r, .int .i64 d]) := by rw [h]
/-- What holds in the reference's loop of a sum. -/
def SumL (v : Nat → Option Nat) (n : Nat) (w : World) (out i : Value) (wr : World) : Prop :=
  ∃ k r m : Nat, k ≤ n ∧ i = .int .i64 k ∧ out = .float .f64 r ∧ cn r = sumV v k ∧ Hid (wr = w.drewN m)

theorem specGain_any (g cap n : Nat) (f : Nat → Nat) (w : World) (hc : ∀ j, j < n → w.cell? ⟨g, j, none⟩ = some (.float .f64 (f j))) :
    Calls Try.prog 16 #[.slice (some ⟨g, 0, none⟩) n cap] w (ResFC w (gainV (fun j => cn (f j)) n) (limC n)) := by
  by_cases hn : 256 < n
  · go_enter Try.func16, Try.ntmps16
    go_wp2
    go_ret2
    exact ⟨0, ret_fc (limC_over (by omega)), cn0.trans (gainV_over (by omega)), Below.refl _ _⟩
  · go_enter Try.func16, Try.ntmps16
    go_wp2
    go_loopw [4, 5] (fun out i wr => SumL (fun j => cn (f j)) n w out i wr) (fun _ i _ => n - (intOf i).toNat)
    case atStart => exact ⟨0, 0, 0, by omega, rfl, rfl, cn0, rfl⟩
    case round =>
      obtain ⟨k, r, m, hk, rfl, rfl, hr, hm⟩ := hrel
      by_cases hlt : k < n
      · have h1 : wr.cell? ⟨g, k, none⟩ = some (.float .f64 (f k)) := by rw [hm.out]; exact hc k hlt
        clear hc
        by_cases h0 : k = 0
        · subst h0
          go_wp2
          exact ⟨⟨1, _, m, by omega, rfl, rfl, rfl, hm⟩, by simp [intOf]; omega⟩
        · go_wp2
          exact ⟨⟨k + 1, _, _, by omega, by go_num, rfl, by rw [fres_cn, hr, sumV_succ _ (by omega)], by rw [hm.out]; exact hid (World.drewN_drewN _ _ _)⟩, by simp [intOf]; omega⟩
      · obtain rfl : k = n := by omega
        go_wp2
        go_ret2
        exact ⟨r, ret_fc (limC_ok (by omega)), hr.trans (gainV_ok (by omega)), by rw [hm.out]; exact below_drewN (Below.refl _ _) m⟩

theorem specPower_any (g cap n : Nat) (f : Nat → Nat) (w : World) (hc : ∀ j, j < n → w.cell? ⟨g, j, none⟩ = some (.float .f64 (f j))) :
    Calls Try.prog 21 #[.slice (some ⟨g, 0, none⟩) n cap] w (ResFC w (gainV (fun j => vop .mul (cn (f j)) (cn (f j))) n) (limC n)) := by
  by_cases hn : 256 < n
  · go_enter Try.func21, Try.ntmps21
    go_wp2
    go_ret2
    exact ⟨0, ret_fc (limC_over (by omega)), cn0.trans (gainV_over (by omega)), Below.refl _ _⟩
  · go_enter Try.func21, Try.ntmps21
    go_wp2
    go_loopw [4, 5] (fun out i wr => SumL (fun j => vop .mul (cn (f j)) (cn (f j))) n w out i wr) (fun _ i _ => n - (intOf i).toNat)
    case atStart => exact ⟨0, 0, 0, by omega, rfl, rfl, cn0, rfl⟩
    case round =>
      obtain ⟨k, r, m, hk, rfl, rfl, hr, hm⟩ := hrel
      by_cases hlt : k < n
      · have h1 : wr.cell? ⟨g, k, none⟩ = some (.float .f64 (f k)) := by rw [hm.out]; exact hc k hlt
        clear hc
        by_cases h0 : k = 0
        · subst h0
          go_wp2
          go_region
          all_goals go_wp2
          all_goals exact ⟨⟨1, _, _, by omega, rfl, rfl, fres_cn _ _ _ _, by rw [hm.out]; exact hid (World.drewN_drewN _ _ _)⟩, by simp [intOf]; omega⟩
        · go_wp2
          go_region
          all_goals go_wp2
          all_goals exact ⟨⟨k + 1, _, _, by omega, by go_num, rfl, by rw [fres_cn, fres_cn, hr, sumV_succ _ (by omega)], by rw [hm.out]; exact hid (World.drewN_drewN _ _ _)⟩, by simp [intOf]; omega⟩
      · obtain rfl : k = n := by omega
        go_wp2
        go_ret2
        exact ⟨r, ret_fc (limC_ok (by omega)), hr.trans (gainV_ok (by omega)), by rw [hm.out]; exact below_drewN (Below.refl _ _) m⟩

theorem implGain_any (g cap n : Nat) (f : Nat → Nat) (w : World) (hg : g < w.heap.size) (hc : ∀ j, j < n → w.cell? ⟨g, j, none⟩ = some (.float .f64 (f j))) :
    Calls Try.prog 18 #[.slice (some ⟨g, 0, none⟩) n cap] w (ResFC w (gainV (fun j => cn (f j)) n) (limC n)) := by
  by_cases hn : 256 < n
  · have hl := (limC_over hn).symm
    have hb : (w.alloc (.cells #[.slice (some ⟨g, 0, none⟩) n cap] 25)).cell? ⟨w.heap.size, 0, none⟩ = some (.slice (some ⟨g, 0, none⟩) n cap) := by
      rw [World.cell?_alloc_at _ _ _ _ rfl]; rfl
    go_enter Try.func18, Try.ntmps18
    go_wp2_with (go_at_call 50; refine (realLimit_any _ _ _ _).mono ?_; rintro e w2 ⟨rfl, hbe⟩)
    go_ret2
    exact ⟨0, ret_fc (limC_over (by omega)), cn0.trans (gainV_over (by omega)), ((Below.refl _ _).alloc (Nat.le_refl _) _).trans (hbe.mono (by simp))⟩
  · have hl := (limC_ok hn).symm
    have hb : (w.alloc (.cells #[.slice (some ⟨g, 0, none⟩) n cap] 25)).cell? ⟨w.heap.size, 0, none⟩ = some (.slice (some ⟨g, 0, none⟩) n cap) := by
      rw [World.cell?_alloc_at _ _ _ _ rfl]; rfl
    go_enter Try.func18, Try.ntmps18
    go_wp2_with (go_at_call 50; refine (realLimit_any _ _ _ _).mono ?_; rintro e w2 ⟨rfl, hbe⟩; have hb2 := (hbe.cell (p := ⟨w.heap.size, 0, none⟩) (by simp)).trans hb)
    have hc2 : ∀ i, i < n → w2.cell? ⟨g, i, none⟩ = some (.float .f64 (f i)) := fun i hi => (hbe.cell (by simp; omega)).trans ((World.cell?_alloc_past _ _ _ hg).trans (hc i hi))
    refine (total52 n w.heap.size (fun j => cn (f j)) w2 (by omega) (fun i m hi => clos52 _ g cap n i (f i) _ hi hb2 (hc2 i hi))).mono ?_
    rintro e w3 ⟨r, m, rfl, hr, rfl⟩
    clear hc hc2
    go_wp2
    go_ret2
    exact ⟨r, ret_fc (limC_ok (by omega)), hr.trans (gainV_ok (by omega)), below_drewN (((Below.refl _ _).alloc (Nat.le_refl _) _).trans (hbe.mono (by simp))) m⟩
theorem implPower_any (g cap n : Nat) (f : Nat → Nat) (w : World) (hg : g < w.heap.size) (hc : ∀ j, j < n → w.cell? ⟨g, j, none⟩ = some (.float .f64 (f j))) :
    Calls Try.prog 22 #[.slice (some ⟨g, 0, none⟩) n cap] w (ResFC w (gainV (fun j => vop .mul (cn (f j)) (cn (f j))) n) (limC n)) := by
  by_cases hn : 256 < n
  · have hl := (limC_over hn).symm
    have hb : (w.alloc (.cells #[.slice (some ⟨g, 0, none⟩) n cap] 25)).cell? ⟨w.heap.size, 0, none⟩ = some (.slice (some ⟨g, 0, none⟩) n cap) := by
      rw [World.cell?_alloc_at _ _ _ _ rfl]; rfl
    go_enter Try.func22, Try.ntmps22
    go_wp2_with (go_at_call 50; refine (realLimit_any _ _ _ _).mono ?_; rintro e w2 ⟨rfl, hbe⟩)
    go_ret2
    exact ⟨0, ret_fc (limC_over (by omega)), cn0.trans (gainV_over (by omega)), ((Below.refl _ _).alloc (Nat.le_refl _) _).trans (hbe.mono (by simp))⟩
  · have hl := (limC_ok hn).symm
    have hb : (w.alloc (.cells #[.slice (some ⟨g, 0, none⟩) n cap] 25)).cell? ⟨w.heap.size, 0, none⟩ = some (.slice (some ⟨g, 0, none⟩) n cap) := by
      rw [World.cell?_alloc_at _ _ _ _ rfl]; rfl
    go_enter Try.func22, Try.ntmps22
    go_wp2_with (go_at_call 50; refine (realLimit_any _ _ _ _).mono ?_; rintro e w2 ⟨rfl, hbe⟩; have hb2 := (hbe.cell (p := ⟨w.heap.size, 0, none⟩) (by simp)).trans hb)
    have hc2 : ∀ i, i < n → w2.cell? ⟨g, i, none⟩ = some (.float .f64 (f i)) := fun i hi => (hbe.cell (by simp; omega)).trans ((World.cell?_alloc_past _ _ _ hg).trans (hc i hi))
    refine (total53 n w.heap.size (fun j => vop .mul (cn (f j)) (cn (f j))) w2 (by omega) (fun i m hi => clos53 _ g cap n i (f i) _ hi hb2 (hc2 i hi))).mono ?_
    rintro e w3 ⟨r, m, rfl, hr, rfl⟩
    clear hc hc2
    go_wp2
    go_ret2
    exact ⟨r, ret_fc (limC_ok (by omega)), hr.trans (gainV_ok (by omega)), below_drewN (((Below.refl _ _).alloc (Nat.le_refl _) _).trans (hbe.mono (by simp))) m⟩

/-! ### The laws -/
theorem rd_of_row {w : World} {g c n : Nat} {f : Nat → Nat} (h : w.rowIs g 26 c (fun j => .float .f64 (f j))) (hn : n ≤ c) : Rd w (some ⟨g, 0, none⟩) n f :=
  fun _ => ⟨g, 0, rfl, h.lt, fun j hj => by rw [Nat.zero_add]; exact h.cell (by omega)⟩
theorem rd_below {w w' : World} {B : Nat} {ao : Option Addr} {n : Nat} {f : Nat → Nat} (h : Rd w ao n f) (hb : Below B w w') (hB : w.heap.size ≤ B) : Rd w' ao n f := by
  intro hn
  obtain ⟨b, off, e, hlt, hc⟩ := h hn
  exact ⟨b, off, e, Nat.lt_of_lt_of_le hlt hb.size, fun j hj => (hb.cell (p := ⟨b, off + j, none⟩) (Nat.lt_of_lt_of_le hlt hB)).trans (hc j hj)⟩
theorem row_below {w w' : World} {B b t n : Nat} {F : Nat → Value} (h : w.rowIs b t n F) (hb : Below B w w') (hB : b < B) : w'.rowIs b t n F := h.of_block (hb.block _ hB)

/-- More than 2^20 numbers: nothing is asked. -/
theorem law_GainOf_long (ao : Option Addr) (n cap : Nat) (w : World) (h : 1048576 < n) : Calls Try.prog 4 #[.slice ao n cap] w fun e w' => e = .returned (.bool true) ∧ Below w.heap.size w w' := by
  go_enter Try.func4, Try.ntmps4
  go_wp2
  go_ret
  exact ⟨rfl, Below.refl _ _⟩
theorem law_GainOf (ao : Option Addr) (n cap : Nat) (f : Nat → Nat) (w : World) (h : n ≤ 1048576) (hr : Rd w ao n f) : Calls Try.prog 4 #[.slice ao n cap] w fun e w' => e = .returned (.bool true) ∧ Below w.heap.size w w' := by
  have HR := hid hr
  clear hr
  go_enter Try.func4, Try.ntmps4
  go_wp2_with fail
  refine (toF_any ao n cap f w h HR.out).mono ?_
  rintro e w1 ⟨rfl, row1, hb1⟩
  go_wp2_with fail
  refine (specGain_any _ n n f w1 (fun j hj => row1.cell hj)).mono ?_
  rintro e w2 ⟨r0, rfl, hr0, hb2⟩
  have HB2 := hid (hb1.trans (hb2.mono hb1.size))
  clear row1 hb1 hb2
  go_wp2_with fail
  refine (toF_any ao n cap f w2 h (rd_below HR.out HB2.out (Nat.le_refl _))).mono ?_
  rintro e w3 ⟨rfl, row3, hb3⟩
  have HB3 := hid (HB2.out.trans (hb3.mono HB2.out.size))
  go_wp2_with fail
  refine (implGain_any _ n n f w3 row3.lt (fun j hj => row3.cell hj)).mono ?_
  rintro e w4 ⟨r1, rfl, hr1, hb4⟩
  have HB4 := hid (HB3.out.trans (hb4.mono HB3.out.size))
  have ROW4 := hid (row_below row3 hb4 row3.lt)
  clear row3 hb3 hb4
  go_wp2_with fail
  refine (sameFloat_any r1 r0 w4 (hr1.trans hr0.symm)).mono ?_
  rintro e w5 ⟨rfl, m5, rfl⟩
  go_wp2_with fail
  refine (toF_any ao n cap f _ h (rd_below HR.out (below_drewN HB4.out m5) (Nat.le_refl _))).mono ?_
  rintro e w6 ⟨rfl, row6, hb6⟩
  have HB6 := hid ((below_drewN HB4.out m5).trans (hb6.mono HB4.out.size))
  go_wp2_with fail
  refine (eqF_any _ _ n n n f f w6 h (rd_of_row (row_below ROW4.out ((below_drewN (Below.refl _ w4) m5).trans hb6) ROW4.out.lt) (Nat.le_refl _)) (rd_of_row row6 (Nat.le_refl _)) (fun _ _ => rfl)).mono ?_
  rintro e w7 ⟨rfl, m7, rfl⟩
  clear row6 hb6
  go_wp2
  go_ret
  exact ⟨rfl, below_drewN HB6.out m7⟩
theorem law_PowerOf_long (ao : Option Addr) (n cap : Nat) (w : World) (h : 1048576 < n) : Calls Try.prog 5 #[.slice ao n cap] w fun e w' => e = .returned (.bool true) ∧ Below w.heap.size w w' := by
  go_enter Try.func5, Try.ntmps5
  go_wp2
  go_ret
  exact ⟨rfl, Below.refl _ _⟩
theorem law_PowerOf (ao : Option Addr) (n cap : Nat) (f : Nat → Nat) (w : World) (h : n ≤ 1048576) (hr : Rd w ao n f) : Calls Try.prog 5 #[.slice ao n cap] w fun e w' => e = .returned (.bool true) ∧ Below w.heap.size w w' := by
  have HR := hid hr
  clear hr
  go_enter Try.func5, Try.ntmps5
  go_wp2_with fail
  refine (toF_any ao n cap f w h HR.out).mono ?_
  rintro e w1 ⟨rfl, row1, hb1⟩
  go_wp2_with fail
  refine (specPower_any _ n n f w1 (fun j hj => row1.cell hj)).mono ?_
  rintro e w2 ⟨r0, rfl, hr0, hb2⟩
  have HB2 := hid (hb1.trans (hb2.mono hb1.size))
  clear row1 hb1 hb2
  go_wp2_with fail
  refine (toF_any ao n cap f w2 h (rd_below HR.out HB2.out (Nat.le_refl _))).mono ?_
  rintro e w3 ⟨rfl, row3, hb3⟩
  have HB3 := hid (HB2.out.trans (hb3.mono HB2.out.size))
  go_wp2_with fail
  refine (implPower_any _ n n f w3 row3.lt (fun j hj => row3.cell hj)).mono ?_
  rintro e w4 ⟨r1, rfl, hr1, hb4⟩
  have HB4 := hid (HB3.out.trans (hb4.mono HB3.out.size))
  have ROW4 := hid (row_below row3 hb4 row3.lt)
  clear row3 hb3 hb4
  go_wp2_with fail
  refine (sameFloat_any r1 r0 w4 (hr1.trans hr0.symm)).mono ?_
  rintro e w5 ⟨rfl, m5, rfl⟩
  go_wp2_with fail
  refine (toF_any ao n cap f _ h (rd_below HR.out (below_drewN HB4.out m5) (Nat.le_refl _))).mono ?_
  rintro e w6 ⟨rfl, row6, hb6⟩
  have HB6 := hid ((below_drewN HB4.out m5).trans (hb6.mono HB4.out.size))
  go_wp2_with fail
  refine (eqF_any _ _ n n n f f w6 h (rd_of_row (row_below ROW4.out ((below_drewN (Below.refl _ w4) m5).trans hb6) ROW4.out.lt) (Nat.le_refl _)) (rd_of_row row6 (Nat.le_refl _)) (fun _ _ => rfl)).mono ?_
  rintro e w7 ⟨rfl, m7, rfl⟩
  clear row6 hb6
  go_wp2
  go_ret
  exact ⟨rfl, below_drewN HB6.out m7⟩
end Go.Proofs.Ytjiogodidicaeaa
