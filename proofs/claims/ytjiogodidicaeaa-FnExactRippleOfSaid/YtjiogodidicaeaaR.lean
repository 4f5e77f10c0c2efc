/-
  RippleOf: the greatest sum less the least.
-/
import Derived.Test.YtjiogodidicaeaaH
namespace Go.Proofs.Ytjiogodidicaeaa
open Go.RowKit

/-- The greatest and the least of the first words, as the loops find them. -/
def mxV (V : Nat → Option Nat) : Nat → Option Nat
  | 0 => V 0
  | k + 1 => if ordV (V k) (mxV V k) = some .gt then V k else mxV V k
def mnV (V : Nat → Option Nat) : Nat → Option Nat
  | 0 => V 0
  | k + 1 => if ordV (V k) (mnV V k) = some .lt then V k else mnV V k
theorem mxV_one (V : Nat → Option Nat) : mxV V 1 = V 0 := by
  have e : mxV V 1 = if ordV (V 0) (V 0) = some .gt then V 0 else V 0 := rfl
  rw [e]; split <;> rfl
theorem mnV_one (V : Nat → Option Nat) : mnV V 1 = V 0 := by
  have e : mnV V 1 = if ordV (V 0) (V 0) = some .lt then V 0 else V 0 := rfl
  rw [e]; split <;> rfl
theorem mxV_yes {V : Nat → Option Nat} {k a b : Nat} (ha : cn a = V k) (hb : cn b = mxV V k) (h : (FloatKind.f64.format.order a b == some .gt) = true) : cn a = mxV V (k + 1) := by
  have h := eq_of_beq h
  rw [ord_cn, ha, hb] at h
  simp only [mxV]
  rw [if_pos h, ha]
theorem mxV_no {V : Nat → Option Nat} {k a b : Nat} (ha : cn a = V k) (hb : cn b = mxV V k) (h : (FloatKind.f64.format.order a b == some .gt) = false) : cn b = mxV V (k + 1) := by
  have h := ne_of_beq_false h
  rw [ord_cn, ha, hb] at h
  simp only [mxV]
  rw [if_neg h, hb]
theorem mnV_yes {V : Nat → Option Nat} {k a b : Nat} (ha : cn a = V k) (hb : cn b = mnV V k) (h : (FloatKind.f64.format.order a b == some .lt) = true) : cn a = mnV V (k + 1) := by
  have h := eq_of_beq h
  rw [ord_cn, ha, hb] at h
  simp only [mnV]
  rw [if_pos h, ha]
theorem mnV_no {V : Nat → Option Nat} {k a b : Nat} (ha : cn a = V k) (hb : cn b = mnV V k) (h : (FloatKind.f64.format.order a b == some .lt) = false) : cn b = mnV V (k + 1) := by
  have h := ne_of_beq_false h
  rw [ord_cn, ha, hb] at h
  simp only [mnV]
  rw [if_neg h, hb]
/-- The ripple. -/
def ripV (f : Nat → Nat) (n : Nat) (h : Int) : Option Nat := if osC n h = 0 then vop .sub (mxV (hopV f n h.toNat) h.toNat) (mnV (hopV f n h.toNat) h.toNat) else some 0

/-- What holds in both loops. -/
def RipR (V : Nat → Option Nat) (h from_ : Nat) (w : World) (mx mn i : Value) (wr : World) : Prop :=
  ∃ k a b m : Nat, from_ ≤ k ∧ k ≤ h ∧ i = .int .i64 k ∧ mx = .float .f64 a ∧ mn = .float .f64 b ∧ cn a = mxV V k ∧ cn b = mnV V k ∧ Hid (wr = w.drewN m)

set_option maxHeartbeats 1000000 in
theorem specRip_any (g cap n : Nat) (h : Int) (f : Nat → Nat) (w : World) (hg : g < w.heap.size) (hc : ∀ j, j < n → w.cell? ⟨g, j, none⟩ = some (.float .f64 (f j))) :
    Calls Try.prog 37 #[.slice (some ⟨g, 0, none⟩) n cap, .int .i64 h] w (ResFC w (ripV f n h) (osC n h)) := by
  by_cases hz : osC n h = 0
  · obtain ⟨k, rfl, hn, h1, h2⟩ := osC_nat hz
    have HS := hid (specSums_any g cap n k f w hn h1 h2 hg hc)
    have HR := hid (show vop .sub (mxV (hopV f n k) k) (mnV (hopV f n k) k) = ripV f n k from by unfold ripV; rw [if_pos hz]; simp)
    clear hc
    go_enter Try.func37, Try.ntmps37
    go_wp2_with (go_at_call 60; refine (hopCode_any _ _ _ _ _).mono ?_; rintro e w' ⟨rfl, rfl⟩)
    refine HS.out.mono ?_
    rintro e w2 ⟨v, rfl, ho, hb⟩
    obtain ⟨q, qc, F, rfl, hq, hcell, hF⟩ := ho.cells h1
    have h0 := hcell 0 h1
    have HB := hid hb
    have HC := hid hcell
    have HF := hid hF
    clear hb hcell ho hF
    go_wp2
    go_loopw [8, 9, 10] (fun mx mn i wr => RipR (hopV f n k) k 1 w2 mx mn i wr) (fun _ _ i _ => k - (intOf i).toNat)
    case atStart => exact ⟨1, _, _, 0, Nat.le_refl _, h1, rfl, rfl, rfl, by rw [mxV_one]; exact HF.out 0 h1, by rw [mnV_one]; exact HF.out 0 h1, rfl⟩
    case round =>
      obtain ⟨j, a, b, m, hj1, hj, rfl, rfl, rfl, ha, hb, hm⟩ := hrel
      clear h0
      by_cases hlt : j < k
      · have h0 : wr.cell? ⟨q, j, none⟩ = some (.float .f64 (F j)) := by rw [hm.out]; exact HC.out j hlt
        have HA := hid ha
        have HBB := hid hb
        clear ha hb
        cases c1 : (FloatKind.f64.format.order (F j) a == some Ordering.gt)
        all_goals cases c2 : (FloatKind.f64.format.order (F j) b == some Ordering.lt)
        · go_wp2
          exact ⟨⟨j + 1, a, b, m, by omega, by omega, by go_num, rfl, rfl, mxV_no (HF.out j hlt) HA.out c1, mnV_no (HF.out j hlt) HBB.out c2, hm⟩, by simp [intOf]; omega⟩
        · go_wp2
          exact ⟨⟨j + 1, a, F j, m, by omega, by omega, by go_num, rfl, rfl, mxV_no (HF.out j hlt) HA.out c1, mnV_yes (HF.out j hlt) HBB.out c2, hm⟩, by simp [intOf]; omega⟩
        · go_wp2
          exact ⟨⟨j + 1, F j, b, m, by omega, by omega, by go_num, rfl, rfl, mxV_yes (HF.out j hlt) HA.out c1, mnV_no (HF.out j hlt) HBB.out c2, hm⟩, by simp [intOf]; omega⟩
        · go_wp2
          exact ⟨⟨j + 1, F j, F j, m, by omega, by omega, by go_num, rfl, rfl, mxV_yes (HF.out j hlt) HA.out c1, mnV_yes (HF.out j hlt) HBB.out c2, hm⟩, by simp [intOf]; omega⟩
      · obtain rfl : j = k := by omega
        go_wp2
        go_ret2
        exact ⟨_, ret_fc hz.symm, by rw [fres_cn, ha, hb]; exact HR.out, by rw [hm.out]; simp only [World.drewN_drewN]; exact below_drewN HB.out _⟩
  · clear hc
    go_enter Try.func37, Try.ntmps37
    go_wp2_with (go_at_call 60; refine (hopCode_any _ _ _ _ _).mono ?_; rintro e w' ⟨rfl, rfl⟩)
    go_ret2
    exact ⟨0, rfl, by rw [cn0]; unfold ripV; rw [if_neg hz], Below.refl _ _⟩

set_option maxHeartbeats 1000000 in
theorem implRip_any (g cap n : Nat) (h : Int) (f : Nat → Nat) (w : World) (hg : g < w.heap.size) (hc : ∀ j, j < n → w.cell? ⟨g, j, none⟩ = some (.float .f64 (f j))) :
    Calls Try.prog 38 #[.slice (some ⟨g, 0, none⟩) n cap, .int .i64 h] w (ResFC w (ripV f n h) (osC n h)) := by
  have HS := hid (implSums_any g cap n h f w hg hc)
  clear hc
  by_cases hz : osC n h = 0
  · obtain ⟨k, rfl, hn, h1, h2⟩ := osC_nat hz
    have hN : osN n k = k := by unfold osN; rw [if_pos hz]; simp
    have HR := hid (show vop .sub (mxV (hopV f n k) k) (mnV (hopV f n k) k) = ripV f n k from by unfold ripV; rw [if_pos hz]; simp)
    rw [hN] at HS
    clear hN
    go_enter Try.func38, Try.ntmps38
    go_wp2_with fail
    refine HS.out.mono ?_
    rintro e w2 ⟨v, rfl, ho, hb⟩
    obtain ⟨q, qc, F, rfl, hq, hcell, hF⟩ := ho.cells h1
    have h0 := hcell 0 h1
    have HB := hid hb
    have HC := hid hcell
    have HF := hid hF
    clear hb hcell ho hF
    go_wp2
    go_quiet (fail)
    go_wp2
    go_loopw [9, 8, 29] (fun mx mn i wr => RipR (hopV f n k) k 0 w2 mx mn i wr) (fun _ _ i _ => k - (intOf i).toNat)
    case atStart => exact ⟨0, _, _, _, Nat.le_refl _, by omega, rfl, rfl, rfl, HF.out 0 h1, HF.out 0 h1, hid rfl⟩
    case round =>
      obtain ⟨j, a, b, m, hj1, hj, rfl, rfl, rfl, ha, hb, hm⟩ := hrel
      clear h0
      by_cases hlt : j < k
      · have h0 : wr.cell? ⟨q, j, none⟩ = some (.float .f64 (F j)) := by rw [hm.out]; exact HC.out j hlt
        have HA := hid ha
        have HBB := hid hb
        clear ha hb
        cases c1 : (FloatKind.f64.format.order (F j) a == some Ordering.gt)
        all_goals cases c2 : (FloatKind.f64.format.order (F j) b == some Ordering.lt)
        · go_wp2
          exact ⟨⟨j + 1, a, b, m, by omega, by omega, by go_num, rfl, rfl, mxV_no (HF.out j hlt) HA.out c1, mnV_no (HF.out j hlt) HBB.out c2, hm⟩, by simp [intOf]; omega⟩
        · go_wp2
          exact ⟨⟨j + 1, a, F j, m, by omega, by omega, by go_num, rfl, rfl, mxV_no (HF.out j hlt) HA.out c1, mnV_yes (HF.out j hlt) HBB.out c2, hm⟩, by simp [intOf]; omega⟩
        · go_wp2
          exact ⟨⟨j + 1, F j, b, m, by omega, by omega, by go_num, rfl, rfl, mxV_yes (HF.out j hlt) HA.out c1, mnV_no (HF.out j hlt) HBB.out c2, hm⟩, by simp [intOf]; omega⟩
        · go_wp2
          exact ⟨⟨j + 1, F j, F j, m, by omega, by omega, by go_num, rfl, rfl, mxV_yes (HF.out j hlt) HA.out c1, mnV_yes (HF.out j hlt) HBB.out c2, hm⟩, by simp [intOf]; omega⟩
      · obtain rfl : j = k := by omega
        go_wp2
        go_ret2
        exact ⟨_, ret_fc hz.symm, by rw [fres_cn, ha, hb]; exact HR.out, by rw [hm.out]; simp only [World.drewN_drewN]; exact below_drewN HB.out _⟩
  · have hN : osN n h = 0 := by unfold osN; rw [if_neg hz]
    rw [hN] at HS
    clear hN
    go_enter Try.func38, Try.ntmps38
    go_wp2_with fail
    refine HS.out.mono ?_
    rintro e w2 ⟨v, rfl, ho, hb⟩
    clear ho
    go_wp2
    go_ret2
    exact ⟨0, rfl, by rw [cn0]; unfold ripV; rw [if_neg hz], hb⟩
end Go.Proofs.Ytjiogodidicaeaa
