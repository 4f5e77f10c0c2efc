/-
  WindowWeights: the reference's walk.
-/
import Derived.Test.YtjiogodidicaeaaV
import Derived.Deep.RegionLaw
namespace Go.Proofs.Ytjiogodidicaeaa
open Go.RowKit
attribute [local go_sem] run_store_f

/-- A word stored into what is owned. -/
theorem OwnF.set {w : World} {B g cap n p x : Nat} {F : Nat → Nat} {G : Nat → Value} {V : Nat → Option Nat} (hB : B ≤ g) (hn : n ≤ cap) (hm : cap ≤ maxLen) (h : w.rowIs g 26 cap G) (hG : ∀ j, j < n → G j = .float .f64 (F j)) (hF : ∀ j, j < n → cn (F j) = V j) :
    OwnF (w.setCell ⟨g, p, none⟩ (.float .f64 x)) B (.slice (some ⟨g, 0, none⟩) n cap) n (fun j => if j = p then cn x else V j) := by
  refine (OwnF.ofRow (F := fun j => if j = p then x else F j) hB hn hm (h.set p (.float .f64 x)) (fun j hj => ?_)).congr (fun j hj => ?_)
  · by_cases e : j = p
    · simp [e]
    · simp [e, hG j hj]
  · by_cases e : j = p
    · simp [e]
    · simp [e, hF j hj]

/-- What holds in the outer loop. -/
def SwO (f : Nat → Nat) (n h c B : Nat) (w0 : World) (v i : Value) (wr : World) : Prop :=
  ∃ k : Nat, k ≤ c ∧ i = .int .i64 k ∧ OwnF wr B v (outW f n h k).1 (outW f n h k).2 ∧ Below B w0 wr
/-- What holds in the inner loop. -/
def SwI (f : Nat → Nat) (n h i B : Nat) (w0 : World) (v j : Value) (wr : World) : Prop :=
  ∃ k : Nat, k ≤ n ∧ j = .int .i64 k ∧ OwnF wr B v (inW f (i * h) k (outW f n h i)).1 (inW f (i * h) k (outW f n h i)).2 ∧ Below B w0 wr

set_option maxHeartbeats 2000000 in
theorem specW_any (g cap n c h : Nat) (f : Nat → Nat) (w : World) (hn : n ≤ 256) (hc : c ≤ 64) (h2 : h ≤ n) (ht : wT c n h ≤ 256) (hg : g < w.heap.size) (hcl : ∀ j, j < n → w.cell? ⟨g, j, none⟩ = some (.float .f64 (f j))) :
    Calls Try.prog 66 #[.slice (some ⟨g, 0, none⟩) n cap, .int .i64 c, .int .i64 h] w fun e w' => ∃ v, e = .returned v ∧ OwnF w' w.heap.size v (wT c n h) (outW f n h c).2 ∧ Below w.heap.size w w' := by
  have HC := hid hcl
  have HT := hid ht
  clear hcl ht
  go_enter Try.func66, Try.ntmps66
  go_wp2
  go_loopw [7, 8] (fun v i wr => SwO f n h c w.heap.size w v i wr) (fun _ i _ => c - (intOf i).toNat)
  case atStart => exact ⟨0, Nat.zero_le _, rfl, OwnF.made w w.heap.size _ (Nat.le_refl _), (Below.refl _ _).alloc (Nat.le_refl _) _⟩
  case round =>
    obtain ⟨i, hi, rfl, hown, hbe⟩ := hrel
    have HOWN := hid hown
    have HBR := hid hbe
    clear hown hbe
    by_cases hlt : i < c
    · go_wp2
      go_loopw [7, 9] (fun v j wr => SwI f n h i w.heap.size w v j wr) (fun _ j _ => n - (intOf j).toNat)
      case atStart => exact ⟨0, Nat.zero_le _, rfl, HOWN.out, HBR.out⟩
      case round =>
        clear HOWN HBR
        obtain ⟨j, hj, rfl, hown, hbe⟩ := hrel
        have HOWN := hid hown
        have HBR := hid hbe
        clear hown hbe
        by_cases hlt2 : j < n
        · have e4 : wr.cell? ⟨g, j, none⟩ = some (.float .f64 (f j)) := (HBR.out.cell (p := ⟨g, j, none⟩) hg).trans (HC.out _ hlt2)
          obtain ⟨M, hM⟩ : ∃ M, Hid (M = i * h) := ⟨_, hid rfl⟩
          have hM2 : M ≤ 16384 := by rw [hM.out]; exact Nat.le_trans (Nat.mul_le_mul (show i ≤ 64 by omega) (show h ≤ 256 by omega)) (by omega)
          have e1 : (i : Int) * (h : Int) = (M : Int) := by rw [hM.out]; exact (Int.natCast_mul _ _).symm
          obtain ⟨L, hL⟩ : ∃ L, Hid (L = (inW f (i * h) j (outW f n h i)).1) := ⟨_, hid rfl⟩
          have hML : M + j ≤ L := by rw [hM.out, hL.out]; exact inW_le f n h h2 i j
          have hLT : L ≤ 256 := by rw [hL.out]; exact Nat.le_trans (inW_lt f n h h2 hlt hlt2) HT.out
          have hq : ∀ V : Option Nat → Nat × (Nat → Option Nat), addAt (inW f (i * h) j (outW f n h i)) (i * h + j) (vop .mul (cn (f j)) (cn (f j))) = inW f (i * h) (j + 1) (outW f n h i) := fun _ => rfl
          clear hq
          obtain ⟨S, hS⟩ : ∃ S, Hid (S = inW f (i * h) j (outW f n h i)) := ⟨_, hid rfl⟩
          have hL1 : S.1 = L := by rw [hS.out, hL.out]
          have HO2 : Hid (OwnF wr w.heap.size u7 L S.2) := hid (by rw [← hL1, hS.out]; exact HOWN.out)
          have hNext : ∀ x, Hid (cn x = vop .mul (cn (f j)) (cn (f j))) → Hid (inW f (i * h) (j + 1) (outW f n h i) = addAt S (M + j) (cn x)) := fun x hx => hid (by rw [inW, ← hS.out, ← hM.out, hx.out])
          clear HOWN
          obtain ⟨ao, cp, F, rfl, hr, hF⟩ := HO2.out.rd
          clear hr hF
          go_wp2
          go_region
          have hx : Hid (cn (fres .mul (f j) (f j) wr.drew) = vop .mul (cn (f j)) (cn (f j))) := hid (fres_cn _ _ _ _)
          generalize fres .mul (f j) (f j) wr.drew = x at hx ⊢
          generalize (1 + fdr .mul (f j) (f j)) = m
          have hN := hNext x hx
          clear hNext
          obtain ⟨P, hP⟩ : ∃ P, Hid (P = M + j) := ⟨_, hid rfl⟩
          have h64 : (M : Int) + (j : Int) = (P : Int) := by rw [hP.out]; exact (Int.natCast_add _ _).symm
          have hPL : P ≤ L := by rw [hP.out]; exact hML
          clear hML
          by_cases heq : P = L
          · go_wp2_with (at_builtin; refine wpList_app _ rfl _ _ rfl w.heap.size _ L S.2 rfl ?c0 x _ rfl ?c1 ?c2 ?c3 ?_)
            case c0 => exact (HO2.out.drewN _).alloc _
            case c1 => first | (exact (World.cell?_alloc_at _ _ _ _ rfl).trans rfl) | go_simp
            case c2 => omega
            case c3 => simp; have := HBR.out.size; omega
            intro v' w6 hown6 hb6
            have hb := ((below_drewN HBR.out m).alloc (by simp; exact HBR.out.size) (.cells #[.float .f64 x] 26)).trans hb6
            go_wp2
            refine ⟨⟨j + 1, by omega, by go_num, ?_, hb⟩, by simp [intOf]; omega⟩
            rw [hN.out]
            unfold addAt
            rw [if_pos (by rw [hL1, ← hP.out]; exact heq), hL1, ← hP.out, heq]
            exact hown6
          · rcases HO2.out.row with ⟨_, h0⟩ | ⟨q, cq, F2, G, hv, hB, hcq, hm, hrow, hG, hF2⟩
            · omega
            cases hv
            have e6 : wr.cell? ⟨q, P, none⟩ = some (.float .f64 (F2 P)) := by rw [hrow.cell (by omega), hG _ (by omega)]
            have e7 := hrow.frozen P
            have e8 := hrow.lt
            have HR := hid hrow
            have HG := hid hG
            have HF2 := hid hF2
            clear hrow hG hF2
            go_wp2
            have hset := OwnF.set (w := wr.drewN (m + fdr .add (F2 P) x)) (p := P) (x := fres .add (F2 P) x (wr.drewN m)) hB hcq hm HR.out HG.out HF2.out
            have hb := (below_drewN HBR.out (m + fdr .add (F2 P) x)).setCell (p := ⟨q, P, none⟩) hB (.float .f64 (fres .add (F2 P) x (wr.drewN m)))
            refine ⟨⟨j + 1, by omega, by go_num, ?_, hb⟩, by simp [intOf]; omega⟩
            rw [hN.out]
            unfold addAt
            rw [if_neg (by rw [hL1, ← hP.out]; exact heq), hL1, ← hP.out]
            refine hset.congr (fun t ht => ?_)
            dsimp only
            by_cases e : t = P
            · rw [if_pos e, if_pos e, fres_cn, HF2.out P (by omega)]
            · rw [if_neg e, if_neg e]
        · obtain rfl : j = n := by omega
          go_wp2
          exact ⟨⟨i + 1, by omega, by go_num, HOWN.out, HBR.out⟩, by simp [intOf]; omega⟩
    · obtain rfl : i = c := by omega
      go_wp2
      go_ret
      refine ⟨_, rfl, ?_, HBR.out⟩
      rw [← outW_len f n h h2]
      exact HOWN.out

/-! ### The code -/
/-- The code of the arguments. -/
def wwC (n : Nat) (c h : Int) : Int := fst2 (fst2 (osC n h) (unl (inB c 0 64) 2)) (limC (wT c.toNat n h.toNat))
/-- How many numbers. -/
def wwN (n : Nat) (c h : Int) : Nat := if wwC n c h = 0 then wT c.toNat n h.toNat else 0
/-- The numbers. -/
def wwV (f : Nat → Nat) (n : Nat) (c h : Int) (j : Nat) : Option Nat := (outW f n h.toNat c.toNat).2 j

theorem wwC_hop {n : Nat} {c h : Int} (hz : osC n h ≠ 0) : wwC n c h = osC n h := by simp [wwC, fst2, hz]
theorem wwC_count {n : Nat} {c h : Int} (hz : osC n h = 0) (hb : inB c 0 64 = false) : wwC n c h = 2 := by simp [wwC, fst2, hz, hb, unl]
theorem wwC_long {n c h : Nat} (hz : osC n h = 0) (hb : inB (c : Int) 0 64 = true) (ht : 256 < wT c n h) : wwC n c h = 3 := by
  simp [wwC, fst2, hz, hb, unl, limC]; omega
theorem wwC_ok {n c h : Nat} (hz : osC n h = 0) (hb : inB (c : Int) 0 64 = true) (ht : wT c n h ≤ 256) : wwC n c h = 0 := by
  simp [wwC, fst2, hz, hb, unl, limC]; omega
theorem wwN_bad {n : Nat} {c h : Int} {k : Int} (hz : wwC n c h = k) (hk : k ≠ 0) : wwN n c h = 0 := by unfold wwN; rw [if_neg (by rw [hz]; exact hk)]
theorem wwN_ok {n c h : Nat} (hz : wwC n c h = 0) : wwN n c h = wT c n h := by unfold wwN; rw [if_pos hz]; rfl
theorem wwN_le (n : Nat) (c h : Int) : wwN n c h ≤ 1048576 := by
  unfold wwN
  split
  · rename_i hz
    unfold wwC fst2 limC at hz
    split at hz
    · split at hz <;> omega
    · rename_i e; exact absurd hz e
  · omega

theorem specWW_any (g cap n : Nat) (c h : Int) (f : Nat → Nat) (w : World) (hg : g < w.heap.size) (hc : ∀ j, j < n → w.cell? ⟨g, j, none⟩ = some (.float .f64 (f j))) :
    Calls Try.prog 41 #[.slice (some ⟨g, 0, none⟩) n cap, .int .i64 c, .int .i64 h] w (ResS w (wwN n c h) (wwV f n c h) (wwC n c h)) := by
  by_cases hz : osC n h = 0
  · cases hb : inB c 0 64 with
    | false =>
      have hcode := hid (wwC_count (h := h) hz hb)
      clear hc
      go_enter Try.func41, Try.ntmps41
      go_wp2_with (first | (go_at_call 60; refine (hopCode_any _ _ _ _ _).mono ?_; rintro e w' ⟨rfl, rfl⟩) | (go_at_call 47; refine (l00In_any _ _ _ _).mono ?_; rintro e w' ⟨rfl, rfl⟩))
      go_ret2
      refine ⟨_, ret_sc hcode.out.symm, ?_, (Below.refl _ _).alloc (Nat.le_refl _) _⟩
      rw [wwN_bad hcode.out (by decide)]
      exact OwnF.made w _ _ (Nat.le_refl _)
    | true =>
      obtain ⟨k, rfl, hn, h1, h2⟩ := osC_nat hz
      obtain ⟨c0, c1⟩ := inB_true hb
      obtain ⟨m, rfl⟩ : ∃ m : Nat, c = m := ⟨c.toNat, by omega⟩
      by_cases ht : 256 < wT m n k
      · have hcode := hid (wwC_long hz hb ht)
        clear hc
        go_enter Try.func41, Try.ntmps41
        go_wp2_with (first | (go_at_call 60; refine (hopCode_any _ _ _ _ _).mono ?_; rintro e w' ⟨rfl, rfl⟩) | (go_at_call 47; refine (l00In_any _ _ _ _).mono ?_; rintro e w' ⟨rfl, rfl⟩) | (go_at_call 65; refine (total_any _ _ _ _ (by omega) hn h2).mono ?_; rintro e w' ⟨rfl, rfl⟩))
        go_ret2
        refine ⟨_, ret_sc hcode.out.symm, ?_, (Below.refl _ _).alloc (Nat.le_refl _) _⟩
        rw [wwN_bad hcode.out (by decide)]
        exact OwnF.made w _ _ (Nat.le_refl _)
      · have hcode := hid (wwC_ok hz hb (by omega))
        have HS := hid (specW_any g cap n m k f w hn (by omega) h2 (by omega) hg hc)
        clear hc
        go_enter Try.func41, Try.ntmps41
        go_wp2_with (first | (go_at_call 60; refine (hopCode_any _ _ _ _ _).mono ?_; rintro e w' ⟨rfl, rfl⟩) | (go_at_call 47; refine (l00In_any _ _ _ _).mono ?_; rintro e w' ⟨rfl, rfl⟩) | (go_at_call 65; refine (total_any _ _ _ _ (by omega) hn h2).mono ?_; rintro e w' ⟨rfl, rfl⟩) | (go_at_call 66; refine HS.out.mono ?_; rintro e w2 ⟨v, rfl, ho, hb2⟩))
        go_ret2
        refine ⟨_, ret_sc hcode.out.symm, ?_, hb2⟩
        rw [wwN_ok hcode.out]
        exact ho
  · have hcode := hid (wwC_hop (c := c) hz)
    clear hc
    go_enter Try.func41, Try.ntmps41
    go_wp2_with (first | (go_at_call 60; refine (hopCode_any _ _ _ _ _).mono ?_; rintro e w' ⟨rfl, rfl⟩))
    go_ret2
    refine ⟨_, ret_sc hcode.out.symm, ?_, (Below.refl _ _).alloc (Nat.le_refl _) _⟩
    rw [wwN_bad hcode.out hz]
    exact OwnF.made w _ _ (Nat.le_refl _)
end Go.Proofs.Ytjiogodidicaeaa
