/-
  WindowWeights: the program's walk.
-/
import Derived.Test.YtjiogodidicaeaaVs
namespace Go.Proofs.Ytjiogodidicaeaa
open Go.RowKit
attribute [local go_sem] run_store_f

theorem Try.info4b : (Try.prog.info? 4).map (fun i => (i.zero, i.size, i.bytes)) = some (some (.bool false), 1, 1) := by kernel_rfl
theorem Try.und85 : Try.prog.underlying 85 = some (.slice 4) := by kernel_rfl

/-- What holds of the two rows. -/
def TwoRows (B q T : Nat) (L : Nat) (V : Nat → Option Nat) (wr : World) : Prop :=
  ∃ F : Nat → Nat, wr.rowIs q 26 T (fun j => .float .f64 (F j)) ∧ wr.rowIs (q + 1) 4 T (fun j => .bool (decide (j < L))) ∧ (∀ j, j < L → cn (F j) = V j) ∧ B ≤ q
/-- What holds in the outer loop. -/
def IwO (f : Nat → Nat) (n h c B q : Nat) (w0 : World) (i : Value) (wr : World) : Prop :=
  ∃ k : Nat, k ≤ c ∧ i = .int .i64 k ∧ TwoRows B q (wT c n h) (outW f n h k).1 (outW f n h k).2 wr ∧ Below B w0 wr
/-- What holds in the inner loop. -/
def IwI (f : Nat → Nat) (n h c i B q : Nat) (w0 : World) (j : Value) (wr : World) : Prop :=
  ∃ k : Nat, k ≤ n ∧ j = .int .i64 k ∧ TwoRows B q (wT c n h) (inW f (i * h) k (outW f n h i)).1 (inW f (i * h) k (outW f n h i)).2 wr ∧ Below B w0 wr

theorem rows_drewN {B q T L : Nat} {V : Nat → Option Nat} {wr : World} (h : TwoRows B q T L V wr) (m : Nat) : TwoRows B q T L V (wr.drewN m) := h
/-- The stores of one round. -/
theorem rows_set {B q T L P x : Nat} {V : Nat → Option Nat} {wr : World} (h : TwoRows B q T L V wr) (L' : Nat) (V' : Nat → Option Nat)
    (h1 : ∀ j, j < L' ↔ j = P ∨ j < L) (h2 : cn x = V' P) (h3 : ∀ j, j < L → j ≠ P → V j = V' j) :
    TwoRows B q T L' V' ((wr.setCell ⟨q, P, none⟩ (.float .f64 x)).setCell ⟨q + 1, P, none⟩ (.bool true)) := by
  obtain ⟨F, ha, hb, hF, hB⟩ := h
  refine ⟨fun j => if j = P then x else F j, ?_, ?_, ?_, hB⟩
  · refine ((ha.set P (.float .f64 x)).setOther (a := ⟨q + 1, P, none⟩) (by simp) (.bool true)).congr (fun j hj => ?_)
    by_cases e : j = P <;> simp [e]
  · refine ((hb.setOther (a := ⟨q, P, none⟩) (by simp) (.float .f64 x)).set P (.bool true)).congr (fun j hj => ?_)
    by_cases e : j = P
    · have : j < L' := (h1 j).2 (.inl e)
      rw [if_pos e, decide_eq_true this]
    · rw [if_neg e]
      congr 1
      rw [decide_eq_decide, h1 j]
      constructor
      · exact .inr
      · rintro (e' | e')
        · exact absurd e' e
        · exact e'
  · intro j hj
    dsimp only
    by_cases e : j = P
    · rw [if_pos e, h2, e]
    · rw [if_neg e]
      rcases (h1 j).1 hj with e' | e'
      · exact absurd e' e
      · rw [hF j e', h3 j e' e]
theorem add_first {S : Nat × (Nat → Option Nat)} {L P : Nat} {q : Option Nat} (hL : S.1 = L) (h : P = L) : addAt S P q = (L + 1, fun j => if j = P then q else S.2 j) := by
  unfold addAt; rw [if_pos (by rw [hL]; exact h), hL]
theorem add_more {S : Nat × (Nat → Option Nat)} {L P : Nat} {q : Option Nat} (hL : S.1 = L) (h : ¬ P = L) : addAt S P q = (L, fun j => if j = P then vop .add (S.2 P) q else S.2 j) := by
  unfold addAt; rw [if_neg (by rw [hL]; exact h), hL]

set_option maxHeartbeats 2000000 in
theorem implW_any (g cap n c h : Nat) (f : Nat → Nat) (w : World) (hn : n ≤ 256) (hc : c ≤ 64) (h2 : h ≤ n) (ht : wT c n h ≤ 256) (hg : g < w.heap.size) (hcl : ∀ j, j < n → w.cell? ⟨g, j, none⟩ = some (.float .f64 (f j))) :
    Calls Try.prog 70 #[.slice (some ⟨g, 0, none⟩) n cap, .int .i64 c, .int .i64 h] w fun e w' => ∃ v, e = .returned v ∧ OwnF w' w.heap.size v (wT c n h) (outW f n h c).2 ∧ Below w.heap.size w w' := by
  have HC := hid hcl
  obtain ⟨T, hT⟩ : ∃ T, Hid (T = wT c n h) := ⟨_, hid rfl⟩
  rw [← hT.out] at ht
  clear hcl
  have hl : Calls Try.prog 69 #[.int .i64 c, .int .i64 n, .int .i64 h] w fun e w' => e = .returned (.int .i64 T) ∧ w = w' := by rw [hT.out]; exact longer_any c n h w hc hn h2
  have HL := hid hl
  clear hl
  go_enter Try.func70, Try.ntmps70
  have mk1 := run_make_row' (P := Try.prog) 25 26 (.float .f64 0) 8 Try.underlying25 Try.info26 rfl .i64 .i64 T (by omega) (by omega)
  have mk2 := run_make_row' (P := Try.prog) 85 4 (.bool false) 1 Try.und85 Try.info4b rfl .i64 .i64 T (by omega) (by omega)
  go_wp2_with (go_at_call 69; refine HL.out.mono ?_; rintro e w' ⟨rfl, rfl⟩)
  clear mk1 mk2 HL
  go_loopw [24] (fun i wr => IwO f n h c w.heap.size w.heap.size w i wr) (fun i _ => c - (intOf i).toNat)
  case atStart =>
    refine ⟨0, Nat.zero_le _, rfl, ⟨fun _ => 0, ?_, ?_, fun j hj => absurd hj (by simp [outW]), Nat.le_refl _⟩, ?_⟩
    · rw [← hT.out]
      exact (World.rowIs_made w (.float .f64 0) T 26).alloc _
    · rw [← hT.out]
      refine (show World.rowIs _ (w.heap.size + 1) 4 T (fun _ => .bool false) from ?_).congr (fun j _ => by simp [outW])
      have := World.rowIs_made (w.alloc (.cells (madeCells #[.float .f64 0] T) 26)) (.bool false) T 4
      simpa using this
    · exact below_alloc2 _ _ _
  case round =>
    obtain ⟨i, hi, rfl, hrows, hbe⟩ := hrel
    have HRW := hid hrows
    have HBR := hid hbe
    clear hrows hbe
    by_cases hlt : i < c
    · go_wp2
      go_loopw [29] (fun j wr => IwI f n h c i w.heap.size w.heap.size w j wr) (fun j _ => n - (intOf j).toNat)
      case atStart => exact ⟨0, Nat.zero_le _, rfl, HRW.out, HBR.out⟩
      case round =>
        clear HRW HBR
        obtain ⟨j, hj, rfl, hrows, hbe⟩ := hrel
        by_cases hlt2 : j < n
        · have e4 : wr.cell? ⟨g, j, none⟩ = some (.float .f64 (f j)) := (hbe.cell (p := ⟨g, j, none⟩) hg).trans (HC.out _ hlt2)
          obtain ⟨M, hM⟩ : ∃ M, Hid (M = i * h) := ⟨_, hid rfl⟩
          have hM2 : M ≤ 16384 := by rw [hM.out]; exact Nat.le_trans (Nat.mul_le_mul (show i ≤ 64 by omega) (show h ≤ 256 by omega)) (by omega)
          have e1 : (i : Int) * (h : Int) = (M : Int) := by rw [hM.out]; exact (Int.natCast_mul _ _).symm
          obtain ⟨L, hL⟩ : ∃ L, Hid (L = (inW f (i * h) j (outW f n h i)).1) := ⟨_, hid rfl⟩
          have hML : M + j ≤ L := by rw [hM.out, hL.out]; exact inW_le f n h h2 i j
          have hPT : M + j < T := by rw [hM.out, hT.out]; exact at_lt n h hlt hlt2
          obtain ⟨S, hS⟩ : ∃ S, Hid (S = inW f (i * h) j (outW f n h i)) := ⟨_, hid rfl⟩
          have hL1 : S.1 = L := by rw [hS.out, hL.out]
          have HO2 : Hid (TwoRows w.heap.size w.heap.size T L S.2 wr) := hid (by rw [← hL1, hS.out, hT.out]; exact hrows)
          have hNext : ∀ x, Hid (cn x = vop .mul (cn (f j)) (cn (f j))) → Hid (inW f (i * h) (j + 1) (outW f n h i) = addAt S (M + j) (cn x)) := fun x hx => hid (by rw [inW, ← hS.out, ← hM.out, hx.out])
          have HBR := hid hbe
          clear hrows hbe
          obtain ⟨P, hP⟩ : ∃ P, Hid (P = M + j) := ⟨_, hid rfl⟩
          have h64 : (M : Int) + (j : Int) = (P : Int) := by rw [hP.out]; exact (Int.natCast_add _ _).symm
          have hPL : P ≤ L := by rw [hP.out]; exact hML
          have hPT2 : P < T := by rw [hP.out]; exact hPT
          have hPi : (P : Int) < (T : Int) := by omega
          clear hML hPT
          have hx : Hid (cn (fres .mul (f j) (f j) wr) = vop .mul (cn (f j)) (cn (f j))) := hid (fres_cn _ _ _ _)
          have hN := hNext _ hx
          clear hNext
          rw [← hP.out] at hN
          obtain ⟨F, ra, rb, hF, _⟩ := HO2.out
          have b1 := ra.cell hPT2
          have b2 := ra.frozen P
          have b4 := rb.frozen P
          have b5 := ra.lt
          have b6 := rb.lt
          have hSz := hid (HBR.out.size)
          by_cases heq : P = L
          · subst heq
            have b3 : wr.cell? ⟨w.heap.size + 1, P, none⟩ = some (.bool false) := by rw [rb.cell hPT2, decide_eq_false (by omega)]
            clear ra rb
            go_wp2_with (go_at_call 54; refine (mul_any _ _ _).mono ?_; rintro e w' ⟨rfl, rfl⟩)
            have hset := rows_set (rows_drewN HO2.out (fdr .mul (f j) (f j))) (P := P) (x := fres .mul (f j) (f j) wr) (P + 1) (fun t => if t = P then cn (fres .mul (f j) (f j) wr) else S.2 t)
              (fun t => by omega) (if_pos rfl).symm (fun t _ e => (if_neg e).symm)
            have hb := ((below_drewN HBR.out (fdr .mul (f j) (f j))).setCell (p := ⟨w.heap.size, P, none⟩) (Nat.le_refl _) (.float .f64 (fres .mul (f j) (f j) wr))).setCell (p := ⟨w.heap.size + 1, P, none⟩) (Nat.le_succ _) (.bool true)
            refine ⟨⟨j + 1, by omega, by go_num, ?_, hb⟩, by simp [intOf]; omega⟩
            rw [hN.out, add_first hL1 rfl, ← hT.out]
            exact hset
          · have b3 : wr.cell? ⟨w.heap.size + 1, P, none⟩ = some (.bool true) := by rw [rb.cell hPT2, decide_eq_true (by omega)]
            clear ra rb
            go_wp2_with (go_at_call 54; refine (mul_any _ _ _).mono ?_; rintro e w' ⟨rfl, rfl⟩)
            obtain ⟨x, hx2⟩ : ∃ x, Hid (x = fres .add (F P) (fres .mul (f j) (f j) wr) (wr.drewN (fdr .mul (f j) (f j)))) := ⟨_, hid rfl⟩
            have hcx : cn x = vop .add (S.2 P) (cn (fres .mul (f j) (f j) wr)) := by rw [hx2.out, fres_cn, hF P (by omega)]
            rw [← hx2.out]
            have hset := rows_set (rows_drewN HO2.out (fdr .mul (f j) (f j) + fdr .add (F P) (fres .mul (f j) (f j) wr))) (P := P) (x := x) L (fun t => if t = P then vop .add (S.2 P) (cn (fres .mul (f j) (f j) wr)) else S.2 t)
              (fun t => by omega) (hcx.trans (if_pos rfl).symm) (fun t _ e => (if_neg e).symm)
            have hb := ((below_drewN HBR.out (fdr .mul (f j) (f j) + fdr .add (F P) (fres .mul (f j) (f j) wr))).setCell (p := ⟨w.heap.size, P, none⟩) (Nat.le_refl _) (.float .f64 x)).setCell (p := ⟨w.heap.size + 1, P, none⟩) (Nat.le_succ _) (.bool true)
            refine ⟨⟨j + 1, by omega, by go_num, ?_, hb⟩, by simp [intOf]; omega⟩
            rw [hN.out, add_more hL1 heq, ← hT.out]
            exact hset
        · obtain rfl : j = n := by omega
          go_wp2
          exact ⟨⟨i + 1, by omega, by go_num, hrows, hbe⟩, by simp [intOf]; omega⟩
    · obtain rfl : i = c := by omega
      go_wp2
      go_ret
      refine ⟨_, rfl, ?_, HBR.out⟩
      obtain ⟨F, ra, _, hF, hB⟩ := HRW.out
      rw [outW_len f n h h2, ← hT.out] at hF
      rw [← hT.out] at ra ⊢
      exact (OwnF.ofRow hB (Nat.le_refl _) (by unfold maxLen; omega) ra (fun _ _ => rfl)).congr hF

/-! ### The whole -/
theorem cell3_0 (W : World) (a b c : Int) (t : TypeId) : (W.alloc (.cells #[.int .i64 a, .int .i64 b, .int .i64 c] t)).cell? ⟨W.heap.size, 0, none⟩ = some (.int .i64 a) := by rw [World.cell?_alloc_at _ _ _ _ rfl]; rfl
theorem cell3_1 (W : World) (a b c : Int) (t : TypeId) : (W.alloc (.cells #[.int .i64 a, .int .i64 b, .int .i64 c] t)).cell? ⟨W.heap.size, 1, none⟩ = some (.int .i64 b) := by rw [World.cell?_alloc_at _ _ _ _ rfl]; rfl
theorem cell3_2 (W : World) (a b c : Int) (t : TypeId) : (W.alloc (.cells #[.int .i64 a, .int .i64 b, .int .i64 c] t)).cell? ⟨W.heap.size, 2, none⟩ = some (.int .i64 c) := by rw [World.cell?_alloc_at _ _ _ _ rfl]; rfl
theorem cell1_0 (W : World) (a : Int) (t : TypeId) : (W.alloc (.cells #[.int .i64 a] t)).cell? ⟨W.heap.size, 0, none⟩ = some (.int .i64 a) := by rw [World.cell?_alloc_at _ _ _ _ rfl]; rfl
/-- The first three tests' code. -/
def wwF (n : Nat) (c h : Int) : Int := fst3 (limC n) (hopC h n) (unl (inB c 0 64) 2)
theorem wwF_eq (n : Nat) (c h : Int) : wwF n c h = fst2 (osC n h) (unl (inB c 0 64) 2) := by
  unfold wwF fst3 osC fst2
  split <;> rename_i e
  · rfl
  · rfl
theorem wwC_eq (n : Nat) (c h : Int) : wwC n c h = fst2 (wwF n c h) (limC (wT c.toNat n h.toNat)) := by rw [wwF_eq]; rfl
theorem wwF_ok {n : Nat} {c h : Int} (hz : wwF n c h = 0) : osC n h = 0 ∧ inB c 0 64 = true := by
  rw [wwF_eq] at hz
  unfold fst2 at hz
  split at hz
  · rename_i e
    refine ⟨e, ?_⟩
    cases hb : inB c 0 64 with
    | true => rfl
    | false => rw [hb] at hz; simp [unl] at hz
  · rename_i e; exact absurd hz e

set_option maxHeartbeats 1000000 in
theorem implWW_any (g cap n : Nat) (c h : Int) (f : Nat → Nat) (w : World) (hg : g < w.heap.size) (hc : ∀ j, j < n → w.cell? ⟨g, j, none⟩ = some (.float .f64 (f j))) :
    Calls Try.prog 42 #[.slice (some ⟨g, 0, none⟩) n cap, .int .i64 c, .int .i64 h] w (ResS w (wwN n c h) (wwV f n c h) (wwC n c h)) := by
  have HC := hid hc
  clear hc
  by_cases hz : wwF n c h = 0
  · obtain ⟨hz1, hb⟩ := wwF_ok hz
    obtain ⟨k, rfl, hn, h1, h2⟩ := osC_nat hz1
    obtain ⟨c0, c1⟩ := inB_true hb
    obtain ⟨m, rfl⟩ : ∃ m : Nat, c = m := ⟨c.toNat, by omega⟩
    by_cases ht : 256 < wT m n k
    · have hcode := hid (wwC_long hz1 hb ht)
      have hlim := hid (show limC (wT m n k) = 3 from if_pos (by omega))
      clear hz1 hb HC
      go_enter Try.func42, Try.ntmps42
      go_wp2_with fail
      refine (realLimit_any _ _ _ _).mono ?_
      rintro e w2 ⟨rfl, hb1⟩
      go_wp2_with fail
      refine (hop_any _ _ _).mono ?_
      rintro e w' ⟨rfl, rfl⟩
      go_wp2_with fail
      refine (in_any _ _ _ _).mono ?_
      rintro e w' ⟨rfl, rfl⟩
      go_wp2_with fail
      refine (unless_any _ _ _).mono ?_
      rintro e w' ⟨rfl, rfl⟩
      go_wp2_with fail
      refine (first3_any _ _ _ _ _ _ (cell3_0 _ _ _ _ _) (cell3_1 _ _ _ _ _) (cell3_2 _ _ _ _ _)).mono ?_
      rintro e w' ⟨rfl, rfl⟩
      rw [show fst3 (limC n) (hopC k n) (unl (inB m 0 64) 2) = wwF n m k from rfl]
      have hb2 := hb1.alloc hb1.size (.cells #[.int .i64 (limC n), .int .i64 (hopC k n), .int .i64 (unl (inB m 0 64) 2)] 2)
      generalize (w2.alloc (.cells #[.int .i64 (limC n), .int .i64 (hopC k n), .int .i64 (unl (inB m 0 64) 2)] 2)) = w3 at hb2 ⊢
      have HB3 := hid hb2
      clear hb1 hb2
      go_wp2_with fail
      refine (longer_any _ _ _ _ (by omega) hn h2).mono ?_
      rintro e w' ⟨rfl, rfl⟩
      go_wp2_with fail
      refine (limit_any _ _ _ _ (cell1_0 _ _ _)).mono ?_
      rintro e w' ⟨rfl, rfl⟩
      rw [hlim.out]
      go_wp2
      go_ret2
      refine ⟨_, ret_sc hcode.out.symm, ?_, HB3.out.alloc HB3.out.size _⟩
      rw [wwN_bad hcode.out (by decide)]
      exact OwnF.nil _ _ _
    · have hcode := hid (wwC_ok hz1 hb (by omega))
      have hlim := hid (show limC (wT m n k) = 0 from if_neg (by omega))
      clear hz1 hb
      go_enter Try.func42, Try.ntmps42
      go_wp2_with fail
      refine (realLimit_any _ _ _ _).mono ?_
      rintro e w2 ⟨rfl, hb1⟩
      go_wp2_with fail
      refine (hop_any _ _ _).mono ?_
      rintro e w' ⟨rfl, rfl⟩
      go_wp2_with fail
      refine (in_any _ _ _ _).mono ?_
      rintro e w' ⟨rfl, rfl⟩
      go_wp2_with fail
      refine (unless_any _ _ _).mono ?_
      rintro e w' ⟨rfl, rfl⟩
      go_wp2_with fail
      refine (first3_any _ _ _ _ _ _ (cell3_0 _ _ _ _ _) (cell3_1 _ _ _ _ _) (cell3_2 _ _ _ _ _)).mono ?_
      rintro e w' ⟨rfl, rfl⟩
      rw [show fst3 (limC n) (hopC k n) (unl (inB m 0 64) 2) = wwF n m k from rfl]
      have hb2 := hb1.alloc hb1.size (.cells #[.int .i64 (limC n), .int .i64 (hopC k n), .int .i64 (unl (inB m 0 64) 2)] 2)
      generalize (w2.alloc (.cells #[.int .i64 (limC n), .int .i64 (hopC k n), .int .i64 (unl (inB m 0 64) 2)] 2)) = w3 at hb2 ⊢
      have HB3 := hid hb2
      clear hb1 hb2
      go_wp2_with fail
      refine (longer_any _ _ _ _ (by omega) hn h2).mono ?_
      rintro e w' ⟨rfl, rfl⟩
      go_wp2_with fail
      refine (limit_any _ _ _ _ (cell1_0 _ _ _)).mono ?_
      rintro e w' ⟨rfl, rfl⟩
      rw [hlim.out]
      have hb4 := HB3.out.alloc HB3.out.size (.cells #[.int .i64 (wT m n k)] 3)
      generalize (w3.alloc (.cells #[.int .i64 (wT m n k)] 3)) = w4 at hb4 ⊢
      have HB4 := hid hb4
      clear hb4 HB3
      go_wp2_with fail
      refine (implW_any g cap n m k f w4 hn (by omega) h2 (by omega) (by have := HB4.out.size; omega) (fun j hj => (HB4.out.cell (p := ⟨g, j, none⟩) hg).trans (HC.out j hj))).mono ?_
      rintro e w5 ⟨v, rfl, ho, hb5⟩
      go_wp2
      go_ret2
      refine ⟨_, ret_sc hcode.out.symm, ?_, HB4.out.trans (hb5.mono HB4.out.size)⟩
      rw [wwN_ok hcode.out]
      exact ho.mono HB4.out.size
  · have hcode := hid (show wwC n c h = wwF n c h by rw [wwC_eq]; exact if_neg hz)
    clear HC
    go_enter Try.func42, Try.ntmps42
    go_wp2_with fail
    refine (realLimit_any _ _ _ _).mono ?_
    rintro e w2 ⟨rfl, hb1⟩
    go_wp2_with fail
    refine (hop_any _ _ _).mono ?_
    rintro e w' ⟨rfl, rfl⟩
    go_wp2_with fail
    refine (in_any _ _ _ _).mono ?_
    rintro e w' ⟨rfl, rfl⟩
    go_wp2_with fail
    refine (unless_any _ _ _).mono ?_
    rintro e w' ⟨rfl, rfl⟩
    go_wp2_with fail
    refine (first3_any _ _ _ _ _ _ (cell3_0 _ _ _ _ _) (cell3_1 _ _ _ _ _) (cell3_2 _ _ _ _ _)).mono ?_
    rintro e w' ⟨rfl, rfl⟩
    rw [show fst3 (limC n) (hopC h n) (unl (inB c 0 64) 2) = wwF n c h from rfl]
    have hb2 := hb1.alloc hb1.size (.cells #[.int .i64 (limC n), .int .i64 (hopC h n), .int .i64 (unl (inB c 0 64) 2)] 2)
    generalize (w2.alloc (.cells #[.int .i64 (limC n), .int .i64 (hopC h n), .int .i64 (unl (inB c 0 64) 2)] 2)) = w3 at hb2 ⊢
    have HB3 := hid hb2
    clear hb1 hb2
    go_wp2
    go_ret2
    refine ⟨_, ret_sc hcode.out.symm, ?_, HB3.out⟩
    rw [wwN_bad hcode.out hz]
    exact OwnF.nil _ _ _
end Go.Proofs.Ytjiogodidicaeaa
