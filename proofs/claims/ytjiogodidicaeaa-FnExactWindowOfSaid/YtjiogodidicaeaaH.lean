/-
  OverlapSums: the program's and the reference's sums of a window over all hops.
-/
import Derived.Test.YtjiogodidicaeaaO
import Derived.Test.YtjiogodidicaeaaF
namespace Go.Proofs.Ytjiogodidicaeaa
open Go.RowKit

/-- How many of a window's numbers stand at i, i + h, .. -/
def hops (n i h : Nat) : Nat := (n - i + h - 1) / h
theorem hops_pos {n i h : Nat} (hi : i < n) (hh : 1 ≤ h) : 1 ≤ hops n i h := by
  unfold hops
  exact (Nat.le_div_iff_mul_le (by omega)).2 (by omega)
theorem hops_lt {n i h k : Nat} (hi : i < n) (hh : 1 ≤ h) : k < hops n i h ↔ i + k * h < n := by
  unfold hops
  have e : (k + 1) * h = k * h + h := by rw [Nat.add_mul, Nat.one_mul]
  have key := Nat.le_div_iff_mul_le (k := h) (x := k + 1) (y := n - i + h - 1) (by omega)
  rw [e] at key
  generalize k * h = t at *
  omega

theorem hops_le {n i h : Nat} (hi : i < n) (hh : 1 ≤ h) : hops n i h ≤ n := by
  refine Nat.le_of_not_lt fun hc => ?_
  have := (hops_lt (k := n) hi hh).1 hc
  have : n * 1 ≤ n * h := Nat.mul_le_mul_left n hh
  omega
theorem hops_int {n i h : Nat} (hi : i < n) (hh : 1 ≤ h) : ((n : Int) - i + h - 1) / h = ((hops n i h : Nat) : Int) := by
  unfold hops
  rw [Int.natCast_ediv]
  congr 1
  omega
theorem clos64 (q q2 q3 g cap n i h k r : Nat) (w : World) (hn : n ≤ 256) (hk : i + k * h < n) (h1 : w.cell? ⟨q, 0, none⟩ = some (.slice (some ⟨g, 0, none⟩) n cap))
    (h2 : w.cell? ⟨q2, 0, none⟩ = some (.int .i64 i)) (h3 : w.cell? ⟨q3, 0, none⟩ = some (.int .i64 h)) (h4 : w.cell? ⟨g, i + k * h, none⟩ = some (.float .f64 r)) :
    Calls Try.prog 64 #[.int .i64 k, .pointer (some ⟨q, 0, none⟩), .pointer (some ⟨q2, 0, none⟩), .pointer (some ⟨q3, 0, none⟩)] w (ClosR w (cn r)) := by
  have e0 : (0 : Int) ≤ (k : Int) * (h : Int) := by rw [← Int.natCast_mul]; omega
  have e1 : (i : Int) + (k : Int) * (h : Int) < (n : Int) := by rw [← Int.natCast_mul]; omega
  have e2 : ((i : Int) + (k : Int) * (h : Int)).toNat = i + k * h := by rw [← Int.natCast_mul]; omega
  go_enter Try.func64, Try.ntmps64
  go_wp2
  go_ret
  exact ⟨_, 0, rfl, rfl, rfl⟩

theorem cell2_0 (W : World) (a b : Int) (t : TypeId) : (W.alloc (.cells #[.int .i64 a, .int .i64 b] t)).cell? ⟨W.heap.size, 0, none⟩ = some (.int .i64 a) := by rw [World.cell?_alloc_at _ _ _ _ rfl]; rfl
theorem cell2_1 (W : World) (a b : Int) (t : TypeId) : (W.alloc (.cells #[.int .i64 a, .int .i64 b] t)).cell? ⟨W.heap.size, 1, none⟩ = some (.int .i64 b) := by rw [World.cell?_alloc_at _ _ _ _ rfl]; rfl
/-- What OverlapSums returns: the code; the sums where there are some. -/
def osC (n h : Int) : Int := fst2 (limC n) (hopC h n)
set_option maxHeartbeats 4000000 in
theorem implSums_bad (g cap n : Nat) (h : Int) (w : World) (hbad : osC n h ≠ 0) :
    Calls Try.prog 35 #[.slice (some ⟨g, 0, none⟩) n cap, .int .i64 h] w fun e w' => e = .returned (.tuple #[.slice none 0 0, .int .i64 (osC n h)]) ∧ Below w.heap.size w w' := by
  have hbad' : ¬ fst2 (limC n) (hopC h n) = 0 := hbad
  have c0 : ((w.alloc (.cells #[.slice (some ⟨g, 0, none⟩) n cap] 25)).alloc (.cells #[.int .i64 h] 2)).cell? ⟨w.heap.size, 0, none⟩ = some (.slice (some ⟨g, 0, none⟩) n cap) := by simp [go_sem]
  have c1 : ((w.alloc (.cells #[.slice (some ⟨g, 0, none⟩) n cap] 25)).alloc (.cells #[.int .i64 h] 2)).cell? ⟨w.heap.size + 1, 0, none⟩ = some (.int .i64 h) := by simp [go_sem]
  have b0 := below_alloc2 w (.cells #[.slice (some ⟨g, 0, none⟩) n cap] 25) (.cells #[.int .i64 h] 2)
  go_enter Try.func35, Try.ntmps35
  go_wp2
  obtain ⟨w0, hw0⟩ : ∃ w0, w0 = ((w.alloc (.cells #[.slice (some ⟨g, 0, none⟩) n cap] 25)).alloc (.cells #[.int .i64 h] 2)) := ⟨_, rfl⟩
  rw [← hw0]
  rw [← hw0] at c0 c1 b0
  have hs0 : w.heap.size + 2 = w0.heap.size := by rw [hw0]; simp
  have HS0 := hid hs0
  clear hw0 hs0
  go_region_held3 (fun w' => w'.cell? ⟨w.heap.size, 0, none⟩ = some (.slice (some ⟨g, 0, none⟩) n cap) ∧ w'.cell? ⟨w.heap.size + 1, 0, none⟩ = some (.int .i64 h))
    (first | go_keep)
    (first
      | (go_at_call 50; refine (realLimit_any _ _ _ _).mono ?_; rintro e w2 ⟨rfl, hbe⟩; have c2 := (hbe.cell (p := ⟨w.heap.size, 0, none⟩) (by simp; have := HS0.out; omega)); have c3 := (hbe.cell (p := ⟨w.heap.size + 1, 0, none⟩) (by simp; have := HS0.out; omega)); simp only [World.cell?_drew, c0, c1] at c2 c3)
      | (go_at_call 63; refine (hop_any _ _ _).mono ?_; rintro e w' ⟨rfl, rfl⟩)
      | (go_at_call 62; refine (first2_any _ _ _ _ _ (cell2_0 _ _ _ _) (cell2_1 _ _ _ _)).mono ?_; rintro e w' ⟨rfl, rfl⟩))
  all_goals go_wp2
  all_goals go_ret2
  all_goals exact ⟨rfl, (b0.trans ((Below.refl _ _).drew.trans (hbe.mono (by simp; have := HS0.out; omega)))).alloc (by have := hbe.size; simp at this; have := HS0.out; omega) _⟩

/-- The sums over the hops, up to NaN. -/
def hopV (f : Nat → Nat) (n h : Nat) (j : Nat) : Option Nat := sumV (fun x => cn (f (j + x * h))) (hops n j h)
theorem osC_ok {n h : Nat} (hn : n ≤ 256) (h1 : 1 ≤ h) (h2 : h ≤ n) : fst2 (limC n) (hopC h n) = 0 := by
  rw [← limC_ok (by omega)]
  unfold fst2 hopC
  rw [if_pos rfl, inB_yes (by omega) (by omega)]
  rfl

/-- What holds in the program's loop. -/
def OsR (f : Nat → Nat) (n h B : Nat) (w0 : World) (v i : Value) (wr : World) : Prop :=
  ∃ k : Nat, k ≤ h ∧ i = .int .i64 k ∧ OwnF wr B v k (hopV f n h) ∧ Below B w0 wr

set_option maxHeartbeats 1000000 in
theorem implSums_ok (g cap n h : Nat) (f : Nat → Nat) (w : World) (hn : n ≤ 256) (h1 : 1 ≤ h) (h2 : h ≤ n) (hg : g < w.heap.size) (hc : ∀ j, j < n → w.cell? ⟨g, j, none⟩ = some (.float .f64 (f j))) :
    Calls Try.prog 35 #[.slice (some ⟨g, 0, none⟩) n cap, .int .i64 h] w fun e w' => ∃ v, e = .returned (.tuple #[v, .int .i64 0]) ∧ OwnF w' w.heap.size v h (hopV f n h) ∧ Below w.heap.size w w' := by
  have hz := osC_ok hn h1 h2
  have c0 : ((w.alloc (.cells #[.slice (some ⟨g, 0, none⟩) n cap] 25)).alloc (.cells #[.int .i64 h] 2)).cell? ⟨w.heap.size, 0, none⟩ = some (.slice (some ⟨g, 0, none⟩) n cap) := by simp [go_sem]
  have c1 : ((w.alloc (.cells #[.slice (some ⟨g, 0, none⟩) n cap] 25)).alloc (.cells #[.int .i64 h] 2)).cell? ⟨w.heap.size + 1, 0, none⟩ = some (.int .i64 h) := by simp [go_sem]
  have b0 := below_alloc2 w (.cells #[.slice (some ⟨g, 0, none⟩) n cap] 25) (.cells #[.int .i64 h] 2)
  go_enter Try.func35, Try.ntmps35
  go_wp2
  obtain ⟨w0, hw0⟩ : ∃ w0, w0 = ((w.alloc (.cells #[.slice (some ⟨g, 0, none⟩) n cap] 25)).alloc (.cells #[.int .i64 h] 2)) := ⟨_, rfl⟩
  rw [← hw0]
  rw [← hw0] at c0 c1 b0
  have hs0 : w.heap.size + 2 = w0.heap.size := by rw [hw0]; simp
  have HS0 := hid hs0
  clear hw0 hs0
  go_region_held3 (fun w' => w'.cell? ⟨w.heap.size, 0, none⟩ = some (.slice (some ⟨g, 0, none⟩) n cap) ∧ w'.cell? ⟨w.heap.size + 1, 0, none⟩ = some (.int .i64 h))
    (first | go_keep)
    (first
      | (go_at_call 50; refine (realLimit_any _ _ _ _).mono ?_; rintro e w2 ⟨rfl, hbe⟩; have c2 := (hbe.cell (p := ⟨w.heap.size, 0, none⟩) (by simp; have := HS0.out; omega)); have c3 := (hbe.cell (p := ⟨w.heap.size + 1, 0, none⟩) (by simp; have := HS0.out; omega)); simp only [World.cell?_drew, c0, c1] at c2 c3)
      | (go_at_call 63; refine (hop_any _ _ _).mono ?_; rintro e w' ⟨rfl, rfl⟩)
      | (go_at_call 62; refine (first2_any _ _ _ _ _ (cell2_0 _ _ _ _) (cell2_1 _ _ _ _)).mono ?_; rintro e w' ⟨rfl, rfl⟩))
  have HB0 := hid b0
  have HC := hid hc
  have hlt2 : w.heap.size + 1 < w2.heap.size := by have := hbe.size; simp at this; have := HS0.out; omega
  have HBE := hid hbe
  clear hc b0 hbe
  have cA : ∀ o o' : Obj, ((w2.alloc o).alloc o').cell? ⟨w.heap.size, 0, none⟩ = some (.slice (some ⟨g, 0, none⟩) n cap) := fun o o' => by
    rw [World.cell?_alloc_past _ _ _ (by simp; omega), World.cell?_alloc_past _ _ _ (by omega)]; exact c2
  have cB : ∀ o o' : Obj, ((w2.alloc o).alloc o').cell? ⟨w.heap.size + 1, 0, none⟩ = some (.int .i64 h) := fun o o' => by
    rw [World.cell?_alloc_past _ _ _ (by simp; omega), World.cell?_alloc_past _ _ _ (by omega)]; exact c3
  go_wp2
  go_loopw [7, 23] (fun v i wr => OsR f n h (w.heap.size + 2) w0 v i wr) (fun _ i _ => h - (intOf i).toNat)
  case atStart =>
    have hB : w.heap.size + 2 ≤ (w2.alloc (.cells #[.int .i64 (limC n), .int .i64 (hopC h n)] 2)).heap.size := by simp; omega
    have hmade := OwnF.made (w2.alloc (.cells #[.int .i64 (limC n), .int .i64 (hopC h n)] 2)) (w.heap.size + 2) (hopV f n h) hB
    refine ⟨0, Nat.zero_le _, rfl, by simpa using hmade, ?_⟩
    have b1 : Below (w.heap.size + 2) w0 w2 := (Below.refl _ _).drew.trans (HBE.out.mono (by simp; have := HS0.out; omega))
    exact (b1.alloc (by omega) _).alloc hB _
  case round =>
    obtain ⟨k, hk, rfl, hown, hbe⟩ := hrel
    clear c2 c3 cA cB hlt2
    have hsz : w.heap.size + 2 ≤ wr.heap.size := by have := hbe.size; have := HS0.out; omega
    have d0 : wr.cell? ⟨w.heap.size, 0, none⟩ = some (.slice (some ⟨g, 0, none⟩) n cap) := (hbe.cell (p := ⟨w.heap.size, 0, none⟩) (by simp)).trans c0
    have d1 : wr.cell? ⟨w.heap.size + 1, 0, none⟩ = some (.int .i64 h) := (hbe.cell (p := ⟨w.heap.size + 1, 0, none⟩) (by simp)).trans c1
    have HOWN := hid hown
    have HBR := hid hbe
    clear hown hbe
    by_cases hlt : k < h
    · have d2 : ∀ o : Obj, (wr.alloc o).cell? ⟨w.heap.size, 0, none⟩ = some (.slice (some ⟨g, 0, none⟩) n cap) := fun o => (World.cell?_alloc_past _ _ _ (by omega)).trans d0
      have d3 : ∀ o : Obj, (wr.alloc o).cell? ⟨w.heap.size + 1, 0, none⟩ = some (.int .i64 h) := fun o => (World.cell?_alloc_past _ _ _ (by omega)).trans d1
      have hN := hid (hops_int (n := n) (i := k) (h := h) (by omega) h1)
      have hcl : ∀ (x m : Nat), x < hops n k h → Calls Try.prog 64 #[.int .i64 x, .pointer (some ⟨w.heap.size, 0, none⟩), .pointer (some ⟨wr.heap.size, 0, none⟩), .pointer (some ⟨w.heap.size + 1, 0, none⟩)] ((wr.alloc (.cells #[.int .i64 k] 3)).drewN m)
          (ClosR ((wr.alloc (.cells #[.int .i64 k] 3)).drewN m) (cn (f (k + x * h)))) := by
        intro x m hx
        have hx' := (hops_lt (n := n) (i := k) (h := h) (k := x) (by omega) h1).1 hx
        have e4 : wr.cell? ⟨g, k + x * h, none⟩ = some (.float .f64 (f (k + x * h))) := (HBR.out.cell (p := ⟨g, k + x * h, none⟩) (by simp; omega)).trans ((HB0.out.cell (p := ⟨g, k + x * h, none⟩) hg).trans (HC.out _ hx'))
        exact clos64 _ _ _ g cap n k h x _ _ hn hx' (d2 _) (by rw [World.cell?_drewN, World.cell?_alloc_at _ _ _ _ rfl]; rfl) (d3 _) ((World.cell?_alloc_past _ _ _ (by have := HBR.out.size; have := HB0.out.size; omega)).trans e4)
      have HCL := hid hcl
      clear hcl
      go_wp2_with fail
      rw [hN.out]
      refine (total64 (hops n k h) w.heap.size wr.heap.size (w.heap.size + 1) (fun x => cn (f (k + x * h))) _ (Nat.le_trans (hops_le (by omega) h1) hn) HCL.out).mono ?_
      rintro e w5 ⟨r, m, rfl, hr, rfl⟩
      go_wp2_with (at_builtin; refine wpList_app _ rfl _ _ rfl (w.heap.size + 2) _ k (hopV f n h) rfl ?c0 r _ rfl ?c1 ?c2 ?c3 ?_)
      case c0 => exact ((HOWN.out.alloc _).drewN m).alloc _
      case c1 => go_simp
      case c2 => omega
      case c3 => simp; omega
      intro v' w6 hown6 hb6
      have hb := ((((HBR.out.alloc hsz (.cells #[.int .i64 k] 3)).trans (below_drewN (Below.refl _ _) m)).alloc (by simp; omega) (.cells #[.float .f64 r] 26)).trans hb6)
      go_wp2
      exact ⟨⟨k + 1, by omega, by go_num, hown6.congr (fun j hj => by
        by_cases e : j = k
        · subst e; rw [if_pos rfl]; first | exact hr | rfl
        · rw [if_neg e]), hb⟩, by simp [intOf]; omega⟩
    · obtain rfl : k = h := by omega
      go_wp2
      go_ret2
      exact ⟨_, rfl, HOWN.out.mono (by omega), HB0.out.trans (HBR.out.mono (by omega))⟩

/-! ### The reference's -/
theorem hopCode_any (ao : Option Addr) (cap n : Nat) (h : Int) (w : World) : Calls Try.prog 60 #[.slice ao n cap, .int .i64 h] w fun e w' => e = .returned (.int .i64 (osC n h)) ∧ w = w' := by
  by_cases hn : 256 < n
  · have hl := (limC_over hn).symm
    go_enter Try.func60, Try.ntmps60
    go_wp2
    go_ret
    exact ⟨ret_int (by unfold osC; rw [hl]; rfl), rfl⟩
  · have hl := (limC_ok hn).symm
    cases b1 : inB h 1 n with
    | true =>
      go_enter Try.func60, Try.ntmps60
      go_wp2_with (go_at_call 47; refine (l00In_any _ _ _ _).mono ?_; rintro e w' ⟨rfl, rfl⟩)
      go_ret
      exact ⟨ret_int (by unfold osC hopC; rw [hl, b1]; rfl), rfl⟩
    | false =>
      go_enter Try.func60, Try.ntmps60
      go_wp2_with (go_at_call 47; refine (l00In_any _ _ _ _).mono ?_; rintro e w' ⟨rfl, rfl⟩)
      go_ret
      exact ⟨ret_int (by unfold osC hopC; rw [hl, b1]; rfl), rfl⟩

/-- What holds in the reference's inner loop. -/
def HopL (f : Nat → Nat) (n h i : Nat) (w : World) (v k : Value) (wr : World) : Prop :=
  ∃ x K r m : Nat, 1 ≤ x ∧ x ≤ hops n i h ∧ Hid (K = i + x * h) ∧ K ≤ n + h ∧ k = .int .i64 K ∧ v = .float .f64 r ∧ cn r = sumV (fun x => cn (f (i + x * h))) x ∧ Hid (wr = w.drewN m)

set_option maxHeartbeats 1000000 in
theorem specSums_any (g cap n h : Nat) (f : Nat → Nat) (w : World) (hn : n ≤ 256) (h1 : 1 ≤ h) (h2 : h ≤ n) (hg : g < w.heap.size) (hc : ∀ j, j < n → w.cell? ⟨g, j, none⟩ = some (.float .f64 (f j))) :
    Calls Try.prog 61 #[.slice (some ⟨g, 0, none⟩) n cap, .int .i64 h] w fun e w' => ∃ v, e = .returned v ∧ OwnF w' w.heap.size v h (hopV f n h) ∧ Below w.heap.size w w' := by
  have HC := hid hc
  clear hc
  go_enter Try.func61, Try.ntmps61
  go_wp2
  go_loopw [5, 6] (fun v i wr => OsR f n h w.heap.size w v i wr) (fun _ i _ => h - (intOf i).toNat)
  case atStart => exact ⟨0, Nat.zero_le _, rfl, OwnF.made w w.heap.size _ (Nat.le_refl _), (Below.refl _ _).alloc (Nat.le_refl _) _⟩
  case round =>
    obtain ⟨k, hk, rfl, hown, hbe⟩ := hrel
    have hsz : w.heap.size ≤ wr.heap.size := hbe.size
    have HOWN := hid hown
    have HBR := hid hbe
    clear hown hbe
    by_cases hlt : k < h
    · have e4 : wr.cell? ⟨g, k, none⟩ = some (.float .f64 (f k)) := (HBR.out.cell (p := ⟨g, k, none⟩) hg).trans (HC.out _ (by omega))
      obtain ⟨wo, rfl⟩ : ∃ wo : World, wo = wr := ⟨_, rfl⟩
      go_wp2
      go_loopw [7, 8] (fun v k' wr => HopL f n h k wo v k' wr) (fun _ k' _ => n - (intOf k').toNat)
      case atStart => exact ⟨1, k + h, f k, 0, Nat.le_refl _, hops_pos (by omega) h1, hid (by omega), by omega, by go_num, rfl, by simp [sumV], rfl⟩
      case round =>
        obtain ⟨x, K, r, m, hx1, hx2, hK, hKn, rfl, rfl, hr, hm⟩ := hrel
        clear e4
        by_cases hlt2 : K < n
        · have e5 : wr.cell? ⟨g, K, none⟩ = some (.float .f64 (f K)) := by rw [hm.out]; exact (HBR.out.cell (p := ⟨g, K, none⟩) hg).trans (HC.out _ hlt2)
          have hlx := (hops_lt (n := n) (i := k) (h := h) (k := x) (by omega) h1).2 (by rw [← hK.out]; exact hlt2)
          go_wp2
          exact ⟨⟨x + 1, K + h, _, _, by omega, hlx, hid (by rw [hK.out, Nat.succ_mul]; omega), by omega, by go_num, rfl, by rw [fres_cn, hr, sumV_succ _ hx1, hK.out], by rw [hm.out]; exact hid (World.drewN_drewN _ _ _)⟩, by simp [intOf]; omega⟩
        · have hxe : x = hops n k h := by
            refine Nat.le_antisymm hx2 (Nat.le_of_not_lt fun hc => hlt2 ?_)
            rw [hK.out]
            exact (hops_lt (by omega) h1).1 hc
          have HXE := hid hxe
          clear hxe
          have hown2 := hid (show OwnF wr w.heap.size u5 k (hopV f n h) by rw [hm.out]; exact HOWN.out.drewN m)
          have hbr2 := hid (show Below w.heap.size w wr by rw [hm.out]; exact below_drewN HBR.out m)
          have hsz2 : w.heap.size ≤ wr.heap.size := hbr2.out.size
          go_wp2_with (at_builtin; refine wpList_app _ rfl _ _ rfl w.heap.size _ k (hopV f n h) rfl ?c0 r _ rfl ?c1 ?c2 ?c3 ?_)
          case c0 => exact hown2.out.alloc _
          case c1 => go_simp
          case c2 => omega
          case c3 => simp; omega
          intro v' w6 hown6 hb6
          have hb := ((hbr2.out.alloc hsz2 (.cells #[.float .f64 r] 26)).trans hb6)
          go_wp2
          exact ⟨⟨k + 1, by omega, by go_num, hown6.congr (fun j hj => by
            by_cases e : j = k
            · subst e; rw [if_pos rfl]; (try rw [hr]); rw [HXE.out]; rfl
            · rw [if_neg e]), hb⟩, by simp [intOf]; omega⟩
    · obtain rfl : k = h := by omega
      go_wp2
      go_ret
      exact ⟨_, rfl, HOWN.out, HBR.out⟩

theorem ret_sc {v : Value} {c d : Int} (h : c = d) : Ending.returned (.tuple #[v, .int .i64 c]) = .returned (.tuple #[v, .int .i64 d]) := by rw [h]
/-- A slice of floats of the call's own and a code. -/
def ResS (w : World) (n : Nat) (V : Nat → Option Nat) (c : Int) (e : Ending) (w' : World) : Prop := ∃ v, e = .returned (.tuple #[v, .int .i64 c]) ∧ OwnF w' w.heap.size v n V ∧ Below w.heap.size w w'
theorem osC_nat {n : Nat} {h : Int} (hz : osC n h = 0) : ∃ k : Nat, h = k ∧ n ≤ 256 ∧ 1 ≤ k ∧ k ≤ n := by
  unfold osC fst2 at hz
  split at hz
  · rename_i hl
    have hn : ¬ 256 < n := by
      intro hc
      rw [← limC_over hc] at hl
      cases hl
    unfold hopC unl at hz
    cases hb : inB h 1 n with
    | false => rw [hb] at hz; simp at hz
    | true =>
      obtain ⟨h1, h2⟩ := inB_true hb
      exact ⟨h.toNat, by omega, by omega, by omega, by omega⟩
  · rename_i hl
    exact absurd hz hl
/-- How many sums there are. -/
def osN (n : Nat) (h : Int) : Nat := if osC n h = 0 then h.toNat else 0

theorem osN_le (n : Nat) (h : Int) : osN n h ≤ 1048576 := by
  unfold osN
  split
  · rename_i hz
    obtain ⟨k, rfl, hn, h1, h2⟩ := osC_nat hz
    simp; omega
  · omega
theorem implSums_any (g cap n : Nat) (h : Int) (f : Nat → Nat) (w : World) (hg : g < w.heap.size) (hc : ∀ j, j < n → w.cell? ⟨g, j, none⟩ = some (.float .f64 (f j))) :
    Calls Try.prog 35 #[.slice (some ⟨g, 0, none⟩) n cap, .int .i64 h] w (ResS w (osN n h) (hopV f n h.toNat) (osC n h)) := by
  by_cases hz : osC n h = 0
  · obtain ⟨k, rfl, hn, h1, h2⟩ := osC_nat hz
    refine (implSums_ok g cap n k f w hn h1 h2 hg hc).mono fun e w' ⟨v, he, ho, hb⟩ => ⟨v, by rw [he, hz], ?_, hb⟩
    unfold osN
    rw [if_pos hz]
    simpa using ho
  · refine (implSums_bad g cap n h w hz).mono fun e w' ⟨he, hb⟩ => ⟨_, he, ?_, hb⟩
    unfold osN
    rw [if_neg hz]
    exact OwnF.nil _ _ _

theorem specOver_any (g cap n : Nat) (h : Int) (f : Nat → Nat) (w : World) (hg : g < w.heap.size) (hc : ∀ j, j < n → w.cell? ⟨g, j, none⟩ = some (.float .f64 (f j))) :
    Calls Try.prog 34 #[.slice (some ⟨g, 0, none⟩) n cap, .int .i64 h] w (ResS w (osN n h) (hopV f n h.toNat) (osC n h)) := by
  by_cases hz : osC n h = 0
  · obtain ⟨k, rfl, hn, h1, h2⟩ := osC_nat hz
    have HS := hid (specSums_any g cap n k f w hn h1 h2 hg hc)
    clear hc
    go_enter Try.func34, Try.ntmps34
    go_wp2_with (first | (go_at_call 60; refine (hopCode_any _ _ _ _ _).mono ?_; rintro e w' ⟨rfl, rfl⟩) | (go_at_call 61; refine HS.out.mono ?_; rintro e w2 ⟨v, rfl, ho, hb⟩))
    go_ret2
    refine ⟨_, ret_sc hz.symm, ?_, hb⟩
    unfold osN
    rw [if_pos hz]
    simpa using ho
  · clear hc
    go_enter Try.func34, Try.ntmps34
    go_wp2_with (go_at_call 60; refine (hopCode_any _ _ _ _ _).mono ?_; rintro e w' ⟨rfl, rfl⟩)
    go_ret2
    refine ⟨_, rfl, ?_, (Below.refl _ _).alloc (Nat.le_refl _) _⟩
    unfold osN
    rw [if_neg hz]
    exact OwnF.made w _ _ (Nat.le_refl _)
end Go.Proofs.Ytjiogodidicaeaa
