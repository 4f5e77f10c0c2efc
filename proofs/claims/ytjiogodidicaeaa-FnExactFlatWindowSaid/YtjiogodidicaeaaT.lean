/-
  FlatWindow: a window divided by its sums.
-/
import Derived.Test.YtjiogodidicaeaaH
import Derived.Test.YtjiogodidicaeaaL
namespace Go.Proofs.Ytjiogodidicaeaa
open Go.RowKit

/-- The flat window's numbers. -/
def flatV (f : Nat → Nat) (n h : Nat) (j : Nat) : Option Nat := vop .quo (cn (f j)) (hopV f n h (j % h))
/-- What holds in both loops. -/
def FlatR (f : Nat → Nat) (n h B : Nat) (w0 : World) (v i : Value) (wr : World) : Prop :=
  ∃ k : Nat, k ≤ n ∧ i = .int .i64 k ∧ OwnF wr B v k (flatV f n h) ∧ Below B w0 wr
theorem mod_int (k h : Nat) : (k : Int) % (h : Int) = ((k % h : Nat) : Int) := Int.ofNat_mod_ofNat k h
theorem tmod_int (k h : Nat) : (k : Int).tmod (h : Int) = ((k % h : Nat) : Int) := rfl

/-- Append's law at a step, where the one number's block was just made. -/
theorem step_app_made {ops : Array Oper} {o : Oper} {a : Act} {K : Act → World → Prop} {Q : Exit → Act → World → Prop} {E : Prop} (w0 : World) (r : Nat) (t : TypeId) (hgd : o.guard = none) (s x : Operand)
    (ho : o.op = .call { callee := .builtin .append, args := #[s, x], argTypes := #[25, 25] })
    (B : Nat) (v : Value) (n : Nat) (V : Nat → Option Nat) (hs : a.eval s = v) (hown : OwnF w0 B v n V)
    (g : Nat) (hx : a.eval x = .slice (some ⟨g, 0, none⟩) 1 1) (hg : g = w0.heap.size) (hn : n ≤ 1048576) (hB : B ≤ w0.heap.size)
    (h : ∀ v' w', OwnF w' B v' (n + 1) (fun j => if j = n then cn r else V j) → Below B w0 w' → K (a.put o.dst v') w') :
    if Region.wanted o (yielded ops a.tmps) = true then Oper.wp Try.prog o a (w0.alloc (.cells #[.float .f64 r] t)) K Q else E := by
  refine step_app _ hgd s x ho B v n V hs (hown.alloc _) r g hx ?_ hn (by simp; omega) (fun v' w' h1 h2 => h v' w' h1 (((Below.refl _ _).alloc hB _).trans h2))
  rw [World.cell?_alloc_at _ _ _ _ hg]
  rfl

set_option maxHeartbeats 1000000 in
theorem specFlat_ok (g cap n h : Nat) (f : Nat → Nat) (w : World) (hn : n ≤ 256) (h1 : 1 ≤ h) (h2 : h ≤ n) (hz : osC n h = 0) (hg : g < w.heap.size) (hc : ∀ j, j < n → w.cell? ⟨g, j, none⟩ = some (.float .f64 (f j))) :
    Calls Try.prog 39 #[.slice (some ⟨g, 0, none⟩) n cap, .int .i64 h] w fun e w' => ∃ v, e = .returned (.tuple #[v, .int .i64 0]) ∧ OwnF w' w.heap.size v n (flatV f n h) ∧ Below w.heap.size w w' := by
  have HS := hid (specSums_any g cap n h f w hn h1 h2 hg hc)
  have HC := hid hc
  clear hc
  go_enter Try.func39, Try.ntmps39
  go_wp2_with (go_at_call 60; refine (hopCode_any _ _ _ _ _).mono ?_; rintro e w' ⟨rfl, rfl⟩)
  refine HS.out.mono ?_
  rintro e w2 ⟨v, rfl, ho, hb⟩
  obtain ⟨q, qc, F, rfl, hq, hcell, hF⟩ := ho.cells h1
  have HB := hid hb
  have HQ := hid hcell
  have HF := hid hF
  clear hb hcell ho hF
  go_wp2
  go_loopw [8, 9] (fun v i wr => FlatR f n h w2.heap.size w2 v i wr) (fun _ i _ => n - (intOf i).toNat)
  case atStart => exact ⟨0, Nat.zero_le _, rfl, OwnF.made w2 w2.heap.size _ (Nat.le_refl _), (Below.refl _ _).alloc (Nat.le_refl _) _⟩
  case round =>
    obtain ⟨k, hk, rfl, hown, hbe⟩ := hrel
    have hsz : w2.heap.size ≤ wr.heap.size := hbe.size
    have HOWN := hid hown
    have HBR := hid hbe
    clear hown hbe
    by_cases hlt : k < n
    · have hm : k % h < h := Nat.mod_lt _ (by omega)
      obtain ⟨r, hr, er⟩ : ∃ r, r < h ∧ Hid (r = k % h) := ⟨_, hm, hid rfl⟩
      have e1 : wr.cell? ⟨g, k, none⟩ = some (.float .f64 (f k)) := (HBR.out.cell (p := ⟨g, k, none⟩) (by have := HB.out.size; simp; omega)).trans ((HB.out.cell (p := ⟨g, k, none⟩) hg).trans (HC.out _ hlt))
      have e2 : wr.cell? ⟨q, r, none⟩ = some (.float .f64 (F r)) := (HBR.out.cell (p := ⟨q, r, none⟩) hq).trans (HQ.out _ hr)
      have g1 : g < wr.heap.size := by have := HB.out.size; omega
      have g2 : q < wr.heap.size := by omega
      have i0 : (0 : Int) ≤ (k : Int) := by omega
      have i1 : (k : Int) < (n : Int) := by omega
      have i2 : (0 : Int) ≤ (r : Int) := by omega
      have i3 : (r : Int) < (h : Int) := by omega
      have i4 : ¬ h = 0 := by omega
      have i5 : (k : Int).tmod (h : Int) = (r : Int) := by rw [tmod_int, er.out]
      have HFK : Hid (cn (F r) = hopV f n h (k % h)) := hid (by have := HF.out _ hr; rw [this, er.out])
      clear hm
      go_wp2
      go_region_law ((refine step_app_made _ _ _ rfl _ _ rfl w2.heap.size _ k (flatV f n h) rfl (HOWN.out.drewN _) _ rfl rfl (by omega) hsz ?_; intro v' w6 hown6 hb6))
      all_goals
        have hb := (below_drewN HBR.out _).trans hb6
        go_wp2
        exact ⟨⟨k + 1, by omega, by go_num, hown6.congr (fun j hj => by
          by_cases e : j = k
          · subst e; rw [if_pos rfl, fres_cn, HFK.out]; rfl
          · rw [if_neg e]), hb⟩, by simp [intOf]; omega⟩
    · obtain rfl : k = n := by omega
      go_wp2
      go_ret2
      exact ⟨_, rfl, HOWN.out.mono HB.out.size, HB.out.trans (HBR.out.mono HB.out.size)⟩

/-- How many numbers there are. -/
def flN (n : Nat) (h : Int) : Nat := if osC n h = 0 then n else 0
theorem flN_le (n : Nat) (h : Int) : flN n h ≤ 1048576 := by
  unfold flN
  split
  · rename_i hz
    obtain ⟨k, rfl, hn, h1, h2⟩ := osC_nat hz
    omega
  · omega
theorem specFlat_any (g cap n : Nat) (h : Int) (f : Nat → Nat) (w : World) (hg : g < w.heap.size) (hc : ∀ j, j < n → w.cell? ⟨g, j, none⟩ = some (.float .f64 (f j))) :
    Calls Try.prog 39 #[.slice (some ⟨g, 0, none⟩) n cap, .int .i64 h] w (ResS w (flN n h) (flatV f n h.toNat) (osC n h)) := by
  by_cases hz : osC n h = 0
  · obtain ⟨k, rfl, hn, h1, h2⟩ := osC_nat hz
    refine (specFlat_ok g cap n k f w hn h1 h2 hz hg hc).mono fun e w' ⟨v, he, ho, hb⟩ => ⟨v, by rw [he, hz], ?_, hb⟩
    unfold flN
    rw [if_pos hz]
    simpa using ho
  · clear hc
    go_enter Try.func39, Try.ntmps39
    go_wp2_with (go_at_call 60; refine (hopCode_any _ _ _ _ _).mono ?_; rintro e w' ⟨rfl, rfl⟩)
    go_ret2
    refine ⟨_, rfl, ?_, (Below.refl _ _).alloc (Nat.le_refl _) _⟩
    unfold flN
    rw [if_neg hz]
    exact OwnF.made w _ _ (Nat.le_refl _)

set_option maxHeartbeats 1000000 in
theorem implFlat_ok (g cap n h : Nat) (f : Nat → Nat) (w : World) (hn : n ≤ 256) (h1 : 1 ≤ h) (h2 : h ≤ n) (hz : osC n h = 0) (hg : g < w.heap.size) (hc : ∀ j, j < n → w.cell? ⟨g, j, none⟩ = some (.float .f64 (f j))) :
    Calls Try.prog 40 #[.slice (some ⟨g, 0, none⟩) n cap, .int .i64 h] w fun e w' => ∃ v, e = .returned (.tuple #[v, .int .i64 0]) ∧ OwnF w' w.heap.size v n (flatV f n h) ∧ Below w.heap.size w w' := by
  have HS := hid (implSums_ok g cap n h f w hn h1 h2 hg hc)
  have HC := hid hc
  clear hc
  go_enter Try.func40, Try.ntmps40
  go_wp2_with fail
  refine HS.out.mono ?_
  rintro e w2 ⟨v, rfl, ho, hb⟩
  obtain ⟨q, qc, F, rfl, hq, hcell, hF⟩ := ho.cells h1
  have HB := hid hb
  have HQ := hid hcell
  have HF := hid hF
  clear hb hcell ho hF
  go_wp2
  go_loopw [8, 23] (fun v i wr => FlatR f n h w2.heap.size w2 v i wr) (fun _ i _ => n - (intOf i).toNat)
  case atStart => exact ⟨0, Nat.zero_le _, rfl, OwnF.made w2 w2.heap.size _ (Nat.le_refl _), (Below.refl _ _).alloc (Nat.le_refl _) _⟩
  case round =>
    obtain ⟨k, hk, rfl, hown, hbe⟩ := hrel
    have hsz : w2.heap.size ≤ wr.heap.size := hbe.size
    have HOWN := hid hown
    have HBR := hid hbe
    clear hown hbe
    by_cases hlt : k < n
    · have hm : k % h < h := Nat.mod_lt _ (by omega)
      obtain ⟨r, hr, er⟩ : ∃ r, r < h ∧ Hid (r = k % h) := ⟨_, hm, hid rfl⟩
      have e1 : wr.cell? ⟨g, k, none⟩ = some (.float .f64 (f k)) := (HBR.out.cell (p := ⟨g, k, none⟩) (by have := HB.out.size; simp; omega)).trans ((HB.out.cell (p := ⟨g, k, none⟩) hg).trans (HC.out _ hlt))
      have e2 : wr.cell? ⟨q, r, none⟩ = some (.float .f64 (F r)) := (HBR.out.cell (p := ⟨q, r, none⟩) hq).trans (HQ.out _ hr)
      have g1 : g < wr.heap.size := by have := HB.out.size; omega
      have g2 : q < wr.heap.size := by omega
      have i0 : (0 : Int) ≤ (k : Int) := by omega
      have i1 : (k : Int) < (n : Int) := by omega
      have i2 : (0 : Int) ≤ (r : Int) := by omega
      have i3 : (r : Int) < (h : Int) := by omega
      have i4 : ¬ h = 0 := by omega
      have i5 : (k : Int).tmod (h : Int) = (r : Int) := by rw [tmod_int, er.out]
      have HFK : Hid (cn (F r) = hopV f n h (k % h)) := hid (by have := HF.out _ hr; rw [this, er.out])
      clear hm
      go_wp2_with (at_builtin; refine wpList_app _ rfl _ _ rfl w2.heap.size _ k (flatV f n h) rfl ?c0 (fres .quo (f k) (F r) wr) _ rfl ?c1 ?c2 ?c3 ?_)
      case c0 => exact (HOWN.out.drewN _).alloc _
      case c1 => exact (World.cell?_alloc_at _ _ _ _ rfl).trans rfl
      case c2 => omega
      case c3 => simp; omega
      intro v' w6 hown6 hb6
      have hb := ((below_drewN HBR.out _).alloc (by simp; omega) (.cells #[.float .f64 (fres .quo (f k) (F r) wr)] 26)).trans hb6
      go_wp2
      exact ⟨⟨k + 1, by omega, by go_num, hown6.congr (fun j hj => by
        by_cases e : j = k
        · subst e; rw [if_pos rfl, fres_cn, HFK.out]; rfl
        · rw [if_neg e]), hb⟩, by simp [intOf]; omega⟩
    · obtain rfl : k = n := by omega
      go_wp2
      go_ret2
      exact ⟨_, rfl, HOWN.out.mono HB.out.size, HB.out.trans (HBR.out.mono HB.out.size)⟩
theorem implFlat_any (g cap n : Nat) (h : Int) (f : Nat → Nat) (w : World) (hg : g < w.heap.size) (hc : ∀ j, j < n → w.cell? ⟨g, j, none⟩ = some (.float .f64 (f j))) :
    Calls Try.prog 40 #[.slice (some ⟨g, 0, none⟩) n cap, .int .i64 h] w (ResS w (flN n h) (flatV f n h.toNat) (osC n h)) := by
  by_cases hz : osC n h = 0
  · obtain ⟨k, rfl, hn, h1, h2⟩ := osC_nat hz
    refine (implFlat_ok g cap n k f w hn h1 h2 hz hg hc).mono fun e w' ⟨v, he, ho, hb⟩ => ⟨v, by rw [he, hz], ?_, hb⟩
    unfold flN
    rw [if_pos hz]
    simpa using ho
  · have HS := hid (implSums_any g cap n h f w hg hc)
    clear hc
    go_enter Try.func40, Try.ntmps40
    go_wp2_with fail
    refine HS.out.mono ?_
    rintro e w2 ⟨v, rfl, ho, hb⟩
    go_wp2
    go_ret2
    refine ⟨_, rfl, ?_, hb⟩
    unfold flN
    rw [if_neg hz]
    exact OwnF.nil _ _ _
end Go.Proofs.Ytjiogodidicaeaa
