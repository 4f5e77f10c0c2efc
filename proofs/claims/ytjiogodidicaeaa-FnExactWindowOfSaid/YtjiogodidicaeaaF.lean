/-
  NewAdder: the program's, the reference's, the law's own helpers at an Adder without a tail.
-/
import Derived.Test.YtjiogodidicaeaaB
namespace Go.Proofs.Ytjiogodidicaeaa
open Go.RowKit

theorem below_alloc2 (w : World) (o o' : Obj) : Below w.heap.size w ((w.alloc o).alloc o') := ((Below.refl _ _).alloc (Nat.le_refl _) o).alloc (by simp) o'

/-! ### No elements -/
theorem eqC_nil (w : World) : Calls Try.prog 57 #[.slice none 0 0, .slice none 0 0] w fun e w' => e = .returned (.bool true) ∧ w = w' := by
  go_enter Try.func57, Try.ntmps57
  go_wp2
  refine wp_loop_rounds 1 ?_
  rw [rounds_succ]
  go_wp2
  go_ret
  exact ⟨rfl, rfl⟩
theorem markC_nil (p : Int) (w : World) : Calls Try.prog 58 #[.slice none 0 0, .int .i64 p] w fun e w' => e = .returned (.int .i64 p) ∧ w = w' := by
  go_enter Try.func58, Try.ntmps58
  go_wp2
  refine wp_loop_rounds 1 ?_
  rw [rounds_succ]
  go_wp2
  go_ret
  exact ⟨rfl, rfl⟩
theorem heldC_nil (p : Int) (w : World) : Calls Try.prog 59 #[.slice none 0 0, .int .i64 p] w fun e w' => e = .returned (.int .i64 p) ∧ w = w' := by
  go_enter Try.func59, Try.ntmps59
  go_wp2
  refine wp_loop_rounds 1 ?_
  rw [rounds_succ]
  go_wp2
  go_ret
  exact ⟨rfl, rfl⟩

theorem eqAdder_any (s h : Int) (w : World) : Calls Try.prog 25 #[.agg #[.int .i64 s, .int .i64 h, .slice none 0 0], .agg #[.int .i64 s, .int .i64 h, .slice none 0 0]] w
    fun e w' => e = .returned (.bool true) ∧ Below w.heap.size w w' := by
  go_enter Try.func25, Try.ntmps25
  go_wp2_with (go_at_call 57; refine (eqC_nil _).mono ?_; rintro e w' ⟨rfl, rfl⟩)
  go_ret
  exact ⟨rfl, below_alloc2 _ _ _⟩
theorem markAdder_any (s h p : Int) (w : World) : Calls Try.prog 26 #[.agg #[.int .i64 s, .int .i64 h, .slice none 0 0], .int .i64 p] w
    fun e w' => e = .returned (.int .i64 p) ∧ Below w.heap.size w w' := by
  go_enter Try.func26, Try.ntmps26
  go_wp2_with (go_at_call 58; refine (markC_nil _ _).mono ?_; rintro e w' ⟨rfl, rfl⟩)
  go_ret
  exact ⟨rfl, (Below.refl _ _).alloc (Nat.le_refl _) _⟩
theorem heldAdder_any (s h p : Int) (w : World) (hp : 0 ≤ p) : Calls Try.prog 27 #[.agg #[.int .i64 s, .int .i64 h, .slice none 0 0], .int .i64 p] w
    fun e w' => e = .returned (.int .i64 p) ∧ Below w.heap.size w w' := by
  go_enter Try.func27, Try.ntmps27
  go_wp2_with (go_at_call 59; refine (heldC_nil _ _).mono ?_; rintro e w' ⟨rfl, rfl⟩)
  go_ret
  exact ⟨rfl, (Below.refl _ _).alloc (Nat.le_refl _) _⟩

/-- A right Adder without a tail. -/
def adB (s h : Int) : Bool := inB s 1 256 && inB h 1 s
theorem inq {x lo hi : Int} {b : Bool} (h : inB x lo hi = b) (W : World) : Calls Try.prog 47 #[.int .i64 x, .int .i64 lo, .int .i64 hi] W fun e w' => e = .returned (.bool b) ∧ w' = W :=
  (l00In_any x lo hi W).mono fun _ _ hh => ⟨by rw [hh.1, h], hh.2.symm⟩
set_option maxHeartbeats 1000000 in
theorem ok_any (b : Nat) (s h : Int) (w : World) (h0 : w.cell? ⟨b, 0, none⟩ = some (.int .i64 s)) (h1 : w.cell? ⟨b, 1, none⟩ = some (.int .i64 h)) (h2 : w.cell? ⟨b, 2, none⟩ = some (.slice none 0 0)) :
    Calls Try.prog 55 #[.pointer (some ⟨b, 0, none⟩)] w fun e w' => e = .returned (.bool (adB s h)) ∧ ∃ n, w' = w.drewN n := by
  cases b1 : inB s 1 256 with
  | false =>
    have B1 := hid b1
    clear b1
    go_enter Try.func55, Try.ntmps55
    go_wp2
    go_quiet ((go_at_call 47; exact Calls.quiet_of_same (inq B1.out _)))
    go_wp2
    go_ret
    exact ⟨ret_bool (by simp [adB, B1.out]), _, rfl⟩
  | true =>
    cases b2 : inB h 1 s with
    | false =>
      have B1 := hid b1
      have B2 := hid b2
      clear b1 b2
      go_enter Try.func55, Try.ntmps55
      go_wp2
      go_quiet ((first | (go_at_call_of 47 (Value.int IntKind.i64 256); exact Calls.quiet_of_same (inq B1.out _)) | (go_at_call_of 47 (Value.int IntKind.i64 h); exact Calls.quiet_of_same (inq B2.out _))))
      go_wp2
      go_ret
      exact ⟨ret_bool (by simp [adB, B2.out]), _, rfl⟩
    | true =>
      have B1 := hid b1
      have B2 := hid b2
      clear b1 b2
      go_enter Try.func55, Try.ntmps55
      go_wp2
      go_quiet ((first | (go_at_call_of 47 (Value.int IntKind.i64 256); exact Calls.quiet_of_same (inq B1.out _)) | (go_at_call_of 47 (Value.int IntKind.i64 h); exact Calls.quiet_of_same (inq B2.out _))))
      go_wp2
      go_ret
      exact ⟨ret_bool (by simp [adB, B1.out, B2.out]), _, rfl⟩
theorem valid_any (s h : Int) (w : World) : Calls Try.prog 56 #[.agg #[.int .i64 s, .int .i64 h, .slice none 0 0]] w
    fun e w' => e = .returned (.bool (adB s h)) ∧ Below w.heap.size w w' := by
  cases b1 : inB s 1 256 with
  | false =>
    go_enter Try.func56, Try.ntmps56
    go_wp2_with (go_at_call 49; refine (in_any _ _ _ _).mono ?_; rintro e w' ⟨rfl, rfl⟩)
    go_ret
    exact ⟨ret_bool (by simp [adB, b1]), (Below.refl _ _).alloc (Nat.le_refl _) _⟩
  | true =>
    cases b2 : inB h 1 s with
    | false =>
      go_enter Try.func56, Try.ntmps56
      go_wp2_with (go_at_call 49; refine (in_any _ _ _ _).mono ?_; rintro e w' ⟨rfl, rfl⟩)
      go_ret
      exact ⟨ret_bool (by simp [adB, b2]), (Below.refl _ _).alloc (Nat.le_refl _) _⟩
    | true =>
      go_enter Try.func56, Try.ntmps56
      go_wp2_with (go_at_call 49; refine (in_any _ _ _ _).mono ?_; rintro e w' ⟨rfl, rfl⟩)
      go_ret
      exact ⟨ret_bool (by simp [adB, b1, b2]), (Below.refl _ _).alloc (Nat.le_refl _) _⟩

/-- What both NewAdders return. -/
def naV (s h : Int) : Value := .tuple #[.agg #[.int .i64 (if adB s h then s else 0), .int .i64 (if adB s h then h else 0), .slice none 0 0], .int .i64 (if adB s h then 0 else 2)]
theorem naV_yes {s h : Int} (hb : adB s h = true) : .tuple #[.agg #[.int .i64 s, .int .i64 h, .slice none 0 0], .int .i64 0] = naV s h := by simp [naV, hb]
theorem naV_no {s h : Int} (hb : adB s h = false) : .tuple #[.agg #[.int .i64 0, .int .i64 0, .slice none 0 0], .int .i64 2] = naV s h := by simp [naV, hb]

theorem specNew_any (s h : Int) (w : World) : Calls Try.prog 23 #[.int .i64 s, .int .i64 h] w fun e w' => e = .returned (naV s h) ∧ Below w.heap.size w w' := by
  have c0 : ∀ o : Obj, ((w.alloc o).alloc (.cells #[.int .i64 s, .int .i64 h, .slice none 0 0] 35)).cell? ⟨w.heap.size + 1, 0, none⟩ = some (.int .i64 s) := fun o => by rw [World.cell?_alloc_at _ _ _ _ (by simp)]; rfl
  have c1 : ∀ o : Obj, ((w.alloc o).alloc (.cells #[.int .i64 s, .int .i64 h, .slice none 0 0] 35)).cell? ⟨w.heap.size + 1, 1, none⟩ = some (.int .i64 h) := fun o => by rw [World.cell?_alloc_at _ _ _ _ (by simp)]; rfl
  have c2 : ∀ o : Obj, ((w.alloc o).alloc (.cells #[.int .i64 s, .int .i64 h, .slice none 0 0] 35)).cell? ⟨w.heap.size + 1, 2, none⟩ = some (.slice none 0 0) := fun o => by rw [World.cell?_alloc_at _ _ _ _ (by simp)]; rfl
  have C0 := hid c0
  have C1 := hid c1
  have C2 := hid c2
  clear c0 c1 c2
  cases hb : adB s h with
  | true =>
    go_enter Try.func23, Try.ntmps23
    go_wp2_with fail
    refine (ok_any (w.heap.size + 1) s h _ (C0.out _) (C1.out _) (C2.out _)).mono ?_
    rintro e w2 ⟨rfl, n, rfl⟩
    go_wp2
    rw [← naV_yes hb]
    refine bodyPost_ret (v := .tuple #[.agg #[.int .i64 s, .int .i64 h, .slice none 0 0], .int .i64 0]) ?_ rfl ⟨rfl, ?_⟩
    · simp [results, Try.results23, go_sem]
    · exact (((below_drewN (below_alloc2 _ _ _) n).setCell (Nat.le_refl _) _).setCell (Nat.le_refl _) _).setCell (Nat.le_refl _) _
  | false =>
    go_enter Try.func23, Try.ntmps23
    go_wp2_with fail
    refine (ok_any (w.heap.size + 1) s h _ (C0.out _) (C1.out _) (C2.out _)).mono ?_
    rintro e w2 ⟨rfl, n, rfl⟩
    go_wp2
    rw [← naV_no hb]
    refine bodyPost_ret (v := .tuple #[.agg #[.int .i64 0, .int .i64 0, .slice none 0 0], .int .i64 2]) ?_ rfl ⟨rfl, ?_⟩
    · simp [results, Try.results23, go_sem]
    · exact (((below_drewN (below_alloc2 _ _ _) n).setCell (Nat.le_refl _) _).setCell (Nat.le_refl _) _).setCell (Nat.le_refl _) _

theorem implNew_any (s h : Int) (w : World) : Calls Try.prog 24 #[.int .i64 s, .int .i64 h] w fun e w' => e = .returned (naV s h) ∧ Below w.heap.size w w' := by
  cases hb : adB s h with
  | true =>
    go_enter Try.func24, Try.ntmps24
    go_wp2_with fail
    refine (valid_any s h _).mono ?_
    rintro e w2 ⟨rfl, hbe⟩
    have k0 := (hbe.cell (p := ⟨w.heap.size, 0, none⟩) (by simp; omega))
    have k1 := (hbe.cell (p := ⟨w.heap.size, 1, none⟩) (by simp; omega))
    have k2 := (hbe.cell (p := ⟨w.heap.size, 2, none⟩) (by simp; omega))
    have k3 := (hbe.frozen (p := ⟨w.heap.size, 0, none⟩) (by simp; omega))
    have k4 := (hbe.frozen (p := ⟨w.heap.size, 1, none⟩) (by simp; omega))
    have k5 := (hbe.frozen (p := ⟨w.heap.size, 2, none⟩) (by simp; omega))
    have j0 := (hbe.cell (p := ⟨w.heap.size + 1, 0, none⟩) (by simp))
    have j1 := (hbe.cell (p := ⟨w.heap.size + 1, 1, none⟩) (by simp))
    have j2 := (hbe.cell (p := ⟨w.heap.size + 1, 2, none⟩) (by simp))
    simp [go_sem] at k0 k1 k2 k3 k4 k5 j0 j1 j2
    have HB := hid ((below_alloc2 w _ _).trans (hbe.mono (by simp; omega)))
    clear hbe
    go_wp2
    rw [← naV_yes hb]
    refine bodyPost_ret (v := .tuple #[.agg #[.int .i64 s, .int .i64 h, .slice none 0 0], .int .i64 0]) ?_ rfl ⟨rfl, ?_⟩
    · simp [results, Try.results24, go_sem, k0, k1, k2]
    · exact ((HB.out.setCell (Nat.le_refl _) _).setCell (Nat.le_refl _) _).setCell (Nat.le_refl _) _
  | false =>
    go_enter Try.func24, Try.ntmps24
    go_wp2_with fail
    refine (valid_any s h _).mono ?_
    rintro e w2 ⟨rfl, hbe⟩
    have k0 := (hbe.cell (p := ⟨w.heap.size, 0, none⟩) (by simp; omega))
    have k1 := (hbe.cell (p := ⟨w.heap.size, 1, none⟩) (by simp; omega))
    have k2 := (hbe.cell (p := ⟨w.heap.size, 2, none⟩) (by simp; omega))
    have k3 := (hbe.frozen (p := ⟨w.heap.size, 0, none⟩) (by simp; omega))
    have k4 := (hbe.frozen (p := ⟨w.heap.size, 1, none⟩) (by simp; omega))
    have k5 := (hbe.frozen (p := ⟨w.heap.size, 2, none⟩) (by simp; omega))
    have j0 := (hbe.cell (p := ⟨w.heap.size + 1, 0, none⟩) (by simp))
    have j1 := (hbe.cell (p := ⟨w.heap.size + 1, 1, none⟩) (by simp))
    have j2 := (hbe.cell (p := ⟨w.heap.size + 1, 2, none⟩) (by simp))
    simp [go_sem] at k0 k1 k2 k3 k4 k5 j0 j1 j2
    have HB := hid ((below_alloc2 w _ _).trans (hbe.mono (by simp; omega)))
    clear hbe
    go_wp2
    rw [← naV_no hb]
    refine bodyPost_ret (v := .tuple #[.agg #[.int .i64 0, .int .i64 0, .slice none 0 0], .int .i64 2]) ?_ rfl ⟨rfl, ?_⟩
    · simp [results, Try.results24, go_sem, k0, k1, k2]
    · exact ((HB.out.setCell (Nat.le_refl _) _).setCell (Nat.le_refl _) _).setCell (Nat.le_refl _) _
end Go.Proofs.Ytjiogodidicaeaa
