/-
  The law of NewAdder.
-/
import Derived.Test.YtjiogodidicaeaaF
namespace Go.Proofs.Ytjiogodidicaeaa
open Go.RowKit

/-- A variable that holds an Adder without a tail. -/
def AdAt (w : World) (b : Nat) (x y : Int) : Prop := b < w.heap.size ∧ w.cell? ⟨b, 0, none⟩ = some (.int .i64 x) ∧ w.cell? ⟨b, 1, none⟩ = some (.int .i64 y) ∧ w.cell? ⟨b, 2, none⟩ = some (.slice none 0 0)
theorem AdAt.below {w w' : World} {b B : Nat} {x y : Int} (h : AdAt w b x y) (hb : Below B w w') (hB : w.heap.size ≤ B) : AdAt w' b x y :=
  ⟨Nat.lt_of_lt_of_le h.1 hb.size, (hb.cell (p := ⟨b, 0, none⟩) (Nat.lt_of_lt_of_le h.1 hB)).trans h.2.1, (hb.cell (p := ⟨b, 1, none⟩) (Nat.lt_of_lt_of_le h.1 hB)).trans h.2.2.1, (hb.cell (p := ⟨b, 2, none⟩) (Nat.lt_of_lt_of_le h.1 hB)).trans h.2.2.2⟩
theorem AdAt.made (w : World) (x y : Int) : AdAt (w.alloc (.cells #[.int .i64 x, .int .i64 y, .slice none 0 0] 35)) w.heap.size x y :=
  ⟨by simp, by rw [World.cell?_alloc_at _ _ _ _ rfl]; rfl, by rw [World.cell?_alloc_at _ _ _ _ rfl]; rfl, by rw [World.cell?_alloc_at _ _ _ _ rfl]; rfl⟩

theorem law_NewAdder (s h : Int) (_ : (Lit.int .i64 s).wf = true) (_ : (Lit.int .i64 h).wf = true) (w : World) :
    Calls Try.prog 6 #[.int .i64 s, .int .i64 h] w fun e w' => e = .returned (.bool true) ∧ Below w.heap.size w w' := by
  obtain ⟨a, b, c, hv⟩ : ∃ a b c : Int, naV s h = .tuple #[.agg #[.int .i64 a, .int .i64 b, .slice none 0 0], .int .i64 c] := ⟨_, _, _, rfl⟩
  have HS := hid (fun W => hv ▸ specNew_any s h W)
  have HI := hid (fun W => hv ▸ implNew_any s h W)
  clear hv
  go_enter Try.func6, Try.ntmps6
  go_wp2_with fail
  refine (HS.out _).mono ?_
  rintro e w1 ⟨rfl, hb1⟩
  have HB1 := hid hb1
  clear hb1
  go_wp2_with fail
  refine (HI.out _).mono ?_
  rintro e w2 ⟨rfl, hb2⟩
  have A2 := hid ((AdAt.made w1 a b).below hb2 (Nat.le_refl _))
  have HB2 := hid ((HB1.out.alloc HB1.out.size (.cells #[.int .i64 a, .int .i64 b, .slice none 0 0] 35)).trans (hb2.mono (by have := HB1.out.size; simp; omega)))
  obtain ⟨k1, k2, k3, k4⟩ := A2.out
  clear hb2
  go_wp2_with fail
  refine (eqAdder_any a b _).mono ?_
  rintro e w3 ⟨rfl, hb3⟩
  have A3 := hid ((A2.out.below ((Below.refl w2.heap.size w2).alloc (Nat.le_refl _) (.cells #[.int .i64 a, .int .i64 b, .slice none 0 0] 35)) (Nat.le_refl _)).below hb3 (Nat.le_refl _))
  have G3 := hid ((AdAt.made w2 a b).below hb3 (Nat.le_refl _))
  have HB3 := hid ((HB2.out.alloc HB2.out.size (.cells #[.int .i64 a, .int .i64 b, .slice none 0 0] 35)).trans (hb3.mono (by have := HB2.out.size; simp; omega)))
  clear k1 k2 k3 k4 hb3
  obtain ⟨k1, k2, k3, k4⟩ := G3.out
  go_wp2_with fail
  refine (markAdder_any a b 1 _).mono ?_
  rintro e w4 ⟨rfl, hb4⟩
  have A4 := hid (A3.out.below hb4 (Nat.le_refl _))
  have G4 := hid (G3.out.below hb4 (Nat.le_refl _))
  have HB4 := hid (HB3.out.trans (hb4.mono HB3.out.size))
  clear k1 k2 k3 k4 hb4
  obtain ⟨k1, k2, k3, k4⟩ := G4.out
  go_wp2_with fail
  refine (heldAdder_any a b 1 _ (by omega)).mono ?_
  rintro e w5 ⟨rfl, hb5⟩
  have A5 := hid (A4.out.below hb5 (Nat.le_refl _))
  have G5 := hid (G4.out.below hb5 (Nat.le_refl _))
  have HB5 := hid (HB4.out.trans (hb5.mono HB4.out.size))
  clear k1 k2 k3 k4 hb5
  go_wp2_with fail
  refine (HI.out _).mono ?_
  rintro e w6 ⟨rfl, hb6⟩
  have A6 := hid (A5.out.below hb6 (Nat.le_refl _))
  have G6 := hid (G5.out.below hb6 (Nat.le_refl _))
  have HB6 := hid (HB5.out.trans (hb6.mono HB5.out.size))
  clear hb6
  obtain ⟨k1, k2, k3, k4⟩ := A6.out
  go_wp2_with fail
  refine (eqAdder_any a b _).mono ?_
  rintro e w7 ⟨rfl, hb7⟩
  have G7 := hid ((G6.out.below ((Below.refl w6.heap.size w6).alloc (Nat.le_refl _) (.cells #[.int .i64 a, .int .i64 b, .slice none 0 0] 35)) (Nat.le_refl _)).below hb7 (Nat.le_refl _))
  have HB7 := hid ((HB6.out.alloc HB6.out.size (.cells #[.int .i64 a, .int .i64 b, .slice none 0 0] 35)).trans (hb7.mono (by have := HB6.out.size; simp; omega)))
  clear k1 k2 k3 k4 hb7
  obtain ⟨k1, k2, k3, k4⟩ := G7.out
  go_wp2_with fail
  refine (heldAdder_any a b 1 _ (by omega)).mono ?_
  rintro e w8 ⟨rfl, hb8⟩
  have HB8 := hid (HB7.out.trans (hb8.mono HB7.out.size))
  clear k1 k2 k3 k4 hb8
  go_wp2
  go_ret
  exact ⟨rfl, HB8.out⟩
end Go.Proofs.Ytjiogodidicaeaa
