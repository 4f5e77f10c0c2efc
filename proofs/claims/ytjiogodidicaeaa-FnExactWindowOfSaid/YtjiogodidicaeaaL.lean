/-
  The laws' helpers on slices of floats of the call's own, by contract: the comparison, the marks, the look at the marks, the copy.
-/
import Derived.Test.YtjiogodidicaeaaO
namespace Go.Proofs.Ytjiogodidicaeaa
open Go.RowKit

theorem OwnF.grown {w w' : World} {B : Nat} {v : Value} {n : Nat} {V : Nat → Option Nat} {row : Option Nat} (h : OwnF w B v n V) (hg : w.grownBy w' row) (hne : v.ownBlock = none ∨ v.ownBlock ≠ row) : OwnF w' B v n V := by
  obtain ⟨F, ho, hF⟩ := h
  exact ⟨F, ho.kept hg hne, hF⟩
/-- A row whose first words are known. -/
theorem OwnF.ofRow {w : World} {B g n cap : Nat} {F : Nat → Nat} {G : Nat → Value} (hB : B ≤ g) (hn : n ≤ cap) (hm : cap ≤ maxLen) (h : w.rowIs g 26 cap G) (hG : ∀ j, j < n → G j = .float .f64 (F j)) :
    OwnF w B (.slice (some ⟨g, 0, none⟩) n cap) n (fun j => cn (F j)) := by
  obtain ⟨c, hc, hs, hi⟩ := h
  refine ⟨F, ⟨by simp [fl_length], .inr ⟨g, cap, c, rfl, hB, hc, hn, hm, by omega, ?_⟩⟩, fun j _ => rfl⟩
  apply List.ext_getElem?
  intro j
  rw [Nat.mul_one, List.getElem?_take]
  by_cases hj : j < n
  · rw [if_pos hj, Array.getElem?_toList, hi j (by omega), hG j hj]
    simp [fl, hj]
  · rw [if_neg hj]
    simp [fl, hj]

/-- The copy of a slice, as owned. -/
theorem toF_own (ao : Option Addr) (n cap : Nat) (f : Nat → Nat) (w : World) (hn : n ≤ 1048576) (hr : Rd w ao n f) :
    Calls Try.prog 17 #[.slice ao n cap] w fun e w' => e = .returned (.slice (some ⟨w.heap.size, 0, none⟩) n n) ∧ w'.rowIs w.heap.size 26 n (fun j => .float .f64 (f j)) ∧
      OwnF w' w.heap.size (.slice (some ⟨w.heap.size, 0, none⟩) n n) n (fun j => cn (f j)) ∧ Below w.heap.size w w' :=
  (toF_any ao n cap f w hn hr).mono fun _ _ ⟨he, hrow, hb⟩ => ⟨he, hrow, OwnF.ofRow (Nat.le_refl _) (Nat.le_refl _) (by unfold maxLen; omega) hrow (fun _ _ => rfl), hb⟩

theorem eqF_own (v v' : Value) (n B B' : Nat) (V : Nat → Option Nat) (w : World) (hn : n ≤ 1048576) (h : OwnF w B v n V) (h' : OwnF w B' v' n V) :
    Calls Try.prog 20 #[v, v'] w fun e w' => e = .returned (.bool true) ∧ ∃ m, w' = w.drewN m := by
  obtain ⟨ao, cap, F, rfl, hr, hF⟩ := h.rd
  obtain ⟨ao', cap', F', rfl, hr', hF'⟩ := h'.rd
  exact eqF_any ao ao' n cap cap' F F' w hn hr hr' (fun j hj => (hF j hj).trans (hF' j hj).symm)

theorem cn_fI (n : Int) : cn (fI n) = some (fI n) := cn_of (fI_nn n)
theorem markF_own (v : Value) (n B : Nat) (V : Nat → Option Nat) (p : Int) (w : World) (hn : n ≤ 1048576) (hp : 0 ≤ p) (hp2 : p ≤ 1048576) (h : OwnF w B v n V) :
    Calls Try.prog 31 #[v, .int .i64 p] w fun e w' => e = .returned (.int .i64 (p + n)) ∧ OwnF w' B v n (fun j => some (fI (p + j))) ∧ w.grownBy w' v.ownBlock := by
  rcases h.row with ⟨rfl, rfl⟩ | ⟨g, cap, F, G, rfl, hB, hc, hm, hrow, hG, hF⟩
  · refine (markF_none none 0 p w).mono fun e w' ⟨he, hw⟩ => ?_
    subst hw
    exact ⟨by rw [he]; simp, OwnF.nil _ _ _, World.grownBy.refl _ _⟩
  · refine (markF_any g cap n cap G p w hn hc hp hp2 hrow).mono fun e w' ⟨he, hr, hg⟩ => ⟨he, ?_, hg⟩
    exact (OwnF.ofRow (F := fun j => fI (p + j)) hB hc hm hr (fun j hj => if_pos hj)).congr (fun j _ => cn_fI _)
theorem heldF_own (v : Value) (n B : Nat) (p : Int) (w : World) (hn : n ≤ 1048576) (hp : 0 ≤ p) (hp2 : p ≤ 1048576) (h : OwnF w B v n (fun j => some (fI (p + j)))) :
    Calls Try.prog 36 #[v, .int .i64 p] w fun e w' => e = .returned (.int .i64 (p + n)) ∧ w = w' := by
  obtain ⟨ao, cap, F, rfl, hr, hF⟩ := h.rd
  refine heldF_any ao n cap p w hn hp hp2 (fun h0 => ?_)
  obtain ⟨b, off, e, hb, hc⟩ := hr h0
  exact ⟨b, off, e, hb, fun j hj => by rw [hc j hj, (cn_some (hF j hj)).1]⟩
end Go.Proofs.Ytjiogodidicaeaa
