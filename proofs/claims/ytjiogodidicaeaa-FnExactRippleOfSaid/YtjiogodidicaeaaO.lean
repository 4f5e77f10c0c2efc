/-
  Slices of floats that the call itself builds by append: what holds of them, and append's law in that form.
-/
import Derived.Test.YtjiogodidicaeaaE
import Derived.Deep.RegionHeld3
namespace Go.Proofs.Ytjiogodidicaeaa
open Go.RowKit

/-- The words of a row, as values. -/
def fl (F : Nat → Nat) (n : Nat) : List Value := (List.range n).map fun j => .float .f64 (F j)
theorem fl_length (F : Nat → Nat) (n : Nat) : (fl F n).length = n := by simp [fl]
theorem fl_succ (F : Nat → Nat) (n : Nat) : fl F (n + 1) = fl F n ++ [.float .f64 (F n)] := by simp [fl, List.range_succ]
theorem fl_congr {F G : Nat → Nat} {n : Nat} (h : ∀ j, j < n → F j = G j) : fl F n = fl G n := by
  unfold fl
  exact List.map_congr_left (fun j hj => by rw [h j (by simpa using hj)])

/-- A slice of floats of the call's own, from block B on: n words that are V j up to NaN. -/
def OwnF (w : World) (B : Nat) (v : Value) (n : Nat) (V : Nat → Option Nat) : Prop := ∃ F : Nat → Nat, w.ownsRow B 26 1 v n (fl F n) ∧ ∀ j, j < n → cn (F j) = V j


theorem OwnF.congr {w : World} {B : Nat} {v : Value} {n : Nat} {V V' : Nat → Option Nat} (h : OwnF w B v n V) (e : ∀ j, j < n → V j = V' j) : OwnF w B v n V' := by
  obtain ⟨F, ho, hF⟩ := h
  exact ⟨F, ho, fun j hj => (hF j hj).trans (e j hj)⟩
theorem OwnF.mono {w : World} {B C : Nat} {v : Value} {n : Nat} {V : Nat → Option Nat} (h : OwnF w B v n V) (hC : C ≤ B) : OwnF w C v n V := by
  obtain ⟨F, ho, hF⟩ := h
  refine ⟨F, ⟨ho.1, ?_⟩, hF⟩
  rcases ho.2 with h0 | ⟨g, cap, cur, hv, hB, rest⟩
  · exact .inl h0
  · exact .inr ⟨g, cap, cur, hv, Nat.le_trans hC hB, rest⟩
/-- A draw, a new block: what is owned stays. -/
theorem OwnF.drewN {w : World} {B : Nat} {v : Value} {n : Nat} {V : Nat → Option Nat} (h : OwnF w B v n V) (m : Nat) : OwnF (w.drewN m) B v n V := h
theorem OwnF.alloc {w : World} {B : Nat} {v : Value} {n : Nat} {V : Nat → Option Nat} (h : OwnF w B v n V) (o : Obj) : OwnF (w.alloc o) B v n V := by
  obtain ⟨F, ho, hF⟩ := h
  exact ⟨F, ho.alloc o, hF⟩
theorem OwnF.below {w w' : World} {B C : Nat} {v : Value} {n : Nat} {V : Nat → Option Nat} (h : OwnF w B v n V) (hb : Below C w w') (hC : w.heap.size ≤ C) : OwnF w' B v n V := by
  obtain ⟨F, ho, hF⟩ := h
  refine ⟨F, ⟨ho.1, ?_⟩, hF⟩
  rcases ho.2 with h0 | ⟨g, cap, cur, hv, hB, hg, rest⟩
  · exact .inl h0
  · have hlt : g < w.heap.size := (Array.getElem?_eq_some_iff.1 hg).1
    exact .inr ⟨g, cap, cur, hv, hB, by rw [hb.block g (by omega)]; exact hg, rest⟩
theorem OwnF.lt {w : World} {B : Nat} {v : Value} {n : Nat} {V : Nat → Option Nat} (h : OwnF w B v n V) : ∀ k, v.ownBlock = some k → B ≤ k ∧ k < w.heap.size := by
  obtain ⟨F, ho, _⟩ := h
  exact ho.lt
/-- An empty slice that is not nil. -/
theorem OwnF.made (w : World) (B : Nat) (V : Nat → Option Nat) (hB : B ≤ w.heap.size) : OwnF (w.alloc (.cells #[] 26)) B (.slice (some ⟨w.heap.size, 0, none⟩) 0 0) 0 V :=
  ⟨fun _ => 0, World.ownsRow_made w #[] 0 hB (Nat.zero_le _) rfl, fun j hj => absurd hj (by omega)⟩
theorem OwnF.nil (w : World) (B : Nat) (V : Nat → Option Nat) : OwnF w B (.slice none 0 0) 0 V :=
  ⟨fun _ => 0, World.ownsRow_nil w B 26 1, fun j hj => absurd hj (by omega)⟩

/-- 'append' of one float onto what is owned. -/
theorem wpList_app {ops : Array Oper} {rest : List Oper} {o : Oper} {a : Act} {Q : Exit → Act → World → Prop} (W : World) (hgd : o.guard = none) (s x : Operand)
    (ho : o.op = .call { callee := .builtin .append, args := #[s, x], argTypes := #[25, 25] })
    (B : Nat) (v : Value) (n : Nat) (V : Nat → Option Nat) (hs : a.eval s = v) (hown : OwnF W B v n V)
    (r g : Nat) (hx : a.eval x = .slice (some ⟨g, 0, none⟩) 1 1) (hg : W.cell? ⟨g, 0, none⟩ = some (.float .f64 r)) (hn : n ≤ 1048576) (hB : B ≤ W.heap.size)
    (h : ∀ v' w', OwnF w' B v' (n + 1) (fun j => if j = n then cn r else V j) → Below B W w' → wpList Try.prog ops Q rest (a.put o.dst v') w') : wpList Try.prog ops Q (o :: rest) a W := by
  obtain ⟨i0, hi, hz0, hz1, hz2⟩ := info_parts Try.info26
  obtain ⟨F, hrow, hF⟩ := hown
  refine wpList_append_own W hgd s x 25 ho B 26 i0 (.float .f64 0) 1 8 Try.underlying25 hi hz0 hz1 hz2 rfl (by decide) v n (fl F n) hs hrow ⟨g, 0, none⟩ 1 1 [.float .f64 r] hx rfl ?_ ?_ ?_ ?_ hB ?_
  · intro j u hu
    match j, hu with
    | 0, hu =>
      simp at hu
      subst hu
      simpa [Addr.add] using hg
  · intro u hu
    simp at hu
    subst hu
    rfl
  · unfold maxLen; omega
  · omega
  · intro v' w' hrow' hgrow _
    refine h v' w' ⟨fun j => if j = n then r else F j, ?_, fun j hj => ?_⟩ ?_
    · rw [fl_succ, if_pos rfl]
      rw [fl_congr (F := fun j => if j = n then r else F j) (G := F) (fun j hj => if_neg (by omega))]
      exact hrow'
    · dsimp only
      by_cases e : j = n
      · rw [if_pos e, if_pos e]
      · rw [if_neg e, if_neg e]
        exact hF j (by omega)
    · exact (Below.refl B W).grown hgrow hB (fun k hk => (hrow.lt k hk).1)
/-- The same for a region that draws its order. -/
theorem step_app {ops : Array Oper} {o : Oper} {a : Act} {K : Act → World → Prop} {Q : Exit → Act → World → Prop} {E : Prop} (W : World) (hgd : o.guard = none) (s x : Operand)
    (ho : o.op = .call { callee := .builtin .append, args := #[s, x], argTypes := #[25, 25] })
    (B : Nat) (v : Value) (n : Nat) (V : Nat → Option Nat) (hs : a.eval s = v) (hown : OwnF W B v n V)
    (r g : Nat) (hx : a.eval x = .slice (some ⟨g, 0, none⟩) 1 1) (hg : W.cell? ⟨g, 0, none⟩ = some (.float .f64 r)) (hn : n ≤ 1048576) (hB : B ≤ W.heap.size)
    (h : ∀ v' w', OwnF w' B v' (n + 1) (fun j => if j = n then cn r else V j) → Below B W w' → K (a.put o.dst v') w') : if Region.wanted o (yielded ops a.tmps) = true then Oper.wp Try.prog o a W K Q else E := by
  rw [if_pos (by simp [Region.wanted, hgd])]
  obtain ⟨i0, hi, hz0, hz1, hz2⟩ := info_parts Try.info26
  obtain ⟨F, hrow, hF⟩ := hown
  refine wp_append_own W s x 25 ho B 26 i0 (.float .f64 0) 1 8 Try.underlying25 hi hz0 hz1 hz2 rfl (by decide) v n (fl F n) hs hrow ⟨g, 0, none⟩ 1 1 [.float .f64 r] hx rfl ?_ ?_ ?_ ?_ hB ?_
  · intro j u hu
    match j, hu with
    | 0, hu =>
      simp at hu
      subst hu
      simpa [Addr.add] using hg
  · intro u hu
    simp at hu
    subst hu
    rfl
  · unfold maxLen; omega
  · omega
  · intro v' w' hrow' hgrow _
    refine h v' w' ⟨fun j => if j = n then r else F j, ?_, fun j hj => ?_⟩ ?_
    · rw [fl_succ, if_pos rfl]
      rw [fl_congr (F := fun j => if j = n then r else F j) (G := F) (fun j hj => if_neg (by omega))]
      exact hrow'
    · dsimp only
      by_cases e : j = n
      · rw [if_pos e, if_pos e]
      · rw [if_neg e, if_neg e]
        exact hF j (by omega)
    · exact (Below.refl B W).grown hgrow hB (fun k hk => (hrow.lt k hk).1)
/-- What is owned, read by the walks. -/
theorem OwnF.rd {w : World} {B : Nat} {v : Value} {n : Nat} {V : Nat → Option Nat} (h : OwnF w B v n V) : ∃ ao cap F, v = .slice ao n cap ∧ Rd w ao n F ∧ (∀ j, j < n → cn (F j) = V j) := by
  obtain ⟨F, ho, hF⟩ := h
  rcases ho.2 with ⟨rfl, rfl⟩ | ⟨g, cap, cur, rfl, hB, hg, hc, hm, hs, ht⟩
  · exact ⟨none, 0, F, rfl, fun h => absurd h (by omega), hF⟩
  · refine ⟨some ⟨g, 0, none⟩, cap, F, rfl, fun h0 => ⟨g, 0, rfl, (Array.getElem?_eq_some_iff.1 hg).1, fun j hj => ?_⟩, hF⟩
    have hj' : (fl F n)[j]? = some (.float .f64 (F j)) := by simp [fl, hj]
    have := ho.cells (g := g) rfl j _ hj'
    rw [Go.WideShapes.add_plain] at this
    exact this
/-- What is owned, as a row. -/
theorem OwnF.row {w : World} {B : Nat} {v : Value} {n : Nat} {V : Nat → Option Nat} (h : OwnF w B v n V) : (v = .slice none 0 0 ∧ n = 0) ∨
    ∃ (g cap : Nat) (F : Nat → Nat) (G : Nat → Value), v = .slice (some ⟨g, 0, none⟩) n cap ∧ B ≤ g ∧ n ≤ cap ∧ cap ≤ maxLen ∧ w.rowIs g 26 cap G ∧ (∀ j, j < n → G j = .float .f64 (F j)) ∧ (∀ j, j < n → cn (F j) = V j) := by
  obtain ⟨F, ho, hF⟩ := h
  rcases ho.2 with hn | ⟨g, cap, cur, rfl, hB, hg, hc, hm, hs, ht⟩
  · exact .inl hn
  · rw [Nat.mul_one] at hs ht
    refine .inr ⟨g, cap, F, fun i => cur[i]?.getD undef, rfl, hB, hc, hm, ⟨cur, hg, hs, fun i hi => ?_⟩, fun j hj => ?_, hF⟩
    · have : i < cur.size := by omega
      simp [this]
    · have hj' : (fl F n)[j]? = some (.float .f64 (F j)) := by simp [fl, hj]
      rw [← ht, List.getElem?_take, if_pos hj, Array.getElem?_toList] at hj'
      simp [hj']
/-- The cells of what is owned. -/
theorem OwnF.cells {w : World} {B : Nat} {v : Value} {n : Nat} {V : Nat → Option Nat} (h : OwnF w B v n V) (hn : 1 ≤ n) : ∃ (g cap : Nat) (F : Nat → Nat), v = .slice (some ⟨g, 0, none⟩) n cap ∧ g < w.heap.size ∧
    (∀ j, j < n → w.cell? ⟨g, j, none⟩ = some (.float .f64 (F j))) ∧ (∀ j, j < n → cn (F j) = V j) := by
  rcases h.row with ⟨_, h0⟩ | ⟨g, cap, F, G, hv, _, hc, _, hrow, hG, hF⟩
  · omega
  · exact ⟨g, cap, F, hv, hrow.lt, fun j hj => by rw [hrow.cell (by omega), hG j hj], hF⟩
end Go.Proofs.Ytjiogodidicaeaa
