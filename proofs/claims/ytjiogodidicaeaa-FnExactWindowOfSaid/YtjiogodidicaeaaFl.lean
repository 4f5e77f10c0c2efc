/-
  Plain facts on the model's floating-point words up to NaN: two words are held against one another by 'cn' (a NaN's bits are lost, every other word stays), the four operations as functions on such words, and the walk's laws for them: whatever bits a NaN is given, the result reads the same.
-/
import Derived.WalkKit
import Derived.WalkLawsBesides
import Derived.Deep.Draws
import Derived.Laws.ComplexArith
import Derived.Deep.QuietTactic
import Derived.BigQuiet
import Derived.Deep.RegionWith
import Derived.Deep.LoopGhost
import Derived.Deep.DeepCutAuto
import Derived.Deep.DeepMust
import Derived.Deep.RegionLaw
import Derived.Deep.OwnRows
namespace Go.Proofs.Ytjiogodidicaeaa
open Go.RowKit

theorem hid {p : Prop} (h : p) : Hid p := h

/-- A word that is a NaN. -/
def nanB (x : Nat) : Bool := (Ieee.double.read x).isNaN
/-- A word up to the bits of a NaN. -/
def cn (x : Nat) : Option Nat := if nanB x then none else some x

theorem cn_some {x y : Nat} (h : cn x = some y) : x = y ∧ nanB x = false := by
  unfold cn at h
  split at h
  · cases h
  · rename_i hn
    exact ⟨Option.some.inj h, by simpa using hn⟩
theorem cn_none {x : Nat} (h : cn x = none) : nanB x = true := by
  unfold cn at h
  split at h
  · assumption
  · cases h
theorem cn_of {x : Nat} (h : nanB x = false) : cn x = some x := by simp [cn, h]

theorem word_mod (f : Ieee.Format) (neg : Bool) {r : Nat} (h : r < f.signWeight) : f.word neg r % f.signWeight = r := by
  unfold Ieee.Format.word
  split
  · rw [Nat.add_mod_left, Nat.mod_eq_of_lt h]
  · exact Nat.mod_eq_of_lt h

theorem read_not_nan (f : Ieee.Format) (x : Nat) (h : x % f.signWeight ≤ f.infRung) : (f.read x).isNaN = false := by
  unfold Ieee.Format.read
  dsimp only
  split
  · rfl
  · split
    · rfl
    · split
      · rfl
      · omega

/-- What is written of a number or an infinity is no NaN. -/
theorem write_not_nan (f : Ieee.Format) (d : Ieee.Datum) (h : d.isNaN = false) : (f.read (f.write d)).isNaN = false := by
  have hi := f.infRung_lt
  apply read_not_nan
  cases d with
  | nan => simp [Ieee.Datum.isNaN] at h
  | infinity s => simp only [Ieee.Format.write]; rw [word_mod f s hi]; exact Nat.le_refl _
  | number s m p =>
    simp only [Ieee.Format.write, Ieee.Format.nearest]
    split
    · rw [word_mod f s (by omega)]; omega
    · rw [word_mod f s (by have := Nat.min_le_right ((max (p + ↑m.log2 - ↑f.fractionBits) f.leastPlace - f.leastPlace).toNat * f.binade + Ieee.Toward.even.cut s (m <<< (p - max (p + ↑m.log2 - ↑f.fractionBits) f.leastPlace).toNat) (max (p + ↑m.log2 - ↑f.fractionBits) f.leastPlace - p).toNat) f.infRung; omega)]
      exact Nat.min_le_right _ _

theorem sum_nn {a b c : Ieee.Datum} (h : a.sum b = some c) : a.isNaN = false ∧ b.isNaN = false ∧ c.isNaN = false := by
  cases a <;> cases b <;> simp [Ieee.Datum.sum] at h <;> first | (obtain ⟨_, rfl⟩ := h; exact ⟨rfl, rfl, rfl⟩) | (subst h; exact ⟨rfl, rfl, rfl⟩)
theorem product_nn {a b c : Ieee.Datum} (h : a.product b = some c) : a.isNaN = false ∧ b.isNaN = false ∧ c.isNaN = false := by
  cases a <;> cases b <;> simp [Ieee.Datum.product] at h <;> first | (obtain ⟨_, rfl⟩ := h; exact ⟨rfl, rfl, rfl⟩) | (subst h; exact ⟨rfl, rfl, rfl⟩)
theorem quotient_nn {n : Nat} {a b c : Ieee.Datum} (h : a.quotient n b = some c) : a.isNaN = false ∧ b.isNaN = false ∧ c.isNaN = false := by
  cases a <;> cases b <;> simp [Ieee.Datum.quotient] at h
  case number.number =>
    split at h
    · split at h
      · cases h
      · cases h; exact ⟨rfl, rfl, rfl⟩
    · cases h; exact ⟨rfl, rfl, rfl⟩
  all_goals first | (obtain ⟨_, rfl⟩ := h; exact ⟨rfl, rfl, rfl⟩) | (subst h; exact ⟨rfl, rfl, rfl⟩)
theorem root_nn {n : Nat} {a c : Ieee.Datum} (h : a.root n = some c) : a.isNaN = false ∧ c.isNaN = false := by
  cases a with
  | nan => simp [Ieee.Datum.root] at h
  | infinity s => simp [Ieee.Datum.root] at h; obtain ⟨_, rfl⟩ := h; exact ⟨rfl, rfl⟩
  | number s m p =>
    simp only [Ieee.Datum.root] at h
    split at h
    · cases h; exact ⟨rfl, rfl⟩
    · split at h
      · cases h
      · cases h; exact ⟨rfl, rfl⟩

theorem opp_nan (a : Ieee.Datum) : a.opposite.isNaN = a.isNaN := by cases a <;> rfl

/-- An operation that gives a word has no NaN about it. -/
theorem floatBits_nn {op : BinOp} {x y r : Nat} (h : floatBits op .f64 x y = some r) : nanB x = false ∧ nanB y = false ∧ nanB r = false := by
  unfold floatBits at h
  have key : ∀ {d : Option Ieee.Datum} {a b : Ieee.Datum}, (∀ c, d = some c → a.isNaN = false ∧ b.isNaN = false ∧ c.isNaN = false) → d.map Ieee.double.write = some r → a.isNaN = false ∧ b.isNaN = false ∧ nanB r = false := by
    intro d a b hd hm
    obtain ⟨c, hc, rfl⟩ := Option.map_eq_some_iff.1 hm
    obtain ⟨h1, h2, h3⟩ := hd c hc
    exact ⟨h1, h2, write_not_nan _ _ h3⟩
  split at h
  · exact key (fun c hc => sum_nn hc) h
  · obtain ⟨h1, h2, h3⟩ := key (fun c hc => sum_nn hc) h
    exact ⟨h1, by rw [opp_nan] at h2; exact h2, h3⟩
  · exact key (fun c hc => product_nn hc) h
  · exact key (fun c hc => quotient_nn hc) h
  · cases h

/-- The four operations on words up to NaN. -/
def vop (op : BinOp) : Option Nat → Option Nat → Option Nat
  | some x, some y => floatBits op .f64 x y
  | _, _ => none
theorem vop_cn (op : BinOp) (x y : Nat) : vop op (cn x) (cn y) = floatBits op .f64 x y := by
  cases h : floatBits op .f64 x y with
  | some r =>
    obtain ⟨h1, h2, _⟩ := floatBits_nn h
    rw [cn_of h1, cn_of h2]; exact h
  | none =>
    cases hx : cn x with
    | none => rfl
    | some a =>
      cases hy : cn y with
      | none => rfl
      | some b =>
        obtain ⟨rfl, _⟩ := cn_some hx
        obtain ⟨rfl, _⟩ := cn_some hy
        exact h

/-- How two words up to NaN stand to each other. -/
def ordV : Option Nat → Option Nat → Option Ordering
  | some x, some y => FloatKind.f64.format.order x y
  | _, _ => none
theorem order_nan {x y : Nat} (h : nanB x = true ∨ nanB y = true) : FloatKind.f64.format.order x y = none := by
  have key : ∀ a b : Ieee.Datum, a.isNaN = true ∨ b.isNaN = true → a.order b = none := by
    intro a b h
    cases a <;> cases b <;> simp [Ieee.Datum.isNaN] at h <;> rfl
  exact key _ _ h
theorem ord_cn (x y : Nat) : FloatKind.f64.format.order x y = ordV (cn x) (cn y) := by
  cases hx : cn x with
  | none => exact order_nan (.inl (cn_none hx))
  | some a =>
    cases hy : cn y with
    | none => exact order_nan (.inr (cn_none hy))
    | some b =>
      obtain ⟨rfl, _⟩ := cn_some hx
      obtain ⟨rfl, _⟩ := cn_some hy
      rfl
theorem order_congr {x x' y y' : Nat} (hx : cn x = cn x') (hy : cn y = cn y') : FloatKind.f64.format.order x y = FloatKind.f64.format.order x' y' := by
  rw [ord_cn, ord_cn, hx, hy]
theorem order_self {x : Nat} (h : nanB x = false) : FloatKind.f64.format.order x x = some .eq := by
  have key : ∀ a : Ieee.Datum, a.isNaN = false → a.order a = some .eq := by
    intro a h
    cases a with
    | nan => simp [Ieee.Datum.isNaN] at h
    | infinity s => simp [Ieee.Datum.order]
    | number s m p => simp [Ieee.Datum.order]
  exact key _ h

/-- The tape's answer for a NaN is a NaN. -/
theorem drawn_nan (x y t : Nat) : nanB ((Question.nanBits .f64 x y).cut t) = true := by
  have hs : Ieee.double.signWeight = 9223372036854775808 := by decide
  have hi : Ieee.double.infRung = 9218868437227405312 := by decide
  have hb : Ieee.double.binade = 4503599627370496 := by decide
  have h1 : (t / 2) % 4503599627370495 < 4503599627370495 := Nat.mod_lt _ (by decide)
  have h2 : (t % 2) < 2 := Nat.mod_lt _ (by decide)
  have hc : (Question.nanBits .f64 x y).cut t = (t % 2) * 9223372036854775808 + 9218868437227405312 + 1 + (t / 2) % 4503599627370495 := rfl
  rw [hc]
  unfold nanB Ieee.Format.read
  rw [hs, hi, hb]
  dsimp only
  have hm : ((t % 2) * 9223372036854775808 + 9218868437227405312 + 1 + (t / 2) % 4503599627370495) % 9223372036854775808 = 9218868437227405312 + 1 + (t / 2) % 4503599627370495 := by omega
  rw [hm, if_neg (by omega), if_neg (by omega), if_neg (by omega)]
  rfl

section
variable {P : Program} (w : World)
/-- '+', '-', '*', '/' on two words: some word comes, and up to NaN it is the operation's; at most one draw. -/
theorem run_fop (op : BinOp) (hop : op = .add ∨ op = .sub ∨ op = .mul ∨ op = .quo) (x y : Nat) :
    ∃ r n, (Op.floatArith op .f64 x y).run P w = .ok (.float .f64 r) (w.drewN n) ∧ cn r = vop op (cn x) (cn y) := by
  cases h : floatBits op .f64 x y with
  | some r =>
    refine ⟨r, 0, run_floatArith w h, ?_⟩
    rw [vop_cn, h, cn_of (floatBits_nn h).2.2]
  | none =>
    refine ⟨(Question.nanBits .f64 x y).cut (w.tape w.drawn (.nanBits .f64 x y)), 1, ?_, ?_⟩
    · rcases hop with rfl | rfl | rfl | rfl <;> simp only [floatBits] at h <;> simp [Op.floatArith, h, Question.forced, World.drew_is_drewN]
    · rw [vop_cn, h]
      simp [cn, drawn_nan]

/-- The word that an operation gives in a world, and how often it draws. -/
def fres (op : BinOp) (x y : Nat) (w : World) : Nat := (floatBits op .f64 x y).getD ((Question.nanBits .f64 x y).cut (w.tape w.drawn (.nanBits .f64 x y)))
def fdr (op : BinOp) (x y : Nat) : Nat := if (floatBits op .f64 x y).isSome then 0 else 1
theorem fres_cn (op : BinOp) (x y : Nat) (w : World) : cn (fres op x y w) = vop op (cn x) (cn y) := by
  unfold fres
  cases h : floatBits op .f64 x y with
  | some r => rw [vop_cn, h, Option.getD_some, cn_of (floatBits_nn h).2.2]
  | none => rw [vop_cn, h, Option.getD_none]; simp [cn, drawn_nan]
theorem run_fres (op : BinOp) (hop : op = .add ∨ op = .sub ∨ op = .mul ∨ op = .quo) (t : TypeId) (x y : Nat) :
    (binOp op t (.float .f64 x) (.float .f64 y)).run P w = .ok (.float .f64 (fres op x y w)) (w.drewN (fdr op x y)) := by
  have hb : binOp op t (.float .f64 x) (.float .f64 y) = Op.floatArith op .f64 x y := by
    rcases hop with rfl | rfl | rfl | rfl <;> rfl
  rw [hb]
  unfold fres fdr
  cases h : floatBits op .f64 x y with
  | some r => simpa [World.drewN_zero] using run_floatArith w h
  | none => rcases hop with rfl | rfl | rfl | rfl <;> simp only [floatBits] at h <;> simp [Op.floatArith, h, Question.forced, World.drew_is_drewN]
@[go_sem] theorem run_fadd (t : TypeId) (x y : Nat) : (binOp .add t (.float .f64 x) (.float .f64 y)).run P w = .ok (.float .f64 (fres .add x y w)) (w.drewN (fdr .add x y)) := run_fres w .add (.inl rfl) t x y
@[go_sem] theorem run_fsub (t : TypeId) (x y : Nat) : (binOp .sub t (.float .f64 x) (.float .f64 y)).run P w = .ok (.float .f64 (fres .sub x y w)) (w.drewN (fdr .sub x y)) := run_fres w .sub (.inr (.inl rfl)) t x y
@[go_sem] theorem run_fmul (t : TypeId) (x y : Nat) : (binOp .mul t (.float .f64 x) (.float .f64 y)).run P w = .ok (.float .f64 (fres .mul x y w)) (w.drewN (fdr .mul x y)) := run_fres w .mul (.inr (.inr (.inl rfl))) t x y
@[go_sem] theorem run_fquo (t : TypeId) (x y : Nat) : (binOp .quo t (.float .f64 x) (.float .f64 y)).run P w = .ok (.float .f64 (fres .quo x y w)) (w.drewN (fdr .quo x y)) := run_fres w .quo (.inr (.inr (.inr rfl))) t x y

/-- The walk's law: an operation on two floats, whatever comes. -/
theorem wpList_fop {ops : Array Oper} {rest : List Oper} {o : Oper} {a : Act} {Q : Exit → Act → World → Prop} (hw : Region.wanted o (yielded ops a.tmps) = true)
    (op : BinOp) (t t' : TypeId) (x y : Operand) (ho : o.op = .binOp op t x y t') (hop : op = .add ∨ op = .sub ∨ op = .mul ∨ op = .quo)
    (b c : Nat) (hx : a.eval x = .float .f64 b) (hy : a.eval y = .float .f64 c)
    (h : ∀ r n, cn r = vop op (cn b) (cn c) → wpList P ops Q rest (a.put o.dst (.float .f64 r)) (w.drewN n)) : wpList P ops Q (o :: rest) a w := by
  refine BigFrame.wpList_want hw fun K hK => ?_
  obtain ⟨r, n, hr, hc⟩ := run_fop (P := P) w op hop b c
  unfold Oper.wp execOp
  rw [ho]
  simp only [hx, hy]
  have hg : eqGuard op t x y (.float .f64 b) (.float .f64 c) = pure () := by
    rcases hop with rfl | rfl | rfl | rfl <;> rfl
  rw [hg]
  have hb : binOp op t (.float .f64 b) (.float .f64 c) = Op.floatArith op .f64 b c := by
    rcases hop with rfl | rfl | rfl | rfl <;> rfl
  rw [hb]
  simp only [Sem.run_bind, Sem.run_pure, Result.andThen_ok, hr]
  exact hK _ _ (h r n hc)
end
end Go.Proofs.Ytjiogodidicaeaa
