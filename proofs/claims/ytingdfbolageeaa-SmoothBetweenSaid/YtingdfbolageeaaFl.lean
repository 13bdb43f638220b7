/-
  Floats' contracts: NaN's test, Abs, the edges, and what an operation gives when it is no number: any NaN that the tape names.
-/
import Derived.Test.YtingdfbolageeaaChecked
import Derived.Tactics
import Derived.Tactics2
import Derived.StillTactics
import Derived.WalkKit
import Derived.WalkLawsBesides
import Derived.KernelRfl
import Derived.Laws.StandIn
import Derived.Laws.NewFold
import Derived.Deep.Draws
set_option linter.unusedVariables false
namespace Go.Proofs.Ytingdfbolageeaa.Fl

/-- Is it NaN, by its test? -/
def isN (x : Nat) : Bool := FloatKind.f64.format.order x x != some .eq
def ltF (x y : Nat) : Bool := FloatKind.f64.format.order x y == some .lt
def eqF (x y : Nat) : Bool := FloatKind.f64.format.order x y == some .eq
def gtF (x y : Nat) : Bool := FloatKind.f64.format.order x y == some .gt
def absF (x : Nat) : Nat := (bits .andNot .u64 (x : Int) 9223372036854775808).toNat

/-- What an operation's result may be. -/
def Is (op : BinOp) (x y r : Nat) : Prop := floatBits op .f64 x y = some r ∨ (floatBits op .f64 x y = none ∧ isN r = true)

theorem isN_decode (x : Nat) : isN x = (FloatKind.f64.format.read x).isNaN := by
  unfold isN Ieee.Format.order
  cases h : FloatKind.f64.format.read x with
  | nan s f => rfl
  | infinity s => cases s <;> rfl
  | number s m i =>
    simp only [Ieee.Datum.order, Ieee.Datum.isNaN]
    have : ∀ a : Int, compare a a = .eq := fun a => by simp
    rw [this]; rfl

theorem nan_cut (t x y : Nat) : isN ((Question.nanBits .f64 x y).cut t) = true := by
  rw [isN_decode]
  simp only [Question.cut]
  have hq : t / 2 % (2 ^ 52 - 1) < 2 ^ 52 - 1 := Nat.mod_lt _ (by decide)
  generalize t / 2 % (2 ^ 52 - 1) = q at hq
  have h2 : t % 2 < 2 := Nat.mod_lt _ (by decide)
  generalize t % 2 = s at h2
  have e1 : (s * 2 ^ 63 + 0x7ff0000000000000 + 1 + q) % 2 ^ 63 = 0x7ff0000000000000 + 1 + q := by omega
  show (FloatKind.f64.format.read _).isNaN = true
  have es : FloatKind.f64.format.signWeight = 2 ^ 63 := rfl
  have eb : FloatKind.f64.format.binade = 2 ^ 52 := rfl
  have ei : FloatKind.f64.format.infRung = 0x7ff0000000000000 := rfl
  unfold Ieee.Format.read
  simp only [es, eb, ei, e1]
  rw [if_neg (by omega), if_neg (by omega), if_neg (by omega)]
  rfl

/-- What an operation gives in a world, and how often it asks. -/
def opV (op : BinOp) (x y : Nat) (w : World) : Nat :=
  match floatBits op .f64 x y with
  | some r => r
  | none => (Question.nanBits .f64 x y).cut (w.tape w.drawn (.nanBits .f64 x y))
def opN (op : BinOp) (x y : Nat) : Nat := if (floatBits op .f64 x y).isSome then 0 else 1

theorem opV_is (op : BinOp) (x y : Nat) (w : World) : Is op x y (opV op x y w) := by
  unfold opV
  cases h : floatBits op .f64 x y with
  | some r => exact .inl h
  | none => exact .inr ⟨h, nan_cut _ _ _⟩

/-- THE LAW OF AN OPERATION. -/
theorem run_op (P : Program) (op : BinOp) (t : TypeId) (x y : Nat) (w : World) (ho : op = .add ∨ op = .sub ∨ op = .mul) :
    (binOp op t (.float .f64 x) (.float .f64 y)).run P w = .ok (.float .f64 (opV op x y w)) (w.drewN (opN op x y)) := by
  unfold opV opN
  cases h : floatBits op .f64 x y with
  | some r => exact run_float_arith w op t .f64 x y r h
  | none =>
    unfold floatBits at h
    rcases ho with rfl | rfl | rfl <;> simp only at h <;> simp [binOp, Op.floatArith, h, Question.forced, World.drewN]
theorem run_add (P : Program) (t : TypeId) (x y : Nat) (w : World) : (binOp .add t (.float .f64 x) (.float .f64 y)).run P w = .ok (.float .f64 (opV .add x y w)) (w.drewN (opN .add x y)) := run_op P _ t x y w (.inl rfl)
theorem run_sub (P : Program) (t : TypeId) (x y : Nat) (w : World) : (binOp .sub t (.float .f64 x) (.float .f64 y)).run P w = .ok (.float .f64 (opV .sub x y w)) (w.drewN (opN .sub x y)) := run_op P _ t x y w (.inr (.inl rfl))
theorem run_mul (P : Program) (t : TypeId) (x y : Nat) (w : World) : (binOp .mul t (.float .f64 x) (.float .f64 y)).run P w = .ok (.float .f64 (opV .mul x y w)) (w.drewN (opN .mul x y)) := run_op P _ t x y w (.inr (.inr rfl))

/-- An operation on NaN gives NaN. -/
theorem none_of_nan {op : BinOp} (ho : op = .add ∨ op = .sub ∨ op = .mul) {x y : Nat} (h : isN x = true ∨ isN y = true) : floatBits op .f64 x y = none := by
  rw [isN_decode, isN_decode] at h
  rcases ho with rfl | rfl | rfl
  all_goals
    simp only [floatBits, Ieee.Format.add, Ieee.Format.sub, Ieee.Format.mul]
    cases hx : FloatKind.f64.format.read x <;> cases hy : FloatKind.f64.format.read y <;> rw [hx, hy] at h <;> simp [Ieee.Datum.isNaN] at h <;> rfl

/-- The mean where no operation fails. -/
def mid (old now part : Nat) : Option Nat := (floatBits .sub .f64 now old).bind fun d => (floatBits .mul .f64 part d).bind fun s => floatBits .add .f64 old s
def meanF (old now part : Nat) : Nat :=
  if isN old = true then now else if isN now = true then old else
  match mid old now part with
  | some m => if isN m = true then now else m
  | none => now

theorem mean_of {old now part d s m : Nat} (ho : isN old = false) (hn : isN now = false) (hd : Is .sub now old d) (hs : Is .mul part d s) (hm : Is .add old s m) :
    meanF old now part = if isN m = true then now else m := by
  unfold meanF mid
  rw [if_neg (by simp [ho]), if_neg (by simp [hn])]
  rcases hd with hd | ⟨hd, nd⟩
  · rcases hs with hs | ⟨hs, ns⟩
    · rcases hm with hm | ⟨hm, nm⟩
      · simp [hd, hs, hm]
      · simp [hd, hs, hm, nm]
    · rcases hm with hm | ⟨hm, nm⟩
      · rw [none_of_nan (.inl rfl) (.inr ns)] at hm; cases hm
      · simp [hd, hs, nm]
  · have e1 : floatBits .mul .f64 part d = none := none_of_nan (.inr (.inr rfl)) (.inr nd)
    rcases hs with hs | ⟨hs, ns⟩
    · rw [e1] at hs; cases hs
    · rcases hm with hm | ⟨hm, nm⟩
      · rw [none_of_nan (.inl rfl) (.inr ns)] at hm; cases hm
      · simp [hd, nm]

/-- Spread: what it may be. -/
def SpreadIs (old mean now part r : Nat) : Prop := ∃ d, Is .sub now mean d ∧ r = meanF old (absF d) part

end Go.Proofs.Ytingdfbolageeaa.Fl
