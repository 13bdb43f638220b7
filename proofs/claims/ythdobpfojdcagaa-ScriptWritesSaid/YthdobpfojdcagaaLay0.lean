/-
  An event's bytes, plainly. No program in sight.
-/
import Derived.Test.YthdobpfojdcagaaFold
namespace Go.Proofs.Ythdobpfojdcagaa.Lay0
open Go.Proofs.Ythdobpfojdcagaa.Ev Go.Proofs.Ythdobpfojdcagaa.Fold

/-- A byte of a number. -/
def bX (x : Int) (i : Nat) : Int := x / 2 ^ (8 * i) % 256
/-- A number's so many lowest bytes, the highest first. -/
def putN (x : Int) : Nat → List Int
  | 0 => []
  | z + 1 => bX x z :: putN x z
/-- The bytes of one field. -/
def fld (e : Ev) : Nm → List Int
  | .who => putN e.who 4
  | .port => putN e.port 2
  | .conn => putN e.conn 2
  | .n => putN e.n 2
  | .sort => putN e.s 1
  | .b => putN (e.b.length : Int) 2 ++ e.b
/-- An event's bytes. -/
def layE (e : Ev) : List Int := (e.k - 1) % 256 :: (nms e.k).flatMap (fld e)

theorem bX_bd (x : Int) (i : Nat) : 0 ≤ bX x i ∧ bX x i ≤ 255 := by unfold bX; omega
theorem putN_bd (x : Int) (z : Nat) : ∀ y ∈ putN x z, 0 ≤ y ∧ y ≤ 255 := by
  induction z with
  | zero => intro y hy; cases hy
  | succ z ih =>
    intro y hy
    rcases List.mem_cons.1 hy with rfl | hy
    · exact bX_bd x z
    · exact ih y hy
theorem putN_length (x : Int) (z : Nat) : (putN x z).length = z := by
  induction z with
  | zero => rfl
  | succ z ih => simp [putN, ih]
theorem fld_bd {e : Ev} (h : ∀ y ∈ e.b, 0 ≤ y ∧ y ≤ 255) (m : Nm) : ∀ y ∈ fld e m, 0 ≤ y ∧ y ≤ 255 := by
  cases m
  case b =>
    intro y hy
    rcases List.mem_append.1 hy with hy | hy
    · exact putN_bd _ _ y hy
    · exact h y hy
  all_goals exact putN_bd _ _
theorem layE_bd {e : Ev} (h : ∀ y ∈ e.b, 0 ≤ y ∧ y ≤ 255) : ∀ y ∈ layE e, 0 ≤ y ∧ y ≤ 255 := by
  intro y hy
  rcases List.mem_cons.1 hy with rfl | hy
  · omega
  · rw [List.mem_flatMap] at hy
    obtain ⟨m, _, hm⟩ := hy
    exact fld_bd h m y hm
theorem fld_len (e : Ev) (m : Nm) : (fld e m).length ≤ 4 + e.b.length := by
  cases m <;> simp [fld, putN_length] <;> omega
theorem nms_len (k : Int) : (nms k).length ≤ 3 := by
  unfold nms
  repeat' split
  all_goals simp
theorem flat_len (e : Ev) (l : List Nm) : (l.flatMap (fld e)).length ≤ l.length * (4 + e.b.length) := by
  induction l with
  | nil => simp
  | cons m l ih =>
    rw [List.flatMap_cons, List.length_append, List.length_cons, Nat.add_mul, Nat.one_mul]
    have := fld_len e m
    omega
theorem layE_len (e : Ev) : (layE e).length ≤ 13 + 3 * e.b.length := by
  have h := flat_len e (nms e.k)
  have h1 := nms_len e.k
  have h2 : (nms e.k).length * (4 + e.b.length) ≤ 3 * (4 + e.b.length) := Nat.mul_le_mul_right _ h1
  unfold layE
  rw [List.length_cons]
  omega
theorem layE_pos (e : Ev) : 0 < (layE e).length := by unfold layE; simp

end Go.Proofs.Ythdobpfojdcagaa.Lay0
