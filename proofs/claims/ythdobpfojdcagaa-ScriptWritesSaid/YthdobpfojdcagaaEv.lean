/-
  Bytes as events, plainly: what is read at a place; an event's bytes. No program in sight.
-/
namespace Go.Proofs.Ythdobpfojdcagaa.Ev

/-- An event. -/
structure Ev where
  k : Int
  s : Int
  who : Int
  port : Int
  conn : Int
  n : Int
  b : List Int
  deriving DecidableEq

/-- The byte at a place; 0 behind the end. -/
def byte (bs : List Int) (i : Nat) : Int := bs.getD i 0
/-- A number of so many bytes, the highest first. -/
def num (bs : List Int) (p : Nat) : Nat → Int
  | 0 => 0
  | z + 1 => num bs p z * 256 + byte bs (p + z)
/-- So many bytes. -/
def run (bs : List Int) (p n : Nat) : List Int := (List.range n).map fun i => byte bs (p + i)
def cnt (bs : List Int) (p : Nat) : Nat := (num bs p 2 % 4097).toNat

/-- The event at a place. -/
def evAt (bs : List Int) (p : Nat) : Ev :=
  let k := num bs p 1 % 10 + 1
  if k = 1 ∨ k = 8 then { k, s := 0, who := num bs (p + 1) 4, port := num bs (p + 5) 2, conn := 0, n := 0, b := run bs (p + 9) (cnt bs (p + 7)) }
  else if k = 2 then { k, s := num bs (p + 1) 1 % 4, who := num bs (p + 2) 4, port := 0, conn := 0, n := 0, b := [] }
  else if k = 3 then { k, s := 0, who := 0, port := 0, conn := num bs (p + 1) 2, n := 0, b := run bs (p + 5) (cnt bs (p + 3)) }
  else if k = 4 then { k, s := 0, who := 0, port := 0, conn := num bs (p + 1) 2, n := 0, b := [] }
  else if k = 5 then { k, s := 0, who := 0, port := 0, conn := num bs (p + 1) 2, n := num bs (p + 3) 2, b := [] }
  else if k = 6 ∨ k = 7 then { k, s := 0, who := 0, port := 0, conn := 0, n := num bs (p + 1) 2, b := [] }
  else if k = 9 then { k, s := 0, who := 0, port := 0, conn := 0, n := num bs (p + 1) 2, b := run bs (p + 5) (cnt bs (p + 3)) }
  else { k, s := 0, who := 0, port := 0, conn := 0, n := 0, b := [] }
/-- How many bytes it takes. -/
def evLen (bs : List Int) (p : Nat) : Nat :=
  let k := num bs p 1 % 10 + 1
  if k = 1 ∨ k = 8 then 9 + cnt bs (p + 7)
  else if k = 2 then 6
  else if k = 3 then 5 + cnt bs (p + 3)
  else if k = 4 then 3
  else if k = 5 then 5
  else if k = 6 ∨ k = 7 then 3
  else if k = 9 then 5 + cnt bs (p + 3)
  else 1
/-- The events from a place on, at most so many. -/
def evsF (bs : List Int) : Nat → Nat → List Ev
  | 0, _ => []
  | f + 1, p => if p < bs.length then evAt bs p :: evsF bs f (p + evLen bs p) else []
def evs (bs : List Int) : List Ev := evsF bs 4096 0

theorem byte_bd {bs : List Int} (h : ∀ x ∈ bs, 0 ≤ x ∧ x ≤ 255) (i : Nat) : 0 ≤ byte bs i ∧ byte bs i ≤ 255 := by
  unfold byte
  rw [List.getD_eq_getElem?_getD]
  cases e : bs[i]? with
  | none => simp
  | some x => exact h x (List.mem_of_getElem? e)
theorem num_bd {bs : List Int} (h : ∀ x ∈ bs, 0 ≤ x ∧ x ≤ 255) (p z : Nat) : 0 ≤ num bs p z ∧ num bs p z < 256 ^ z := by
  induction z with
  | zero => simp [num]
  | succ z ih =>
    have := byte_bd h (p + z)
    unfold num
    rw [Int.pow_succ]
    omega
/-- Behind the end all is 0, from wherever one counts. -/
theorem byte_min (bs : List Int) (p i : Nat) : byte bs (min p bs.length + i) = byte bs (p + i) := by
  unfold byte
  by_cases h : p ≤ bs.length
  · rw [Nat.min_eq_left h]
  · rw [Nat.min_eq_right (by omega), List.getD_eq_getElem?_getD, List.getD_eq_getElem?_getD, List.getElem?_eq_none (by omega), List.getElem?_eq_none (by omega)]
theorem num_min (bs : List Int) (p z : Nat) : num bs (min p bs.length) z = num bs p z := by
  induction z with
  | zero => rfl
  | succ z ih => unfold num; rw [ih, byte_min]

end Go.Proofs.Ythdobpfojdcagaa.Ev
