/-
  What a float of 64 bits stands for, in whole units of its least place: the value of a rung, of a word; its order; its ceiling; its integer. No program in sight.
-/
import Derived.Test.YtingdfbolageeaaFl
set_option linter.unusedVariables false
namespace Go.Proofs.Ytingdfbolageeaa.Val
open Go.Proofs.Ytingdfbolageeaa.Fl Ieee

abbrev F : Format := FloatKind.f64.format
/-- A rung's value, in units of 2^-1074. -/
def rv (r : Nat) : Nat := if r < 2 ^ 52 then r else (2 ^ 52 + r % 2 ^ 52) * 2 ^ (r / 2 ^ 52 - 1)
def sg (x : Nat) : Bool := x / 2 ^ 63 % 2 == 1
def rg (x : Nat) : Nat := x % 2 ^ 63
def E (x : Nat) : Int := if sg x then -(rv (rg x) : Int) else (rv (rg x) : Int)
/-- One, in units. -/
def K : Nat := 2 ^ 1074

theorem read_eq (x : Nat) : F.read x =
    if rg x < 2 ^ 52 then .number (sg x) (rg x) (-1074)
    else if rg x < 0x7ff0000000000000 then .number (sg x) (2 ^ 52 + rg x % 2 ^ 52) (-1074 + (rg x / 2 ^ 52 - 1 : Nat))
    else if rg x = 0x7ff0000000000000 then .infinity (sg x) else .nan (sg x) (rg x - 0x7ff0000000000000) := rfl

theorem isN_rg (x : Nat) : isN x = decide (0x7ff0000000000000 < rg x) := by
  rw [isN_decode]
  show (F.read x).isNaN = _
  rw [read_eq]
  split
  · rename_i h; simp only [Datum.isNaN]; symm; simp; omega
  · split
    · rename_i h; simp only [Datum.isNaN]; symm; simp; omega
    · split
      · rename_i h; simp only [Datum.isNaN]; symm; simp; omega
      · simp only [Datum.isNaN]; symm; simp; omega

theorem rv_small {r : Nat} (h : r < 2 ^ 52) : rv r = r := by unfold rv; rw [if_pos h]
theorem rv_big {r : Nat} (h : ¬ r < 2 ^ 52) : rv r = (2 ^ 52 + r % 2 ^ 52) * 2 ^ (r / 2 ^ 52 - 1) := by unfold rv; rw [if_neg h]

/-- The next rung is greater. -/
theorem rv_succ (r : Nat) : rv r < rv (r + 1) := by
  by_cases h : r + 1 < 2 ^ 52
  · rw [rv_small h, rv_small (by omega)]; omega
  · by_cases h' : r < 2 ^ 52
    · have : r = 2 ^ 52 - 1 := by omega
      subst this; decide
    · rw [rv_big h, rv_big h']
      by_cases hc : (r + 1) % 2 ^ 52 = 0
      · have e1 : (r + 1) / 2 ^ 52 = r / 2 ^ 52 + 1 := by omega
        have e2 : r % 2 ^ 52 = 2 ^ 52 - 1 := by omega
        have e3 : 1 ≤ r / 2 ^ 52 := by omega
        have ep : 2 ^ (r / 2 ^ 52 + 1 - 1) = 2 ^ (r / 2 ^ 52 - 1) * 2 := by rw [← Nat.pow_succ, show r / 2 ^ 52 + 1 - 1 = (r / 2 ^ 52 - 1).succ by omega]
        rw [hc, e1, e2, ep]
        generalize hz : (2 : Nat) ^ (r / 2 ^ 52 - 1) = z
        have hp : 0 < z := by rw [← hz]; exact Nat.two_pow_pos _
        omega
      · have e1 : (r + 1) / 2 ^ 52 = r / 2 ^ 52 := by omega
        have e2 : (r + 1) % 2 ^ 52 = r % 2 ^ 52 + 1 := by omega
        rw [e1, e2, ← Nat.add_assoc]
        exact Nat.mul_lt_mul_of_pos_right (by omega) (Nat.two_pow_pos _)
theorem rv_lt {a b : Nat} (h : a < b) : rv a < rv b := by
  induction b with
  | zero => omega
  | succ b ih =>
    by_cases e : a = b
    · subst e; exact rv_succ a
    · exact Nat.lt_trans (ih (by omega)) (rv_succ b)
theorem rv_le {a b : Nat} (h : a ≤ b) : rv a ≤ rv b := by
  by_cases e : a = b
  · subst e; exact Nat.le_refl _
  · exact Nat.le_of_lt (rv_lt (by omega))
theorem rv_zero {r : Nat} : rv r = 0 ↔ r = 0 := by
  constructor
  · intro h
    by_cases e : r = 0
    · exact e
    · have := rv_lt (a := 0) (b := r) (by omega); omega
  · intro h; subst h; rfl

def cmpZ (a b : Int) : Ordering := if a < b then .lt else if a = b then .eq else .gt
theorem compare_eq (a b : Int) : compare a b = cmpZ a b := rfl
theorem cmp_mul {a b : Int} {z : Int} (hz : 0 < z) : cmpZ (a * z) (b * z) = cmpZ a b := by
  unfold cmpZ
  have h1 : a * z < b * z ↔ a < b := ⟨fun h => Int.lt_of_mul_lt_mul_right h (Int.le_of_lt hz), fun h => Int.mul_lt_mul_of_pos_right h hz⟩
  have h2 : a * z = b * z ↔ a = b := ⟨fun h => Int.eq_of_mul_eq_mul_right (by omega) h, fun h => by rw [h]⟩
  simp only [h1, h2]

theorem shl (m k : Nat) : m <<< k = m * 2 ^ k := Nat.shiftLeft_eq m k
/-- A number's units. -/
def units (neg : Bool) (m : Nat) (i : Int) : Int := signed neg m (i + 1074).toNat
theorem signed_eq (neg : Bool) (m k : Nat) : signed neg m k = (if neg then -(m : Int) else (m : Int)) * (2 : Int) ^ k := by
  unfold signed; rw [shl]
  cases neg <;> simp [Int.natCast_mul, Int.natCast_pow, Int.neg_mul]

theorem read_units (x : Nat) (s : Bool) (m : Nat) (i : Int) (h : F.read x = .number s m i) : -1074 ≤ i ∧ units s m i = E x ∧ s = sg x ∧ rg x < 0x7ff0000000000000 := by
  rw [read_eq] at h
  split at h
  · rename_i hr
    injection h with h1 h2 h3
    subst h1 h2 h3
    refine ⟨by omega, ?_, rfl, by omega⟩
    unfold units E; rw [signed_eq, rv_small hr]
    simp
  · split at h
    · rename_i hr hr2
      injection h with h1 h2 h3
      subst h1 h2 h3
      refine ⟨by omega, ?_, rfl, hr2⟩
      unfold units E; rw [signed_eq, rv_big hr]
      have e : (-1074 + ((rg x / 2 ^ 52 - 1 : Nat) : Int) + 1074).toNat = rg x / 2 ^ 52 - 1 := by omega
      rw [e]
      cases sg x <;> simp [Int.natCast_mul, Int.natCast_pow, Int.neg_mul]
    · split at h <;> cases h

theorem read_inf (x : Nat) (s : Bool) (h : F.read x = .infinity s) : s = sg x ∧ rg x = 0x7ff0000000000000 := by
  rw [read_eq] at h
  split at h
  · cases h
  · split at h
    · cases h
    · split at h
      · injection h with h1; exact ⟨h1.symm, by assumption⟩
      · cases h

theorem signed_base (s : Bool) (m : Nat) {i b : Int} (h : b ≤ i) (hb : -1074 ≤ b) : signed s m (i - b).toNat * (2 : Int) ^ (b + 1074).toNat = units s m i := by
  unfold units; rw [signed_eq, signed_eq, Int.mul_assoc, ← Int.pow_add]
  congr 2; omega

/-- THE ORDER IS THE VALUES'. -/
theorem order_E {x y : Nat} (hx : isN x = false) (hy : isN y = false) : F.order x y = some (cmpZ (E x) (E y)) := by
  have hfin : ∀ z, rg z < 0x7ff0000000000000 → -(rv 0x7ff0000000000000 : Int) < E z ∧ E z < (rv 0x7ff0000000000000 : Int) := by
    intro z hz
    have := rv_lt hz
    unfold E; split <;> omega
  have hinf : ∀ z, rg z = 0x7ff0000000000000 → E z = if sg z then -(rv 0x7ff0000000000000 : Int) else (rv 0x7ff0000000000000 : Int) := by
    intro z hz; unfold E; rw [hz]
  have hpos : (0 : Int) < (rv 0x7ff0000000000000 : Int) := by
    have := rv_lt (a := 0) (b := 0x7ff0000000000000) (by omega); omega
  rw [isN_decode] at hx hy
  unfold Format.order
  cases ex : F.read x with
  | nan s f => rw [show FloatKind.f64.format.read x = F.read x from rfl, ex] at hx; cases hx
  | infinity s =>
    obtain ⟨hs, hr⟩ := read_inf x s ex
    have e1 := hinf x hr
    cases ey : F.read y with
    | nan s f => rw [show FloatKind.f64.format.read y = F.read y from rfl, ey] at hy; cases hy
    | infinity t =>
      obtain ⟨ht, hr2⟩ := read_inf y t ey
      have e2 := hinf y hr2
      rw [← hs] at e1; rw [← ht] at e2
      simp only [Datum.order]
      rw [e1, e2]
      congr 1
      generalize (rv 0x7ff0000000000000 : Int) = V at hpos
      unfold cmpZ
      cases s <;> cases t
      · simp
      · simp; rw [if_neg (by omega), if_neg (by omega)]; rfl
      · simp; rw [if_pos (by omega)]; rfl
      · simp
    | number t n j =>
      obtain ⟨_, _, _, hr2⟩ := read_units y t n j ey
      have e2 := hfin y hr2
      rw [← hs] at e1
      simp only [Datum.order]
      rw [e1]
      congr 1
      generalize (rv 0x7ff0000000000000 : Int) = V at hpos e2
      unfold cmpZ
      cases s
      · simp; rw [if_neg (by omega), if_neg (by omega)]
      · simp; intro h; omega
  | number s m i =>
    obtain ⟨hi, hu, _, hr⟩ := read_units x s m i ex
    cases ey : F.read y with
    | nan s f => rw [show FloatKind.f64.format.read y = F.read y from rfl, ey] at hy; cases hy
    | infinity t =>
      obtain ⟨ht, hr2⟩ := read_inf y t ey
      have e2 := hinf y hr2
      have e1 := hfin x hr
      rw [← ht] at e2
      simp only [Datum.order]
      rw [e2]
      congr 1
      generalize (rv 0x7ff0000000000000 : Int) = V at hpos e1
      unfold cmpZ
      cases t
      · simp; intro h; omega
      · simp; rw [if_neg (by omega), if_neg (by omega)]
    | number t n j =>
      obtain ⟨hj, hu2, _, _⟩ := read_units y t n j ey
      simp only [Datum.order]
      congr 1
      rw [compare_eq, ← hu, ← hu2, ← signed_base s m (b := min i j) (by omega) (by omega), ← signed_base t n (b := min i j) (by omega) (by omega), cmp_mul (Int.pow_pos (by omega))]

end Go.Proofs.Ytingdfbolageeaa.Val
