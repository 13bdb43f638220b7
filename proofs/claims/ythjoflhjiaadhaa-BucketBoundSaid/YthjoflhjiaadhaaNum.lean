/-
  The plain arithmetic of counts: what Cut, Add, Sub, Mul, Div, Scale come to, and the school division of bits.Div64. No program in sight.
-/
namespace Go.Proofs.Ythjoflhjiaadhaa.Num

/-- A number, clamped to a count. -/
def cutI (n : Int) : Int := if n < 0 then 0 else if n > 9007199254740992 then 9007199254740992 else n
/-- How often den goes into the product, clamped. -/
def scaleI (n num den : Int) : Int :=
  if cutI n * cutI num = 0 then 0 else if cutI den = 0 then 9007199254740992 else cutI (cutI n * cutI num / cutI den)
def addI (a b : Int) : Int := cutI (cutI a + cutI b)
def subI (a b : Int) : Int := cutI (cutI a - cutI b)
def mulI (a b : Int) : Int := scaleI a b 1
def divI (a b : Int) : Int := scaleI a 1 b
def sumI (l : List Int) : Int := l.foldl addI 0

theorem cutI_bd (n : Int) : 0 ≤ cutI n ∧ cutI n ≤ 9007199254740992 := by
  unfold cutI; split <;> (try split) <;> omega
theorem cutI_id {n : Int} (h0 : 0 ≤ n) (h1 : n ≤ 9007199254740992) : cutI n = n := by
  unfold cutI; rw [if_neg (by omega), if_neg (by omega)]
theorem cutI_mono {a b : Int} (h : a ≤ b) : cutI a ≤ cutI b := by
  unfold cutI; split <;> split <;> (try split) <;> (try split) <;> omega
theorem prod_bd {a b : Int} (h0 : 0 ≤ a) (h1 : a ≤ 9007199254740992) (h2 : 0 ≤ b) (h3 : b ≤ 9007199254740992) : 0 ≤ a * b ∧ a * b ≤ 81129638414606681695789005144064 :=
  ⟨Int.mul_nonneg h0 h2, Int.mul_le_mul h1 h3 h2 (by omega)⟩
theorem scaleI_bd (n num den : Int) : 0 ≤ scaleI n num den ∧ scaleI n num den ≤ 9007199254740992 := by
  unfold scaleI
  split
  · omega
  · split
    · omega
    · exact cutI_bd _

/-! ### The school division: one digit -/

/-- The digit is at most one too great at the test, and the test tells it. -/
theorem digit_test {B v1 v0 u d q r : Int} (hu : u = q * v1 + r) : (u * B + d) - q * (v1 * B + v0) = B * r + d - q * v0 := by
  rw [hu, Int.mul_add, Int.add_mul, ← Int.mul_assoc, Int.mul_comm r B]; omega

theorem digit_le {B v1 v0 u d q r : Int} (hu : u = q * v1 + r) (h : q * v0 ≤ B * r + d) : q * (v1 * B + v0) ≤ u * B + d := by
  have := digit_test (B := B) (v0 := v0) (d := d) hu; omega
theorem digit_gt {B v1 v0 u d q r : Int} (hu : u = q * v1 + r) (h : B * r + d < q * v0) : u * B + d < q * (v1 * B + v0) := by
  have := digit_test (B := B) (v0 := v0) (d := d) hu; omega

theorem div_eq_of {n v q : Int} (hv : 0 < v) (h1 : q * v ≤ n) (h2 : n < (q + 1) * v) : n / v = q := by
  have a : q ≤ n / v := (Int.le_ediv_iff_mul_le hv).2 h1
  have b : n / v < q + 1 := (Int.ediv_lt_iff_lt_mul hv).2 h2
  omega

/-- What is known of a digit: Y1, Y0 the divisor's halves, U what is left, D the next half, Q the digit. -/
structure DigSpec (Y1 Y0 U D Q : Int) : Prop where
  y1 : 2147483648 ≤ Y1
  y1' : Y1 < 4294967296
  y0 : 0 ≤ Y0
  y0' : Y0 < 4294967296
  q0 : 0 ≤ Q
  q1 : Q < 4294967296
  lo : Q * (Y1 * 4294967296 + Y0) ≤ U * 4294967296 + D
  hi : U * 4294967296 + D < (Q + 1) * (Y1 * 4294967296 + Y0)

/-- What the digit's loop keeps at q, r. -/
structure Dig (Y1 U Q q r : Int) : Prop where
  eq : U = q * Y1 + r
  ge : Q ≤ q
  le : q ≤ 4294967297
  r0 : 0 ≤ r
  r1 : r < 4294967296

theorem pos_y {Y1 Y0 U D Q : Int} (S : DigSpec Y1 Y0 U D Q) : 0 < Y1 * 4294967296 + Y0 := by have := S.y1; have := S.y0; omega

theorem DigSpec.le_of {Y1 Y0 U D Q q : Int} (S : DigSpec Y1 Y0 U D Q) (h : q * (Y1 * 4294967296 + Y0) ≤ U * 4294967296 + D) : q ≤ Q := by
  have h1 := Int.lt_of_le_of_lt h S.hi
  have := Int.lt_of_mul_lt_mul_right h1 (Int.le_of_lt (pos_y S))
  omega
theorem DigSpec.lt_of {Y1 Y0 U D Q q : Int} (S : DigSpec Y1 Y0 U D Q) (h : U * 4294967296 + D < q * (Y1 * 4294967296 + Y0)) : Q < q := by
  have h1 := Int.lt_of_le_of_lt S.lo h
  exact Int.lt_of_mul_lt_mul_right h1 (Int.le_of_lt (pos_y S))

theorem mul_bd {q Y0 : Int} (h0 : 0 ≤ q) (h1 : q ≤ 4294967297) (h2 : 0 ≤ Y0) (h3 : Y0 < 4294967296) : 0 ≤ q * Y0 ∧ q * Y0 ≤ 18446744073709551615 :=
  ⟨Int.mul_nonneg h0 h2, by have := Int.mul_le_mul h1 (show Y0 ≤ 4294967295 by omega) h2 (by omega); omega⟩

/-- The test says no: this is the digit. -/
theorem Dig.stop {Y1 Y0 U D Q q r : Int} (S : DigSpec Y1 Y0 U D Q) (h : Dig Y1 U Q q r) (ht : q * Y0 ≤ 4294967296 * r + D) : q = Q := by
  have := S.le_of (digit_le h.eq ht); have := h.ge; omega
/-- The test says yes: the digit is smaller. -/
theorem Dig.less {Y1 Y0 U D Q q r : Int} (S : DigSpec Y1 Y0 U D Q) (h : Dig Y1 U Q q r) (ht : 4294967296 ≤ q ∨ 4294967296 * r + D < q * Y0) : Q ≤ q - 1 := by
  rcases ht with ht | ht
  · have := S.q1; omega
  · have := S.lt_of (digit_gt h.eq ht); omega
theorem Dig.eq' {Y1 U Q q r : Int} (h : Dig Y1 U Q q r) : U = (q - 1) * Y1 + (r + Y1) := by
  rw [h.eq, Int.sub_mul]; omega
theorem Dig.step {Y1 Y0 U D Q q r : Int} (S : DigSpec Y1 Y0 U D Q) (h : Dig Y1 U Q q r) (ht : 4294967296 ≤ q ∨ 4294967296 * r + D < q * Y0) (hr : r + Y1 < 4294967296) : Dig Y1 U Q (q - 1) (r + Y1) :=
  ⟨h.eq', h.less S ht, by have := h.le; omega, by have := h.r0; have := S.y1; omega, hr⟩
/-- What is left has grown past a half: this is the digit. -/
theorem Dig.break {Y1 Y0 U D Q q r : Int} (S : DigSpec Y1 Y0 U D Q) (hD : 0 ≤ D) (h : Dig Y1 U Q q r) (ht : 4294967296 ≤ q ∨ 4294967296 * r + D < q * Y0) (hr : 4294967296 ≤ r + Y1) : q - 1 = Q := by
  have hl := h.less S ht
  have h0 : q - 1 ≤ 4294967296 := by have := h.le; omega
  have hm : (q - 1) * Y0 ≤ 4294967296 * 4294967295 := Int.mul_le_mul h0 (by have := S.y0'; omega) S.y0 (by omega)
  have := S.le_of (digit_le h.eq' (show (q - 1) * Y0 ≤ 4294967296 * (r + Y1) + D by omega))
  omega

/-- The first guess of a digit. -/
theorem Dig.start {Y1 Y0 U D Q : Int} (S : DigSpec Y1 Y0 U D Q) (hU : 0 ≤ U) (hY : U < Y1 * 4294967296 + Y0) (hD' : D < 4294967296) : Dig Y1 U Q (U / Y1) (U - U / Y1 * Y1) := by
  have y1 := S.y1; have y1' := S.y1'; have y0' := S.y0'; have y0 := S.y0
  have hr : U - U / Y1 * Y1 = U % Y1 := by rw [Int.emod_def, Int.mul_comm]
  have h0 := Int.emod_nonneg U (show Y1 ≠ 0 by omega)
  have h1 := Int.emod_lt_of_pos U (show 0 < Y1 by omega)
  refine ⟨by omega, ?_, ?_, by omega, by omega⟩
  · -- Q * Y1 * B ≤ U * B + D, so Q * Y1 ≤ U
    refine (Int.le_ediv_iff_mul_le (by omega)).2 ?_
    have a := S.lo
    have b : Q * (Y1 * 4294967296 + Y0) = Q * Y1 * 4294967296 + Q * Y0 := by rw [Int.mul_add, Int.mul_assoc]
    have c := Int.mul_nonneg S.q0 S.y0
    omega
  · refine Int.le_of_lt_add_one ((Int.ediv_lt_iff_lt_mul (by omega)).2 ?_)
    omega

theorem digSpec_of {Y1 Y0 U D : Int} (y1 : 2147483648 ≤ Y1) (y1' : Y1 < 4294967296) (y0 : 0 ≤ Y0) (y0' : Y0 < 4294967296) (hU : 0 ≤ U) (hY : U < Y1 * 4294967296 + Y0) (hD : 0 ≤ D) (hD' : D < 4294967296) :
    DigSpec Y1 Y0 U D ((U * 4294967296 + D) / (Y1 * 4294967296 + Y0)) := by
  have hp : 0 < Y1 * 4294967296 + Y0 := by omega
  refine ⟨y1, y1', y0, y0', Int.ediv_nonneg (by omega) (by omega), ?_, Int.ediv_mul_le _ (by omega), Int.lt_ediv_add_one_mul_self _ hp⟩
  refine (Int.ediv_lt_iff_lt_mul hp).2 ?_
  omega

/-- What is left behind a digit, as the machine computes it. -/
theorem left_mod {U D Y : Int} (hY : 0 < Y) (hY' : Y ≤ 18446744073709551616) :
    ((U * 4294967296 % 18446744073709551616 + D) % 18446744073709551616 - ((U * 4294967296 + D) / Y * Y) % 18446744073709551616) % 18446744073709551616 = (U * 4294967296 + D) % Y := by
  have h0 := Int.emod_nonneg (U * 4294967296 + D) (show Y ≠ 0 by omega)
  have h1 := Int.emod_lt_of_pos (U * 4294967296 + D) hY
  have h2 : (U * 4294967296 + D) / Y * Y = (U * 4294967296 + D) - (U * 4294967296 + D) % Y := by
    have := Int.mul_ediv_add_emod (U * 4294967296 + D) Y; rw [Int.mul_comm Y] at this; omega
  rw [h2]
  omega

/-- The digits together. -/
theorem digits {H L Y q1 q0 t z d1 d0 : Int} (_hY : 0 < Y) (hL : L = d1 * 4294967296 + d0) (h1 : q1 = (H * 4294967296 + d1) / Y) (ht : t = (H * 4294967296 + d1) % Y) (h0 : q0 = (t * 4294967296 + d0) / Y) (hz : z = (t * 4294967296 + d0) % Y) :
    H * 18446744073709551616 + L = (q1 * 4294967296 + q0) * Y + z := by
  have a := Int.mul_ediv_add_emod (H * 4294967296 + d1) Y
  have b := Int.mul_ediv_add_emod (t * 4294967296 + d0) Y
  rw [← h1, ← ht] at a
  rw [← h0, ← hz] at b
  have c : (q1 * 4294967296 + q0) * Y = Y * q1 * 4294967296 + Y * q0 := by rw [Int.add_mul, Int.mul_right_comm, Int.mul_comm q1 Y, Int.mul_comm q0 Y]
  omega

end Go.Proofs.Ythjoflhjiaadhaa.Num
