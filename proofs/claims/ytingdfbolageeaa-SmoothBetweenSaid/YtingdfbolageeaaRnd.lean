/-
  Rounding to the nearest float: what it comes to in whole units; that it rises; that it is exact on floats; how far it errs. No program in sight.
-/
import Derived.Test.YtingdfbolageeaaVal
set_option linter.unusedVariables false
namespace Go.Proofs.Ytingdfbolageeaa.Rnd
open Go.Proofs.Ytingdfbolageeaa.Fl Go.Proofs.Ytingdfbolageeaa.Val Ieee

/-- The nearest whole number to n / 2^d; between two, the even one. -/
def he (n d : Nat) : Nat := n / 2 ^ d + (decide (2 ^ d < 2 * (n % 2 ^ d)) || (2 ^ d == 2 * (n % 2 ^ d) && n / 2 ^ d % 2 == 1)).toNat

theorem toNat_le (b : Bool) : b.toNat ≤ 1 := by cases b <;> simp
theorem he_lo (n d : Nat) : n / 2 ^ d ≤ he n d := Nat.le_add_right _ _
theorem he_hi (n d : Nat) : he n d ≤ n / 2 ^ d + 1 := Nat.add_le_add_left (toNat_le _) _
theorem he_mono {n n' : Nat} (d : Nat) (h : n ≤ n') : he n d ≤ he n' d := by
  have hq : n / 2 ^ d ≤ n' / 2 ^ d := Nat.div_le_div_right h
  by_cases e : n / 2 ^ d = n' / 2 ^ d
  · have hr : n % 2 ^ d ≤ n' % 2 ^ d := by
      have h1 := Nat.div_add_mod n (2 ^ d)
      have h2 := Nat.div_add_mod n' (2 ^ d)
      rw [← e] at h2
      generalize 2 ^ d * (n / 2 ^ d) = z at h1 h2
      omega
    unfold he
    rw [← e]
    refine Nat.add_le_add_left ?_ _
    generalize 2 ^ d = g at hr ⊢
    generalize n % g = r at hr ⊢
    generalize n' % g = r' at hr ⊢
    generalize n / g = q
    by_cases hb : (decide (g < 2 * r) || (g == 2 * r && q % 2 == 1)) = true
    · have : (decide (g < 2 * r') || (g == 2 * r' && q % 2 == 1)) = true := by
        simp only [Bool.or_eq_true, decide_eq_true_eq, Bool.and_eq_true, beq_iff_eq] at hb ⊢
        omega
      rw [this]; exact toNat_le _
    · rw [show (decide (g < 2 * r) || (g == 2 * r && q % 2 == 1)) = false by simpa using hb]; exact Nat.zero_le _
  · have := he_hi n d; have := he_lo n' d; omega
/-- It errs by half a step at most. -/
theorem he_err (n d : Nat) : 2 * n ≤ 2 * (he n d * 2 ^ d) + 2 ^ d ∧ 2 * (he n d * 2 ^ d) ≤ 2 * n + 2 ^ d := by
  have h1 := Nat.div_add_mod n (2 ^ d)
  have h2 : n % 2 ^ d < 2 ^ d := Nat.mod_lt _ (Nat.two_pow_pos d)
  unfold he
  generalize 2 ^ d = g at h1 h2 ⊢
  generalize n % g = r at h1 h2 ⊢
  generalize n / g = q at h1 ⊢
  by_cases hb : (decide (g < 2 * r) || (g == 2 * r && q % 2 == 1)) = true
  · rw [hb]
    simp only [Bool.or_eq_true, decide_eq_true_eq, Bool.and_eq_true, beq_iff_eq] at hb
    rw [show true.toNat = 1 from rfl, Nat.add_mul, Nat.mul_comm q g]; omega
  · rw [show (decide (g < 2 * r) || (g == 2 * r && q % 2 == 1)) = false by simpa using hb]
    simp only [Bool.or_eq_true, decide_eq_true_eq, Bool.and_eq_true, beq_iff_eq] at hb
    rw [show false.toNat = 0 from rfl, Nat.add_zero, Nat.mul_comm q g]; omega
theorem he_exact {n d : Nat} (h : n % 2 ^ d = 0) : he n d = n / 2 ^ d := by
  unfold he
  rw [h]
  have := Nat.two_pow_pos d
  have e1 : decide (2 ^ d < 2 * 0) = false := by simp
  have e2 : (2 ^ d == 2 * 0) = false := by
    have : 2 ^ d ≠ 2 * 0 := by omega
    exact beq_eq_false_iff_ne.2 this
  rw [e1, e2]; rfl
/-- The scale of both may be turned. -/
theorem he_scale (n d k : Nat) : he (n * 2 ^ k) (d + k) = he n d := by
  unfold he
  have e1 : n * 2 ^ k / 2 ^ (d + k) = n / 2 ^ d := by rw [Nat.pow_add, Nat.mul_div_mul_right _ _ (Nat.two_pow_pos k)]
  have e2 : n * 2 ^ k % 2 ^ (d + k) = n % 2 ^ d * 2 ^ k := by rw [Nat.pow_add, Nat.mul_mod_mul_right]
  rw [e1, e2, Nat.pow_add]
  have hk := Nat.two_pow_pos k
  have e3 : (2 ^ d * 2 ^ k < 2 * (n % 2 ^ d * 2 ^ k)) ↔ 2 ^ d < 2 * (n % 2 ^ d) := by
    rw [← Nat.mul_assoc]; exact Nat.mul_lt_mul_right hk
  have e4 : (2 ^ d * 2 ^ k = 2 * (n % 2 ^ d * 2 ^ k)) ↔ 2 ^ d = 2 * (n % 2 ^ d) := by
    rw [← Nat.mul_assoc]; exact Nat.mul_left_inj (by omega)
  have e3' : decide (2 ^ d * 2 ^ k < 2 * (n % 2 ^ d * 2 ^ k)) = decide (2 ^ d < 2 * (n % 2 ^ d)) := by simp only [e3]
  have e4' : (2 ^ d * 2 ^ k == 2 * (n % 2 ^ d * 2 ^ k)) = (2 ^ d == 2 * (n % 2 ^ d)) := by
    rw [Bool.eq_iff_iff]; simp only [beq_iff_eq]; exact e4
  rw [e3', e4']

theorem lt_log2 (n : Nat) : n < 2 ^ (n.log2 + 1) := Nat.lt_log2_self
/-- The gap may be cut short. -/
theorem gap_div (n d : Nat) : n / (1 <<< min d (n.log2 + 2)) = n / 2 ^ d ∧ n % (1 <<< min d (n.log2 + 2)) = n % 2 ^ d := by
  rw [Nat.shiftLeft_eq, Nat.one_mul]
  by_cases h : d ≤ n.log2 + 2
  · rw [Nat.min_eq_left h]; exact ⟨rfl, rfl⟩
  · rw [Nat.min_eq_right (by omega)]
    have h1 := lt_log2 n
    have h2 : 2 ^ (n.log2 + 1) ≤ 2 ^ (n.log2 + 2) := Nat.pow_le_pow_right (by omega) (by omega)
    have h3 : 2 ^ (n.log2 + 2) ≤ 2 ^ d := Nat.pow_le_pow_right (by omega) (by omega)
    rw [Nat.div_eq_of_lt (by omega), Nat.div_eq_of_lt (by omega), Nat.mod_eq_of_lt (by omega), Nat.mod_eq_of_lt (by omega)]
    exact ⟨rfl, rfl⟩
theorem cut_even (neg : Bool) (n d : Nat) : Toward.even.cut neg n d = he n d := by
  by_cases h : d ≤ n.log2 + 2
  · unfold Toward.cut he
    simp only [Nat.min_eq_left h, Nat.shiftLeft_eq, Nat.one_mul]
  · have h1 := lt_log2 n
    have h2 : 2 * 2 ^ (n.log2 + 1) = 2 ^ (n.log2 + 2) := by rw [Nat.pow_succ 2 (n.log2 + 1)]; omega
    have h3 : 2 ^ (n.log2 + 2) ≤ 2 ^ d := Nat.pow_le_pow_right (by omega) (by omega)
    unfold Toward.cut he
    simp only [Nat.min_eq_right (show n.log2 + 2 ≤ d by omega), Nat.shiftLeft_eq, Nat.one_mul]
    rw [Nat.div_eq_of_lt (show n < 2 ^ (n.log2 + 2) by omega), Nat.div_eq_of_lt (show n < 2 ^ d by omega), Nat.mod_eq_of_lt (show n < 2 ^ (n.log2 + 2) by omega), Nat.mod_eq_of_lt (show n < 2 ^ d by omega)]
    have a1 : decide (2 ^ (n.log2 + 2) < 2 * n) = false := by simp; omega
    have a2 : decide (2 ^ d < 2 * n) = false := by simp; omega
    simp [a1, a2]
theorem cut_zero (neg : Bool) (n d : Nat) : Toward.zero.cut neg n d = n / 2 ^ d := by
  unfold Toward.cut; simp only [(gap_div n d).1]; rfl
theorem cut_up (neg : Bool) (n d : Nat) : Toward.up.cut neg n d = n / 2 ^ d + (!neg && n % 2 ^ d != 0).toNat := by
  unfold Toward.cut; simp only [(gap_div n d).1, (gap_div n d).2]

/-- The rung of n, in units of 2^(-1074-B). -/
def last (B n : Nat) : Nat := max (n.log2 - 52) B
def rung (B n : Nat) : Nat := (last B n - B) * 2 ^ 52 + he n (last B n)
def INF : Nat := 0x7ff0000000000000

theorem log2_mul_pow {n k : Nat} (h : n ≠ 0) : (n * 2 ^ k).log2 = n.log2 + k := by
  rw [Nat.log2_eq_iff (Nat.mul_ne_zero h (by have := Nat.two_pow_pos k; omega))]
  have h1 := Nat.log2_self_le h
  have h2 := lt_log2 n
  constructor
  · rw [Nat.pow_add]; exact Nat.mul_le_mul_right _ h1
  · rw [show n.log2 + k + 1 = (n.log2 + 1) + k by omega, Nat.pow_add]; exact Nat.mul_lt_mul_of_pos_right h2 (Nat.two_pow_pos k)

theorem nearest_eq (neg : Bool) (mag B : Nat) (place : Int) (hp : -1074 - (B : Int) ≤ place) :
    F.nearest neg mag place = F.word neg (min (rung B (mag * 2 ^ (place + 1074 + B).toNat)) INF) := by
  have eB : F.binade = 2 ^ 52 := rfl
  have eI : F.infRung = INF := rfl
  have eL : F.leastPlace = -1074 := rfl
  have eF : F.fractionBits = 52 := rfl
  unfold Format.nearest
  by_cases h0 : mag = 0
  · subst h0
    rw [if_pos rfl, Nat.zero_mul]
    have : rung B 0 = 0 := by
      unfold rung last he
      rw [show Nat.log2 0 = 0 from by decide, show max (0 - 52) B = B by omega]
      rw [Nat.zero_div, Nat.zero_mod]
      have := Nat.two_pow_pos B
      have e2 : (2 ^ B == 2 * 0) = false := by
        have : 2 ^ B ≠ 2 * 0 := by omega
        exact beq_eq_false_iff_ne.2 this
      rw [e2]; simp
    rw [this]; rfl
  · rw [if_neg h0, eB, eI, eL, eF]
    dsimp only
    refine congrArg (fun z => F.word neg (min z INF)) ?_
    unfold rung last
    rw [log2_mul_pow h0]
    obtain ⟨k, hk⟩ : ∃ k : Nat, place + 1074 + B = k := ⟨(place + 1074 + B).toNat, by omega⟩
    have ek : (place + 1074 + (B : Int)).toNat = k := by omega
    rw [ek]
    have el : (max (place + (mag.log2 : Int) - ((52 : Nat) : Int)) (-1074) + 1074).toNat = max (mag.log2 + k - 52) B - B := by omega
    have el' : (max (place + (mag.log2 : Int) - ((52 : Nat) : Int)) (-1074) - -1074).toNat = max (mag.log2 + k - 52) B - B := by omega
    rw [el', cut_even]
    refine congrArg (fun z => (max (mag.log2 + k - 52) B - B) * 2 ^ 52 + z) ?_
    generalize hL : max (mag.log2 + k - 52) B = L
    have hLB : B ≤ L := by omega
    have e1 : max (place + (mag.log2 : Int) - ((52 : Nat) : Int)) (-1074) = (L : Int) - 1074 - B := by omega
    rw [e1, Nat.shiftLeft_eq]
    by_cases hc : L ≤ k
    · have a1 : (place - ((L : Int) - 1074 - B)).toNat = k - L := by omega
      have a2 : ((L : Int) - 1074 - B - place).toNat = 0 := by omega
      rw [a1, a2]
      have := he_scale (mag * 2 ^ (k - L)) 0 L
      rw [Nat.mul_assoc, ← Nat.pow_add, show k - L + L = k by omega, Nat.zero_add] at this
      exact this.symm
    · have a1 : (place - ((L : Int) - 1074 - B)).toNat = 0 := by omega
      have a2 : ((L : Int) - 1074 - B - place).toNat = L - k := by omega
      rw [a1, a2]
      have := he_scale mag (L - k) k
      rw [show L - k + k = L by omega] at this
      rw [this, Nat.pow_zero, Nat.mul_one]

end Go.Proofs.Ytingdfbolageeaa.Rnd
