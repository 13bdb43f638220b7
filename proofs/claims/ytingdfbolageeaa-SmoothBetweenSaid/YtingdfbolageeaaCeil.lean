/-
  The ceiling, the greater and the lesser of floats, and the integer of one, by value. No program in sight, but the model's own builtins.
-/
import Derived.Test.YtingdfbolageeaaRn
set_option linter.unusedVariables false
set_option exponentiation.threshold 4000
namespace Go.Proofs.Ytingdfbolageeaa.Ceil
open Go.Proofs.Ytingdfbolageeaa.Fl Go.Proofs.Ytingdfbolageeaa.Val Go.Proofs.Ytingdfbolageeaa.Rnd Go.Proofs.Ytingdfbolageeaa.Rn Ieee

theorem Kpos : (0 : Int) < (K : Int) := by
  have : 0 < K := Nat.two_pow_pos _
  omega
def ceilZ (z : Int) : Int := -((-z) / (K : Int))
def ceilF (x : Nat) : Nat := FloatKind.f64.encode ((FloatKind.f64.decode x).integral .up)
def clampI (c : Int) : Int := if c ≤ 2 then 2 else if 60 ≤ c then 60 else c
def lo : Nat := 4611686018427387904
def hi : Nat := 4633641066610819072

theorem ceilZ_of {z c : Int} (h1 : z ≤ c * K) (h2 : (c - 1) * K < z) : ceilZ z = c := by
  unfold ceilZ
  have hk := Kpos
  generalize (K : Int) = k at *
  have a : -c ≤ (-z) / k := (Int.le_ediv_iff_mul_le hk).2 (by rw [Int.neg_mul]; omega)
  have b : (-z) / k < -c + 1 := (Int.ediv_lt_iff_lt_mul hk).2 (by
    have : (-c + 1) * k = -((c - 1) * k) := by rw [← Int.neg_mul]; congr 1; omega
    rw [this]; omega)
  omega
theorem ceilZ_mono {a b : Int} (h : a ≤ b) : ceilZ a ≤ ceilZ b := by
  unfold ceilZ
  have hk := Kpos
  have : (-b) / (K : Int) ≤ (-a) / (K : Int) := Int.ediv_le_ediv hk (by omega)
  omega
theorem clampI_mono {a b : Int} (h : a ≤ b) : clampI a ≤ clampI b := by
  unfold clampI; split <;> split <;> (try split) <;> (try split) <;> omega
theorem clampI_bd (a : Int) : 2 ≤ clampI a ∧ clampI a ≤ 60 := by
  unfold clampI; split <;> (try split) <;> omega

/-- A whole number below 2^53 is a float. -/
theorem RN_whole {c : Nat} (h : c < 2 ^ 53) : rv (min (rung 0 (c * K)) INF) = c * K := by
  by_cases h0 : c = 0
  · subst h0
    rw [Nat.zero_mul]
    have := rung_rv 0; rw [rv_zero.2 rfl] at this; rw [this]; rfl
  · have hl : (c * K).log2 = c.log2 + 1074 := log2_mul_pow h0
    have hc : c.log2 < 53 := (Nat.log2_lt h0).2 h
    have hd : (c * K) % 2 ^ last 0 (c * K) = 0 := by
      have : last 0 (c * K) ≤ 1074 := by unfold last; omega
      obtain ⟨k, hk⟩ : ∃ k, 1074 = last 0 (c * K) + k := ⟨1074 - last 0 (c * K), by omega⟩
      have e1 : 2 ^ last 0 (c * K) * 2 ^ k = K := by rw [← Nat.pow_add, ← hk]; rfl
      generalize last 0 (c * K) = L at *
      rw [← e1, Nat.mul_left_comm]
      exact Nat.mul_mod_right _ _
    have hr : rv (rung 0 (c * K)) = c * K := by
      have := rv_rung 0 (c * K)
      rw [Nat.pow_zero, Nat.mul_one, he_exact hd, Nat.div_mul_cancel (Nat.dvd_of_mod_eq_zero hd)] at this
      exact this
    have hI : rung 0 (c * K) ≤ INF := by
      by_cases hI : rung 0 (c * K) ≤ INF
      · exact hI
      · have h1 := rv_lt (a := INF) (b := rung 0 (c * K)) (by omega)
        rw [hr] at h1
        have h2 : c * K < 2 ^ 53 * K := Nat.mul_lt_mul_of_pos_right h (Nat.two_pow_pos _)
        have h3 : 2 ^ 53 * K ≤ rv INF := by decide +kernel
        omega
    rw [Nat.min_eq_left hI, hr]
theorem RN_wholeZ {c : Int} (h0 : 0 ≤ c) (h : c < 2 ^ 53) : RN 0 (c * K) = c * K := by
  have hk := Kpos
  have : ¬ c * (K : Int) < 0 := by
    have := Int.mul_nonneg h0 (Int.le_of_lt hk); omega
  unfold RN
  rw [if_neg this]
  have e : (c * (K : Int)).natAbs = c.toNat * K := by rw [Int.natAbs_mul, Int.natAbs_natCast]; congr 1; omega
  rw [e, RN_whole (by omega), Int.natCast_mul, Int.toNat_of_nonneg h0]

theorem E_lo : E lo = 2 * K := by decide +kernel
theorem E_hi : E hi = 60 * K := by decide +kernel
theorem isN_lo : isN lo = false := by rw [isN_rg]; decide
theorem isN_hi : isN hi = false := by rw [isN_rg]; decide

/-- The ceiling of a number. -/
theorem ceil_fin {x : Nat} (hx : rg x < INF) : E (ceilF x) = RN 0 (ceilZ (E x) * K) ∧ isN (ceilF x) = false := by
  obtain ⟨m, i, ex, hi, ux⟩ := fin_read hx
  have hc : ceilF x = F.write ((F.read x).integral .up) := rfl
  rw [hc, ex]
  simp only [Datum.integral, Format.write]
  refine nearest_E 0 _ _ _ _ (by omega) ?_
  rw [cut_up, shl]
  have e0 : ((0 : Int) + 1074 + ((0 : Nat) : Int)).toNat = 1074 := by omega
  rw [e0]
  have hg : (0 : Int) < ((2 ^ (-i).toNat : Nat) : Int) := by have := Nat.two_pow_pos (-i).toNat; omega
  -- the number times the gap is the shifted one times one
  have hE : (m * 2 ^ (i + 1074).toNat) * 2 ^ (-i).toNat = (m * 2 ^ i.toNat) * K := by
    unfold K
    rw [Nat.mul_assoc, Nat.mul_assoc, ← Nat.pow_add, ← Nat.pow_add]
    congr 2; omega
  have hdm := Nat.div_add_mod (m * 2 ^ i.toNat) (2 ^ (-i).toNat)
  have hml : (m * 2 ^ i.toNat) % 2 ^ (-i).toNat < 2 ^ (-i).toNat := Nat.mod_lt _ (Nat.two_pow_pos _)
  rw [← ux]
  unfold units
  rw [signed_eq]
  have hk := Kpos
  have hkK : ((2 : Nat) ^ 1074 : Nat) = K := rfl
  rw [hkK]
  generalize hn : m * 2 ^ i.toNat = n at *
  generalize hgg : 2 ^ (-i).toNat = g at *
  generalize hq : n / g = q at *
  generalize hr : n % g = r at *
  have hEz : ((m : Int) * 2 ^ (i + 1074).toNat) * g = (n : Int) * K := by
    have := congrArg (fun z : Nat => (z : Int)) hE
    simpa [Int.natCast_mul, Int.natCast_pow] using this
  generalize hz : (m : Int) * 2 ^ (i + 1074).toNat = z at *
  have hnz : (n : Int) = g * q + r := by rw [← hdm]; simp
  have hle : ∀ c : Int, (n : Int) ≤ c * g → z ≤ c * K := by
    intro c h
    have h1 := Int.mul_le_mul_of_nonneg_right h (Int.le_of_lt hk)
    rw [← hEz] at h1
    rw [Int.mul_right_comm] at h1
    exact Int.le_of_mul_le_mul_right h1 hg
  have hlt : ∀ c : Int, c * g < (n : Int) → c * K < z := by
    intro c h
    have h1 := Int.mul_lt_mul_of_pos_right h hk
    rw [← hEz] at h1
    rw [Int.mul_right_comm] at h1
    exact Int.lt_of_mul_lt_mul_right h1 (Int.le_of_lt hg)
  have hge : ∀ c : Int, c * g ≤ (n : Int) → c * K ≤ z := by
    intro c h
    have h1 := Int.mul_le_mul_of_nonneg_right h (Int.le_of_lt hk)
    rw [← hEz] at h1
    rw [Int.mul_right_comm] at h1
    exact Int.le_of_mul_le_mul_right h1 hg
  have hgt : ∀ c : Int, (n : Int) < c * g → z < c * K := by
    intro c h
    have h1 := Int.mul_lt_mul_of_pos_right h hk
    rw [← hEz] at h1
    rw [Int.mul_right_comm] at h1
    exact Int.lt_of_mul_lt_mul_right h1 (Int.le_of_lt hg)
  have hqg : (q : Int) * g = g * q := Int.mul_comm _ _
  cases hs : sg x
  · simp only [Bool.false_eq_true, if_false, Bool.not_false, Bool.true_and]
    rw [hz, Int.natCast_mul]
    refine congrArg (fun t : Int => t * (K : Int)) ?_
    by_cases hr0 : r = 0
    · subst hr0
      have e : ((0 : Nat) != 0).toNat = 0 := rfl
      rw [e]
      symm; apply ceilZ_of
      · apply hle; simp only [Nat.add_zero]; omega
      · apply hlt; simp only [Nat.add_zero]; rw [Int.sub_mul]; omega
    · have e : (r != 0).toNat = 1 := by simp [hr0]
      rw [e]
      symm; apply ceilZ_of
      · apply hle; rw [Int.natCast_add, Int.add_mul]; omega
      · apply hlt; rw [Int.natCast_add, show ((q : Int) + ((1 : Nat) : Int) - 1) = q by omega]; omega
  · simp only [if_true, Bool.not_true, Bool.false_and, Bool.toNat_false, Nat.add_zero]
    rw [Int.neg_mul, hz, Int.natCast_mul, ← Int.neg_mul]
    refine congrArg (fun t : Int => t * (K : Int)) ?_
    symm; apply ceilZ_of
    · rw [Int.neg_mul]; have := hge q (by omega); omega
    · have := hgt (q + 1) (by rw [Int.add_mul]; omega)
      rw [show (-(q : Int) - 1) = -(q + 1) by omega, Int.neg_mul]; omega

theorem inf_E {x : Nat} (h : rg x = INF) : E x = if sg x then -(rv INF : Int) else (rv INF : Int) := by unfold E; rw [h]
theorem big_inf : (60 : Int) * K ≤ (rv INF : Int) ∧ (3 : Int) * K < rv INF := by constructor <;> decide +kernel

/-- The ceiling of an infinity. -/
theorem ceil_inf {x : Nat} (hx : rg x = INF) : E (ceilF x) = E x ∧ isN (ceilF x) = false := by
  have hr : F.read x = .infinity (sg x) := by
    rw [read_eq, hx]
    rw [if_neg (by decide), if_neg (by decide), if_pos (show INF = 9218868437227405312 from rfl)]
  have hc : ceilF x = F.write ((F.read x).integral .up) := rfl
  rw [hc, hr]
  show E (F.word (sg x) INF) = E x ∧ isN (F.word (sg x) INF) = false
  rw [word_E _ (Nat.le_refl _), inf_E hx]
  exact ⟨rfl, word_isN _ (Nat.le_refl _)⟩

theorem ceilZ_le {z c : Int} (h : z ≤ c * K) : ceilZ z ≤ c := by
  unfold ceilZ
  have a : -c ≤ (-z) / (K : Int) := (Int.le_ediv_iff_mul_le Kpos).2 (by rw [Int.neg_mul]; omega)
  omega
theorem le_ceilZ {z c : Int} (h : c * K ≤ z) : c ≤ ceilZ z := by
  unfold ceilZ
  have b : (-z) / (K : Int) < -c + 1 := (Int.ediv_lt_iff_lt_mul Kpos).2 (by
    have hk := Kpos
    rw [Int.add_mul, Int.neg_mul]; omega)
  omega

/-- The three ways. -/
theorem wait_facts {x : Nat} (hx : isN x = false) : isN (ceilF x) = false ∧
    (ceilZ (E x) ≤ 2 ∧ E (ceilF x) ≤ 2 * K ∨ 60 ≤ ceilZ (E x) ∧ 60 * K ≤ E (ceilF x) ∨ 2 < ceilZ (E x) ∧ ceilZ (E x) < 60 ∧ E (ceilF x) = ceilZ (E x) * K) := by
  have hk := Kpos
  rw [isN_rg] at hx
  have hx : rg x ≤ INF := by
    have : ¬ 0x7ff0000000000000 < rg x := by simpa using hx
    unfold INF; omega
  by_cases hi : rg x = INF
  · obtain ⟨h1, h2⟩ := ceil_inf hi
    refine ⟨h2, ?_⟩
    rw [h1, inf_E hi]
    obtain ⟨b1, b2⟩ := big_inf
    cases sg x
    · simp only [Bool.false_eq_true, if_false]
      exact .inr (.inl ⟨le_ceilZ b1, b1⟩)
    · simp only [if_true]
      exact .inl ⟨ceilZ_le (by omega), by omega⟩
  · obtain ⟨h1, h2⟩ := ceil_fin (x := x) (by omega)
    refine ⟨h2, ?_⟩
    rw [h1]
    generalize ceilZ (E x) = c
    have m1 : c ≤ 2 → RN 0 (c * K) ≤ 2 * K := by
      intro h
      have := RN_mono 0 (Int.mul_le_mul_of_nonneg_right h (Int.le_of_lt hk))
      rw [RN_wholeZ (c := 2) (by omega) (by omega)] at this
      exact this
    have m2 : 60 ≤ c → 60 * K ≤ RN 0 (c * K) := by
      intro h
      have := RN_mono 0 (Int.mul_le_mul_of_nonneg_right h (Int.le_of_lt hk))
      rw [RN_wholeZ (c := 60) (by omega) (by omega)] at this
      exact this
    by_cases a : c ≤ 2
    · exact .inl ⟨a, m1 a⟩
    · by_cases b : 60 ≤ c
      · exact .inr (.inl ⟨b, m2 b⟩)
      · exact .inr (.inr ⟨by omega, by omega, RN_wholeZ (by omega) (by omega)⟩)

/-- The integer of a whole one. -/
theorem toInt_of {t : Nat} {c : Int} (ht : isN t = false) (h0 : 0 ≤ c) (h1 : c ≤ 60) (h : E t = c * K) : floatToIntVal .f64 t .i64 = some c := by
  have hk := Kpos
  rw [isN_rg] at ht
  have hfin : rg t < INF := by
    have : ¬ 0x7ff0000000000000 < rg t := by simpa using ht
    by_cases hI : rg t = INF
    · have e := inf_E hI
      rw [h] at e
      have b := big_inf
      have b2 : c * (K : Int) ≤ 60 * K := Int.mul_le_mul_of_nonneg_right h1 (Int.le_of_lt hk)
      have b3 : 0 ≤ c * (K : Int) := Int.mul_nonneg h0 (Int.le_of_lt hk)
      have b4 : (60 : Int) * K < rv INF := by decide +kernel
      split at e <;> omega
    · unfold INF at *; omega
  obtain ⟨m, i, ex, hi, ux⟩ := fin_read hfin
  unfold floatToIntVal
  have hd : FloatKind.f64.decode t = F.read t := rfl
  rw [hd, ex]
  have hz : (Datum.number (sg t) m i).toInt .zero = some c := by
    simp only [Datum.toInt, Datum.integral]
    rw [cut_zero, shl, signed_eq, Int.pow_zero, Int.mul_one]
    congr 1
    rw [h] at ux
    unfold units at ux
    rw [signed_eq] at ux
    have hE : (m * 2 ^ (i + 1074).toNat) * 2 ^ (-i).toNat = (m * 2 ^ i.toNat) * K := by
      unfold K
      rw [Nat.mul_assoc, Nat.mul_assoc, ← Nat.pow_add, ← Nat.pow_add]
      congr 2; omega
    have hg : 0 < 2 ^ (-i).toNat := Nat.two_pow_pos _
    generalize hgg : 2 ^ (-i).toNat = g at *
    generalize m * 2 ^ i.toNat = n at *
    obtain ⟨cn, rfl⟩ : ∃ cn : Nat, c = cn := ⟨c.toNat, by omega⟩
    have hcase : sg t = true → m = 0 := by
      intro hs
      rw [hs] at ux
      simp only [if_true] at ux
      by_cases hm : m = 0
      · exact hm
      · have p : (0 : Int) < (m : Int) * 2 ^ (i + 1074).toNat := Int.mul_pos (by omega) (Int.pow_pos (by omega))
        have q : 0 ≤ (cn : Int) * (K : Int) := Int.mul_nonneg h0 (Int.le_of_lt hk)
        rw [Int.neg_mul] at ux
        omega
    have key : m * 2 ^ (i + 1074).toNat = cn * K := by
      cases hs : sg t
      · rw [hs] at ux
        simp only [Bool.false_eq_true, if_false] at ux
        have : ((m * 2 ^ (i + 1074).toNat : Nat) : Int) = ((cn * K : Nat) : Int) := by
          rw [Int.natCast_mul, Int.natCast_mul, Int.natCast_pow]; exact ux
        exact Int.ofNat.inj this
      · have := hcase hs
        subst this
        rw [hs] at ux
        simp only [if_true] at ux
        have : ((cn * K : Nat) : Int) = 0 := by rw [Int.natCast_mul, ← ux]; simp
        omega
    rw [key] at hE
    have hn : n = cn * g := by
      have h2 : n * K = cn * g * K := by rw [← hE, Nat.mul_right_comm]
      exact Nat.eq_of_mul_eq_mul_right (Nat.two_pow_pos _) h2
    rw [hn, Nat.mul_div_cancel _ hg]
    cases hs : sg t
    · simp
    · have := hcase hs
      subst this
      rw [Nat.zero_mul] at key
      have : cn = 0 := by
        rcases Nat.mul_eq_zero.1 key.symm with h | h
        · exact h
        · have := Nat.two_pow_pos 1074; unfold K at h; omega
      subst this; simp
  rw [hz]
  simp only []
  have e1 : IntKind.i64.min = -9223372036854775808 := rfl
  have e2 : IntKind.i64.max = 9223372036854775807 := rfl
  rw [e1, e2, if_pos ⟨by omega, by omega⟩]

/-- The greater, the lesser. -/
def maxV (x y : Nat) : Nat := match F.order x y with | some .lt => y | some .gt => x | _ => if (FloatKind.f64.decode x).neg then y else x
def minV (x y : Nat) : Nat := match F.order x y with | some .lt => x | some .gt => y | _ => if (FloatKind.f64.decode x).neg then x else y
theorem run_max (P : Program) (ts : Array TypeId) (t : TypeId) (x y : Nat) (w : World) (hx : isN x = false) (hy : isN y = false) : (Builtin.max_ ts t #[.float .f64 x, .float .f64 y]).run P w = .ok (.float .f64 (maxV x y)) w := by
  have h := order_E hx hy
  have e : F.order x y = FloatKind.f64.format.order x y := rfl
  unfold maxV
  rw [e] at h ⊢
  generalize cmpZ (E x) (E y) = o at h
  simp only [Builtin.max_, List.foldlM, Builtin.max2]
  cases o <;> simp [h]
theorem run_min (P : Program) (ts : Array TypeId) (t : TypeId) (x y : Nat) (w : World) (hx : isN x = false) (hy : isN y = false) : (Builtin.min_ ts t #[.float .f64 x, .float .f64 y]).run P w = .ok (.float .f64 (minV x y)) w := by
  have h := order_E hx hy
  have e : F.order x y = FloatKind.f64.format.order x y := rfl
  unfold minV
  rw [e] at h ⊢
  generalize cmpZ (E x) (E y) = o at h
  simp only [Builtin.min_, List.foldlM, Builtin.min2]
  cases o <;> simp [h]
theorem maxV_E {x y : Nat} (hx : isN x = false) (hy : isN y = false) : E (maxV x y) = max (E x) (E y) ∧ isN (maxV x y) = false := by
  unfold maxV
  rw [order_E hx hy]
  unfold cmpZ
  by_cases h1 : E x < E y
  · rw [if_pos h1]; exact ⟨by simp only []; omega, hy⟩
  · by_cases h2 : E x = E y
    · rw [if_neg h1, if_pos h2]; simp only []; split
      · exact ⟨by omega, hy⟩
      · exact ⟨by omega, hx⟩
    · rw [if_neg h1, if_neg h2]; exact ⟨by simp only []; omega, hx⟩
theorem minV_E {x y : Nat} (hx : isN x = false) (hy : isN y = false) : E (minV x y) = min (E x) (E y) ∧ isN (minV x y) = false := by
  unfold minV
  rw [order_E hx hy]
  unfold cmpZ
  by_cases h1 : E x < E y
  · rw [if_pos h1]; exact ⟨by simp only []; omega, hx⟩
  · by_cases h2 : E x = E y
    · rw [if_neg h1, if_pos h2]; simp only []; split
      · exact ⟨by omega, hx⟩
      · exact ⟨by omega, hy⟩
    · rw [if_neg h1, if_neg h2]; exact ⟨by simp only []; omega, hy⟩

/-- What Wait's last line gives. -/
theorem wait_int {x : Nat} (hx : isN x = false) : isN (maxV (ceilF x) lo) = false ∧ floatToIntVal .f64 (minV (maxV (ceilF x) lo) hi) .i64 = some (clampI (ceilZ (E x))) := by
  obtain ⟨hn, hw⟩ := wait_facts hx
  obtain ⟨e1, n1⟩ := maxV_E hn isN_lo
  obtain ⟨e2, n2⟩ := minV_E n1 isN_hi
  refine ⟨n1, ?_⟩
  have hb := clampI_bd (ceilZ (E x))
  refine toInt_of n2 (by omega) (by omega) ?_
  rw [e2, e1, E_lo, E_hi]
  have hk := Kpos
  unfold clampI
  rcases hw with ⟨h1, h2⟩ | ⟨h1, h2⟩ | ⟨h1, h2, h3⟩
  · rw [if_pos h1]; omega
  · rw [if_neg (by omega), if_pos h1]; omega
  · rw [if_neg (by omega), if_neg (by omega), h3]
    have a1 := Int.mul_le_mul_of_nonneg_right (show (2 : Int) ≤ ceilZ (E x) by omega) (Int.le_of_lt hk)
    have a2 := Int.mul_le_mul_of_nonneg_right (show ceilZ (E x) ≤ (60 : Int) by omega) (Int.le_of_lt hk)
    omega
/-- The reference's tests. -/
theorem rwait_int {x : Nat} (hx : isN x = false) :
    (gtF (ceilF x) hi = true ∨ eqF (ceilF x) hi = true) ∧ clampI (ceilZ (E x)) = 60 ∨
    (gtF (ceilF x) hi = false ∧ eqF (ceilF x) hi = false) ∧ (ltF (ceilF x) lo = true ∨ eqF (ceilF x) lo = true) ∧ clampI (ceilZ (E x)) = 2 ∨
    (gtF (ceilF x) hi = false ∧ eqF (ceilF x) hi = false) ∧ (ltF (ceilF x) lo = false ∧ eqF (ceilF x) lo = false) ∧ floatToIntVal .f64 (ceilF x) .i64 = some (clampI (ceilZ (E x))) := by
  obtain ⟨hn, hw⟩ := wait_facts hx
  have oh : FloatKind.f64.format.order (ceilF x) hi = some (cmpZ (E (ceilF x)) (60 * K)) := by rw [← E_hi]; exact order_E hn isN_hi
  have ol : FloatKind.f64.format.order (ceilF x) lo = some (cmpZ (E (ceilF x)) (2 * K)) := by rw [← E_lo]; exact order_E hn isN_lo
  unfold gtF eqF ltF
  rw [oh, ol]
  have hk := Kpos
  have c1 : ∀ a b : Int, a < b → cmpZ a b = .lt := fun a b h => by unfold cmpZ; rw [if_pos h]
  have c2 : ∀ a b : Int, a = b → cmpZ a b = .eq := fun a b h => by unfold cmpZ; rw [if_neg (by omega), if_pos h]
  have c3 : ∀ a b : Int, b < a → cmpZ a b = .gt := fun a b h => by unfold cmpZ; rw [if_neg (by omega), if_neg (by omega)]
  rcases hw with ⟨h1, h2⟩ | ⟨h1, h2⟩ | ⟨h1, h2, h3⟩
  · refine .inr (.inl ⟨?_, ?_, by unfold clampI; rw [if_pos h1]⟩)
    · rw [c1 _ (60 * K) (by omega)]; exact ⟨rfl, rfl⟩
    · by_cases e : E (ceilF x) = 2 * K
      · rw [c2 _ _ e]; exact .inr rfl
      · rw [c1 _ (2 * K) (by omega)]; exact .inl rfl
  · refine .inl ⟨?_, by unfold clampI; rw [if_neg (by omega), if_pos h1]⟩
    by_cases e : E (ceilF x) = 60 * K
    · rw [c2 _ _ e]; exact .inr rfl
    · rw [c3 _ (60 * K) (by omega)]; exact .inl rfl
  · have a1 := Int.mul_lt_mul_of_pos_right (show (2 : Int) < ceilZ (E x) by omega) hk
    have a2 := Int.mul_lt_mul_of_pos_right (show ceilZ (E x) < (60 : Int) by omega) hk
    refine .inr (.inr ⟨?_, ?_, ?_⟩)
    · rw [c1 _ (60 * K) (by omega)]; exact ⟨rfl, rfl⟩
    · rw [c3 _ (2 * K) (by omega)]; exact ⟨rfl, rfl⟩
    · have e : clampI (ceilZ (E x)) = ceilZ (E x) := by unfold clampI; rw [if_neg (by omega), if_neg (by omega)]
      rw [e]; exact toInt_of hn (by omega) (by omega) h3

end Go.Proofs.Ytingdfbolageeaa.Ceil
