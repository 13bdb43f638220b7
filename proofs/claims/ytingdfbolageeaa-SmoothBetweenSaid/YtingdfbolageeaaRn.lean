/-
  What sums and products of floats come to, by value: rounded; that rounding rises, and is exact on floats. No program in sight.
-/
import Derived.Test.YtingdfbolageeaaRnd
set_option linter.unusedVariables false
namespace Go.Proofs.Ytingdfbolageeaa.Rn
open Go.Proofs.Ytingdfbolageeaa.Fl Go.Proofs.Ytingdfbolageeaa.Val Go.Proofs.Ytingdfbolageeaa.Rnd Ieee

theorem rv_le53 {k : Nat} (h : k ≤ 2 ^ 53) : rv k = k := by
  by_cases h1 : k < 2 ^ 52
  · exact rv_small h1
  · by_cases h2 : k < 2 ^ 53
    · rw [rv_big h1]
      have e1 : k / 2 ^ 52 - 1 = 0 := by omega
      rw [e1, Nat.pow_zero]; omega
    · have : k = 2 ^ 53 := by omega
      subst this; decide

theorem he_bounds (B n : Nat) : he n (last B n) ≤ 2 ^ 53 ∧ (B < last B n → 2 ^ 52 ≤ he n (last B n)) := by
  have h1 := lt_log2 n
  constructor
  · have h2 : n.log2 + 1 ≤ 53 + last B n := by unfold last; omega
    have h3 : n < 2 ^ 53 * 2 ^ last B n := by
      rw [← Nat.pow_add]; exact Nat.lt_of_lt_of_le h1 (Nat.pow_le_pow_right (by omega) h2)
    have h4 : n / 2 ^ last B n < 2 ^ 53 := Nat.div_lt_of_lt_mul (by rw [Nat.mul_comm]; exact h3)
    have := he_hi n (last B n); omega
  · intro hB
    have hl : last B n = n.log2 - 52 := by unfold last at hB ⊢; omega
    have hl2 : 52 + last B n = n.log2 := by unfold last at hB hl ⊢; omega
    have hn : n ≠ 0 := by
      intro h; subst h; rw [show Nat.log2 0 = 0 from by decide] at hl2; omega
    have h2 := Nat.log2_self_le hn
    have h4 : 2 ^ 52 ≤ n / 2 ^ last B n := by
      rw [Nat.le_div_iff_mul_le (Nat.two_pow_pos _), ← Nat.pow_add, hl2]; exact h2
    have := he_lo n (last B n); omega

theorem rv_rung (B n : Nat) : rv (rung B n) * 2 ^ B = he n (last B n) * 2 ^ last B n := by
  obtain ⟨h1, h2⟩ := he_bounds B n
  have hL : B ≤ last B n := by unfold last; omega
  unfold rung
  generalize last B n = L at *
  generalize he n L = k at *
  by_cases hB : B < L
  · have h2 := h2 hB
    obtain ⟨l, rfl⟩ : ∃ l, L = B + l := ⟨L - B, by omega⟩
    rw [show B + l - B = l by omega, Nat.pow_add, Nat.mul_comm (2 ^ B), ← Nat.mul_assoc]
    congr 1
    have hr : ¬ (l * 2 ^ 52 + k < 2 ^ 52) := by omega
    rw [rv_big hr]
    by_cases h3 : k = 2 ^ 53
    · subst h3
      have e1 : (l * 2 ^ 52 + 2 ^ 53) % 2 ^ 52 = 0 := by omega
      have e2 : (l * 2 ^ 52 + 2 ^ 53) / 2 ^ 52 - 1 = l + 1 := by omega
      rw [e1, e2, Nat.pow_succ 2 l]
      generalize 2 ^ l = z
      omega
    · have e1 : 2 ^ 52 + (l * 2 ^ 52 + k) % 2 ^ 52 = k := by omega
      have e2 : (l * 2 ^ 52 + k) / 2 ^ 52 - 1 = l := by omega
      rw [e1, e2]
  · have : L = B := by omega
    subst this
    rw [Nat.sub_self, Nat.zero_mul, Nat.zero_add, rv_le53 h1]

theorem log2_mono {a b : Nat} (h : a ≤ b) : a.log2 ≤ b.log2 := by
  by_cases h0 : a = 0
  · subst h0; rw [show Nat.log2 0 = 0 from by decide]; exact Nat.zero_le _
  · rw [Nat.le_log2 (by omega)]
    exact Nat.le_trans (Nat.log2_self_le h0) h

theorem rung_mono (B : Nat) {n n' : Nat} (h : n ≤ n') : rung B n ≤ rung B n' := by
  obtain ⟨h1, _⟩ := he_bounds B n
  obtain ⟨_, h2⟩ := he_bounds B n'
  have hl := log2_mono h
  have hL : last B n ≤ last B n' := by unfold last; omega
  by_cases e : last B n = last B n'
  · unfold rung; rw [← e]; exact Nat.add_le_add_left (he_mono _ h) _
  · have hB : B ≤ last B n := by unfold last; omega
    have h2 := h2 (by omega)
    unfold rung
    generalize last B n = L at *
    generalize last B n' = L' at *
    generalize he n L = k at *
    generalize he n' L' = k' at *
    omega

theorem he_zero (n : Nat) : he n 0 = n := by
  rw [he_exact (by omega)]; simp
theorem rung_rv (r : Nat) : rung 0 (rv r) = r := by
  by_cases h : r < 2 ^ 52
  · rw [rv_small h]
    have hl : r.log2 ≤ 51 := by
      by_cases h0 : r = 0
      · subst h0; decide
      · have := (Nat.log2_lt h0).2 h; omega
    have : last 0 r = 0 := by unfold last; omega
    unfold rung; rw [this, he_zero]; omega
  · rw [rv_big h]
    have hf : r % 2 ^ 52 < 2 ^ 52 := Nat.mod_lt _ (by omega)
    have hr : r = (r / 2 ^ 52 - 1) * 2 ^ 52 + (2 ^ 52 + r % 2 ^ 52) := by omega
    generalize r / 2 ^ 52 - 1 = e at hr ⊢
    generalize r % 2 ^ 52 = f at hf hr ⊢
    have hl : ((2 ^ 52 + f) * 2 ^ e).log2 = 52 + e := by
      rw [log2_mul_pow (by omega)]
      congr 1
      rw [Nat.log2_eq_iff (by omega)]; omega
    have hla : last 0 ((2 ^ 52 + f) * 2 ^ e) = e := by unfold last; rw [hl]; omega
    unfold rung
    rw [hla, he_exact (by rw [Nat.mul_mod_left]), Nat.mul_div_cancel _ (Nat.two_pow_pos _)]
    omega
theorem rung_scale (B n : Nat) : rung B (n * 2 ^ B) = rung 0 n := by
  by_cases h0 : n = 0
  · subst h0
    unfold rung last
    rw [Nat.zero_mul, show Nat.log2 0 = 0 from by decide, show max (0 - 52) B = B by omega, show max (0 - 52) 0 = 0 by omega]
    have := he_scale 0 0 B
    rw [Nat.zero_mul, Nat.zero_add] at this
    rw [this]; omega
  · unfold rung last
    rw [log2_mul_pow h0]
    have e1 : max (n.log2 + B - 52) B = max (n.log2 - 52) 0 + B := by omega
    rw [e1, he_scale, show max (n.log2 - 52) 0 + B - B = max (n.log2 - 52) 0 - 0 by omega]

/-- What a value is, rounded. -/
def RN (B : Nat) (z : Int) : Int := if z < 0 then -(rv (min (rung B z.natAbs) INF) : Int) else (rv (min (rung B z.natAbs) INF) : Int)

theorem RN_mono (B : Nat) {a b : Int} (h : a ≤ b) : RN B a ≤ RN B b := by
  unfold RN
  by_cases ha : a < 0
  · by_cases hb : b < 0
    · rw [if_pos ha, if_pos hb]
      have := rv_le (a := min (rung B b.natAbs) INF) (b := min (rung B a.natAbs) INF) (by have := rung_mono B (show b.natAbs ≤ a.natAbs by omega); omega)
      omega
    · rw [if_pos ha, if_neg hb]; omega
  · rw [if_neg ha, if_neg (by omega)]
    have := rv_le (a := min (rung B a.natAbs) INF) (b := min (rung B b.natAbs) INF) (by have := rung_mono B (show a.natAbs ≤ b.natAbs by omega); omega)
    omega
theorem RN_bound (B : Nat) (z : Int) : -(rv INF : Int) ≤ RN B z ∧ RN B z ≤ (rv INF : Int) := by
  have := rv_le (a := min (rung B z.natAbs) INF) (b := INF) (by omega)
  unfold RN; split <;> omega

theorem word_facts (neg : Bool) {r : Nat} (h : r ≤ INF) : sg (F.word neg r) = neg ∧ rg (F.word neg r) = r := by
  have hI : INF < 2 ^ 63 := by decide
  have eS : F.signWeight = 2 ^ 63 := rfl
  unfold Format.word sg rg
  rw [eS]
  cases neg
  · simp only [Bool.false_eq_true, if_false]
    have : r / 2 ^ 63 = 0 := by omega
    rw [this]
    exact ⟨rfl, by omega⟩
  · simp only [if_true]
    have : (2 ^ 63 + r) / 2 ^ 63 = 1 := by omega
    rw [this]
    exact ⟨rfl, by omega⟩
theorem word_E (neg : Bool) {r : Nat} (h : r ≤ INF) : E (F.word neg r) = if neg then -(rv r : Int) else (rv r : Int) := by
  obtain ⟨h1, h2⟩ := word_facts neg h
  unfold E; rw [h1, h2]
theorem word_isN (neg : Bool) {r : Nat} (h : r ≤ INF) : isN (F.word neg r) = false := by
  rw [isN_rg, (word_facts neg h).2]
  unfold INF at h
  simp; omega

theorem nearest_E (B : Nat) (neg : Bool) (mag : Nat) (place : Int) (z : Int) (hp : -1074 - (B : Int) ≤ place) (hz : (if neg then -((mag * 2 ^ (place + 1074 + B).toNat : Nat) : Int) else ((mag * 2 ^ (place + 1074 + B).toNat : Nat) : Int)) = z) :
    E (F.nearest neg mag place) = RN B z ∧ isN (F.nearest neg mag place) = false := by
  rw [nearest_eq neg mag B place hp]
  have hle : min (rung B (mag * 2 ^ (place + 1074 + ↑B).toNat)) INF ≤ INF := by omega
  refine ⟨?_, word_isN _ hle⟩
  rw [word_E _ hle]
  generalize mag * 2 ^ (place + 1074 + ↑B).toNat = n at hz hle ⊢
  subst hz
  unfold RN
  have r0 : rung B 0 = 0 := by have := rung_scale B 0; rw [Nat.zero_mul] at this; rw [this]; have := rung_rv 0; rw [rv_zero.2 rfl] at this; exact this
  cases neg
  · simp only [Bool.false_eq_true, if_false]
    rw [if_neg (by omega), Int.natAbs_natCast]
  · simp only [if_true]
    by_cases hn : n = 0
    · subst hn
      rw [r0]; simp [r0, rv_zero.2]
    · rw [if_pos (by omega), Int.natAbs_neg, Int.natAbs_natCast]

theorem fin_read {x : Nat} (h : rg x < INF) : ∃ m i, F.read x = .number (sg x) m i ∧ -1074 ≤ i ∧ units (sg x) m i = E x := by
  have h' : rg x < 0x7ff0000000000000 := h
  cases e : F.read x with
  | nan s f =>
    have hn : isN x = true := by rw [isN_decode]; show (F.read x).isNaN = true; rw [e]; rfl
    rw [isN_rg] at hn; simp at hn; omega
  | infinity s => have := (read_inf x s e).2; omega
  | number s m i =>
    obtain ⟨a, b, c, d⟩ := read_units x s m i e
    subst c
    exact ⟨m, i, rfl, a, b⟩

/-- A sum of numbers. -/
theorem add_fin {x y : Nat} (hx : rg x < INF) (hy : rg y < INF) : ∃ r, floatBits .add .f64 x y = some r ∧ E r = RN 0 (E x + E y) ∧ isN r = false := by
  obtain ⟨m, i, ex, hi, ux⟩ := fin_read hx
  obtain ⟨n, j, ey, hj, uy⟩ := fin_read hy
  have hs : floatBits .add .f64 x y = ((F.read x).sum (F.read y)).map F.write := rfl
  rw [hs, ex, ey]
  simp only [Datum.sum, Option.map_some]
  refine ⟨_, rfl, ?_⟩
  rw [← ux, ← uy, ← signed_base (sg x) m (b := min i j) (by omega) (by omega), ← signed_base (sg y) n (b := min i j) (by omega) (by omega), ← Int.add_mul]
  generalize signed (sg x) m (i - min i j).toNat + signed (sg y) n (j - min i j).toNat = T
  refine nearest_E 0 _ _ _ _ (by omega) ?_
  rw [show (min i j + 1074 + ((0 : Nat) : Int)) = min i j + 1074 by omega]
  generalize (min i j + 1074).toNat = k
  by_cases hT : T = 0
  · subst hT; simp
  · rw [if_neg hT]
    rw [Int.natCast_mul, Int.natCast_pow]
    by_cases hn : T < 0
    · rw [if_pos (by simpa using hn)]
      rw [show ((T.natAbs : Nat) : Int) = -T by omega]
      rw [Int.neg_mul, Int.neg_neg]; rfl
    · rw [if_neg (by simpa using hn)]
      rw [show ((T.natAbs : Nat) : Int) = T by omega]; rfl

/-- A product of numbers. -/
theorem mul_fin {x y : Nat} (hx : rg x < INF) (hy : rg y < INF) : ∃ r, floatBits .mul .f64 x y = some r ∧ E r = RN 1074 (E x * E y) ∧ isN r = false := by
  obtain ⟨m, i, ex, hi, ux⟩ := fin_read hx
  obtain ⟨n, j, ey, hj, uy⟩ := fin_read hy
  have hs : floatBits .mul .f64 x y = ((F.read x).product (F.read y)).map F.write := rfl
  rw [hs, ex, ey]
  simp only [Datum.product, Option.map_some]
  refine ⟨_, rfl, ?_⟩
  refine nearest_E 1074 _ _ _ _ (by omega) ?_
  rw [← ux, ← uy]
  unfold units
  rw [signed_eq, signed_eq]
  rw [show i + j + 1074 + ((1074 : Nat) : Int) = (i + 1074) + (j + 1074) by omega, Int.toNat_add (by omega) (by omega), Nat.pow_add]
  generalize (i + 1074).toNat = a
  generalize (j + 1074).toNat = b
  have e : (((m * n * (2 ^ a * 2 ^ b) : Nat)) : Int) = ((m : Int) * 2 ^ a) * ((n : Int) * 2 ^ b) := by
    rw [Int.natCast_mul, Int.natCast_mul, Int.natCast_mul, Int.natCast_pow, Int.natCast_pow]
    show (m : Int) * n * (2 ^ a * 2 ^ b) = _
    rw [Int.mul_assoc, Int.mul_assoc, Int.mul_left_comm (n : Int)]
  rw [e]
  cases sg x <;> cases sg y <;> simp [Int.neg_mul, Int.mul_neg]

def flip (x : Nat) : Nat := if sg x then rg x else 2 ^ 63 + rg x
theorem flip_facts (x : Nat) : sg (flip x) = !sg x ∧ rg (flip x) = rg x := by
  have h : rg x < 2 ^ 63 := Nat.mod_lt _ (by omega)
  unfold flip
  cases sg x
  · simp only [Bool.false_eq_true, if_false]
    unfold sg rg at *
    have : (2 ^ 63 + x % 2 ^ 63) / 2 ^ 63 = 1 := by omega
    rw [this]; exact ⟨rfl, by omega⟩
  · simp only [if_true]
    unfold sg rg at *
    have : (x % 2 ^ 63) / 2 ^ 63 = 0 := by omega
    rw [this]; exact ⟨rfl, by omega⟩
theorem flip_E (x : Nat) : E (flip x) = -E x := by
  obtain ⟨h1, h2⟩ := flip_facts x
  unfold E; rw [h1, h2]
  cases sg x <;> simp
theorem flip_isN (x : Nat) : isN (flip x) = isN x := by rw [isN_rg, isN_rg, (flip_facts x).2]
theorem sub_eq (x y : Nat) : floatBits .sub .f64 x y = floatBits .add .f64 x (flip y) := by
  show ((F.read x).sum (F.read y).opposite).map F.write = ((F.read x).sum (F.read (flip y))).map F.write
  congr 2
  obtain ⟨h1, h2⟩ := flip_facts y
  rw [read_eq, read_eq, h1, h2]
  split
  · rfl
  · split
    · rfl
    · split <;> rfl

end Go.Proofs.Ytingdfbolageeaa.Rn
