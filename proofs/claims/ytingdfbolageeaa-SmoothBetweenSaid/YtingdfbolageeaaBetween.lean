/-
  A mean lies between: by value, with how far rounding errs. No program in sight, but the model's own Min and Max.
-/
import Derived.Test.YtingdfbolageeaaRises
set_option linter.unusedVariables false
set_option exponentiation.threshold 4000
namespace Go.Proofs.Ytingdfbolageeaa.Between
open Go.RowKit Go.Proofs.Ytingdfbolageeaa.Fl Go.Proofs.Ytingdfbolageeaa.Val Go.Proofs.Ytingdfbolageeaa.Rnd Go.Proofs.Ytingdfbolageeaa.Rn Go.Proofs.Ytingdfbolageeaa.Ceil Go.Proofs.Ytingdfbolageeaa.Mn Go.Proofs.Ytingdfbolageeaa.Awake Go.Proofs.Ytingdfbolageeaa.Rises Ieee

def TOP : Nat := 6850974717710472879
def ONE : Nat := 4607182418800017408
def EPS : Nat := 4472406533629990549
theorem E_one : E ONE = K := by decide +kernel
theorem E_zero : E 0 = 0 := by decide
theorem isN_top : isN TOP = false := by rw [isN_rg]; decide
theorem isN_one : isN ONE = false := by rw [isN_rg]; decide
theorem isN_zero : isN 0 = false := by rw [isN_rg]; decide
theorem fin_eps : rg EPS < INF := by decide
theorem eps_lo : ((2 ^ 1044 : Nat) : Int) ≤ E EPS := by decide +kernel
theorem eps_hi : E EPS ≤ (K : Int) := by decide +kernel
theorem top_pos : (0 : Int) ≤ E TOP := by decide +kernel
theorem top_hi : RN 0 (2 * E TOP) < (rv INF : Int) ∧ 2 * E TOP < (rv INF : Int) := by constructor <;> decide +kernel
theorem top_lo : -(rv INF : Int) < RN 0 (-(2 * E TOP)) := by decide +kernel

theorem fin_of {x : Nat} (h : isN x = false) (h1 : -(rv INF : Int) < E x) (h2 : E x < (rv INF : Int)) : rg x < INF := by
  rcases fin_or_inf h with f | f
  · exact f
  · have e := inf_E f
    split at e <;> omega

theorem RN_zero (B : Nat) : RN B 0 = 0 := by
  unfold RN
  have := rung_scale B 0
  rw [Nat.zero_mul] at this
  have h2 := rung_rv 0
  rw [rv_zero.2 rfl] at h2
  rw [if_neg (by omega), Int.natAbs_zero, this, h2]
  simp [rv_zero.2]

/-- A float is itself, rounded. -/
theorem RN_self {x : Nat} (h : rg x < INF) : RN 0 (E x) = E x := by
  unfold E
  cases sg x
  · simp only [Bool.false_eq_true, if_false]
    unfold RN
    rw [if_neg (by omega), Int.natAbs_natCast, rung_rv, Nat.min_eq_left (by omega)]
  · simp only [if_true]
    by_cases h0 : rv (rg x) = 0
    · rw [h0]; exact RN_zero 0
    · unfold RN
      rw [if_pos (by omega), Int.natAbs_neg, Int.natAbs_natCast, rung_rv, Nat.min_eq_left (by omega)]
theorem RN_scale (B : Nat) (z : Int) : RN B (z * ((2 ^ B : Nat) : Int)) = RN 0 z := by
  have hp : (0 : Int) < ((2 ^ B : Nat) : Int) := by have := Nat.two_pow_pos B; omega
  have e : (z * ((2 ^ B : Nat) : Int)).natAbs = z.natAbs * 2 ^ B := by rw [Int.natAbs_mul, Int.natAbs_natCast]
  unfold RN
  rw [e, rung_scale]
  by_cases h : z < 0
  · rw [if_pos h, if_pos (Int.mul_neg_of_neg_of_pos h hp)]
  · rw [if_neg h, if_neg (by have := Int.mul_nonneg (show 0 ≤ z by omega) (Int.le_of_lt hp); omega)]

/-- A power of two is a float. -/
theorem RN_pow {k : Nat} (h : 2 ^ k < rv INF) : RN 0 ((2 ^ k : Nat) : Int) = ((2 ^ k : Nat) : Int) := by
  have hl : (2 ^ k).log2 = k := Nat.log2_two_pow
  have hd : 2 ^ k % 2 ^ last 0 (2 ^ k) = 0 := by
    unfold last; rw [hl]
    have : k = max (k - 52) 0 + (k - max (k - 52) 0) := by omega
    generalize max (k - 52) 0 = L at *
    rw [this, Nat.pow_add]; exact Nat.mul_mod_right _ _
  have hr : rv (rung 0 (2 ^ k)) = 2 ^ k := by
    have := rv_rung 0 (2 ^ k)
    rw [Nat.pow_zero, Nat.mul_one, he_exact hd, Nat.div_mul_cancel (Nat.dvd_of_mod_eq_zero hd)] at this
    exact this
  have hI : rung 0 (2 ^ k) ≤ INF := by
    by_cases hI : rung 0 (2 ^ k) ≤ INF
    · exact hI
    · have h1 := rv_lt (a := INF) (b := rung 0 (2 ^ k)) (by omega)
      omega
  unfold RN
  rw [if_neg (by omega), Int.natAbs_natCast, Nat.min_eq_left hI, hr]

/-- How far rounding errs. -/
theorem RN_err (z : Int) (h1 : -(rv INF : Int) < RN 0 z) (h2 : RN 0 z < (rv INF : Int)) :
    2 * RN 0 z ≤ 2 * z + ((2 ^ last 0 z.natAbs : Nat) : Int) ∧ 2 * z ≤ 2 * RN 0 z + ((2 ^ last 0 z.natAbs : Nat) : Int) ∧ (last 0 z.natAbs = 0 → RN 0 z = z) := by
  have hr : rung 0 z.natAbs ≤ INF := by
    by_cases hI : rung 0 z.natAbs ≤ INF
    · exact hI
    · exfalso
      unfold RN at h1 h2
      rw [Nat.min_eq_right (by omega)] at h1 h2
      split at h1 <;> simp_all <;> omega
  have e := rv_rung 0 z.natAbs
  rw [Nat.pow_zero, Nat.mul_one] at e
  obtain ⟨a, b⟩ := he_err z.natAbs (last 0 z.natAbs)
  have hz : last 0 z.natAbs = 0 → he z.natAbs (last 0 z.natAbs) * 2 ^ last 0 z.natAbs = z.natAbs := by
    intro h; rw [h, he_zero, Nat.pow_zero, Nat.mul_one]
  rw [← e] at a b hz
  unfold RN
  rw [Nat.min_eq_left hr]
  generalize rv (rung 0 z.natAbs) = R at *
  generalize 2 ^ last 0 z.natAbs = G at *
  by_cases hn : z < 0
  · rw [if_pos hn]
    refine ⟨by omega, by omega, fun h => ?_⟩
    have := hz h; omega
  · rw [if_neg hn]
    refine ⟨by omega, by omega, fun h => ?_⟩
    have := hz h; omega

/-- The slack is as great as the error. -/
theorem slack_ge {z s A SL : Int} (hz : (z.natAbs : Int) ≤ s) (hs : s ≤ 2 * E TOP) (h1 : -(rv INF : Int) < RN 0 z) (h2 : RN 0 z < (rv INF : Int)) (hA : A = RN 0 s) (hSL : SL = RN 1074 (E EPS * A)) :
    0 ≤ SL ∧ RN 0 z ≤ z + SL ∧ z ≤ RN 0 z + SL := by
  have hs0 : 0 ≤ s := by omega
  have hA0 : 0 ≤ A := by rw [hA, ← RN_zero 0]; exact RN_mono 0 hs0
  have he0 : 0 ≤ E EPS := by have := eps_lo; omega
  have hSL0 : 0 ≤ SL := by rw [hSL, ← RN_zero 1074]; exact RN_mono _ (Int.mul_nonneg he0 hA0)
  obtain ⟨e1, e2, e3⟩ := RN_err z h1 h2
  refine ⟨hSL0, ?_⟩
  by_cases hl : last 0 z.natAbs = 0
  · have := e3 hl; omega
  · have hl2 : last 0 z.natAbs = z.natAbs.log2 - 52 := by unfold last at hl ⊢; omega
    have hl3 : 53 ≤ z.natAbs.log2 := by unfold last at hl; omega
    obtain ⟨S, rfl⟩ : ∃ S : Nat, s = S := ⟨s.toNat, by omega⟩
    have hlog : z.natAbs.log2 ≤ S.log2 := log2_mono (by omega)
    have hS0 : S ≠ 0 := by
      intro h; subst h
      have : z.natAbs = 0 := by omega
      rw [this] at hl3; revert hl3; decide
    have hj := Nat.log2_self_le hS0
    generalize hjj : S.log2 = j at *
    obtain ⟨i, rfl⟩ : ∃ i, j = i + 30 := ⟨j - 30, by omega⟩
    have hV := top_hi.2
    have hA1 : ((2 ^ (i + 30) : Nat) : Int) ≤ A := by
      rw [hA]
      have := RN_mono 0 (show ((2 ^ (i + 30) : Nat) : Int) ≤ (S : Int) by omega)
      rw [RN_pow (by omega)] at this
      exact this
    have hp : ((2 ^ i : Nat) : Int) * ((2 ^ 1074 : Nat) : Int) ≤ E EPS * A := by
      have e : ((2 ^ i : Nat) : Int) * ((2 ^ 1074 : Nat) : Int) = ((2 ^ 1044 : Nat) : Int) * ((2 ^ (i + 30) : Nat) : Int) := by
        rw [← Int.natCast_mul, ← Int.natCast_mul, ← Nat.pow_add, ← Nat.pow_add]
        have : i + 1074 = 1044 + (i + 30) := by omega
        rw [this]
      rw [e]
      exact Int.mul_le_mul eps_lo hA1 (Int.natCast_nonneg _) he0
    have hq : 2 ^ i ≤ 2 ^ (i + 30) := Nat.pow_le_pow_right (by omega) (by omega)
    have hSL1 : ((2 ^ i : Nat) : Int) ≤ SL := by
      rw [hSL]
      have := RN_mono 1074 hp
      rw [RN_scale, RN_pow (by omega)] at this
      exact this
    have hG : 2 ^ last 0 z.natAbs ≤ 2 ^ i := Nat.pow_le_pow_right (by omega) (by omega)
    omega

/-- The mean's parts, by value. -/
theorem mean_vals {old now part : Nat} (ho : isN old = false) (hn : isN now = false) (hp : isN part = false) (bo1 : -E TOP ≤ E old) (bo2 : E old ≤ E TOP) (bn1 : -E TOP ≤ E now) (bn2 : E now ≤ E TOP) (p0 : 0 ≤ E part) (p1 : E part ≤ K) :
    isN (meanF old now part) = false ∧ ∃ D S : Int, D = RN 0 (E now - E old) ∧ -(rv INF : Int) < D ∧ D < (rv INF : Int) ∧ S = RN 1074 (E part * D) ∧ (0 ≤ D → 0 ≤ S ∧ S ≤ D) ∧ (D ≤ 0 → D ≤ S ∧ S ≤ 0) ∧ (E part = K → S = D) ∧ E (meanF old now part) = RN 0 (E old + S) := by
  obtain ⟨t1, t2⟩ := top_hi
  have t3 := top_lo
  have t0 := top_pos
  have hk := Kpos
  have fo := fin_of ho (by omega) (by omega)
  have fn := fin_of hn (by omega) (by omega)
  have fp : rg part < INF := by
    have := big_inf.2
    exact fin_of hp (by omega) (by omega)
  obtain ⟨d, ed, vd, nd⟩ := add_fin fn (y := flip old) (by rw [(flip_facts old).2]; exact fo)
  rw [← sub_eq] at ed
  rw [flip_E] at vd
  have vd : E d = RN 0 (E now - E old) := by rw [vd]; rfl
  have d1 : -(rv INF : Int) < E d := by
    rw [vd]
    have := RN_mono 0 (show -(2 * E TOP) ≤ E now - E old by omega); omega
  have d2 : E d < (rv INF : Int) := by
    rw [vd]
    have := RN_mono 0 (show E now - E old ≤ 2 * E TOP by omega); omega
  have fd := fin_of nd d1 d2
  obtain ⟨s, es, vs, ns⟩ := mul_fin fp fd
  have hK : RN 1074 ((K : Int) * E d) = E d := by
    rw [Int.mul_comm]; exact (RN_scale 1074 (E d)).trans (RN_self fd)
  have s1 : 0 ≤ E d → 0 ≤ E s ∧ E s ≤ E d := by
    intro h
    rw [vs]
    have a := RN_mono 1074 (Int.mul_nonneg p0 h)
    have b := RN_mono 1074 (Int.mul_le_mul_of_nonneg_right p1 h)
    rw [RN_zero] at a; rw [hK] at b
    exact ⟨a, b⟩
  have s2 : E d ≤ 0 → E d ≤ E s ∧ E s ≤ 0 := by
    intro h
    rw [vs]
    have a := RN_mono 1074 (Int.mul_nonpos_of_nonneg_of_nonpos p0 h)
    have b := RN_mono 1074 (show (K : Int) * E d ≤ E part * E d by
      have := Int.mul_le_mul_of_nonneg_right p1 (show 0 ≤ -E d by omega)
      rw [Int.mul_neg, Int.mul_neg] at this; omega)
    rw [RN_zero] at a; rw [hK] at b
    exact ⟨b, a⟩
  have fs : rg s < INF := by
    refine fin_of ns ?_ ?_
    · by_cases h : 0 ≤ E d
      · have := s1 h; omega
      · have := s2 (by omega); omega
    · by_cases h : 0 ≤ E d
      · have := s1 h; omega
      · have := s2 (by omega); omega
  obtain ⟨m, em, vm, nm⟩ := add_fin fo fs
  have hm : meanF old now part = m := by
    rw [mean_of ho hn (.inl ed) (.inl es) (.inl em), if_neg (by simp [nm])]
  rw [hm]
  exact ⟨nm, E d, E s, vd, d1, d2, vs, s1, s2, fun h => by rw [vs, h]; exact hK, vm⟩

/-- The law: between, but for the slack. -/
theorem between {old now part a sl : Nat} (ho : isN old = false) (hn : isN now = false) (hp : isN part = false) (bo1 : -E TOP ≤ E old) (bo2 : E old ≤ E TOP) (bn1 : -E TOP ≤ E now) (bn2 : E now ≤ E TOP) (p0 : 0 ≤ E part) (p1 : E part ≤ K)
    (hA : E a = RN 0 (((E old).natAbs : Int) + ((E now).natAbs : Int))) (hSL : E sl = RN 1074 (E EPS * E a)) :
    RN 0 (min (E old) (E now) - E sl) ≤ E (meanF old now part) ∧ E (meanF old now part) ≤ RN 0 (max (E old) (E now) + E sl) := by
  obtain ⟨t1, t2⟩ := top_hi
  have fo := fin_of ho (by omega) (by omega)
  obtain ⟨_, D, S, hD, d1, d2, _, s1, s2, _, hm⟩ := mean_vals ho hn hp bo1 bo2 bn1 bn2 p0 p1
  rw [hm]
  rw [hD] at d1 d2
  obtain ⟨z0, z1, z2⟩ := slack_ge (z := E now - E old) (s := ((E old).natAbs : Int) + ((E now).natAbs : Int)) (by omega) (by omega) d1 d2 hA hSL
  rw [← hD] at z1 z2
  constructor
  · apply RN_mono
    by_cases h : 0 ≤ D
    · have := s1 h; omega
    · have := s2 (by omega); omega
  · apply RN_mono
    by_cases h : 0 ≤ D
    · have := s1 h; omega
    · have := s2 (by omega); omega

/-- The model's own Min and Max, of numbers. -/
theorem pick_min {x y : Nat} (hx : rg x < INF) (hy : rg y < INF) : ∃ r, Extern.MathDim.pick "math.archMin" true .lt #[.float .f64 x, .float .f64 y] = pure (.float .f64 r) ∧ E r = min (E x) (E y) ∧ isN r = false := by
  refine ⟨_, rfl, ?_⟩
  have nx : isN x = false := by rw [isN_rg]; unfold INF at hx; simp; omega
  have ny : isN y = false := by rw [isN_rg]; unfold INF at hy; simp; omega
  have ho : (FloatKind.f64.decode x).order (FloatKind.f64.decode y) = some (cmpZ (E x) (E y)) := order_E nx ny
  obtain ⟨m, i, ex, hi, ux⟩ := fin_read hx
  obtain ⟨n, j, ey, hj, uy⟩ := fin_read hy
  have dx : FloatKind.f64.decode x = .number (sg x) m i := ex
  have dy : FloatKind.f64.decode y = .number (sg y) n j := ey
  rw [dx, dy] at ho
  have h0 : ∀ s, (Datum.number (sg x) m i == Datum.infinity s) = false := fun s => by rw [beq_eq_false_iff_ne]; intro h; cases h
  have h1 : ∀ s, (Datum.number (sg y) n j == Datum.infinity s) = false := fun s => by rw [beq_eq_false_iff_ne]; intro h; cases h
  simp only [dx, dy, h0, h1, Datum.isNaN, Bool.or_self, Bool.false_eq_true, if_false, ho]
  split
  · rename_i hz
    simp only [Bool.and_eq_true] at hz
    have zx : E x = 0 := by
      cases m with
      | zero => rw [← ux]; unfold units; rw [signed_eq]; simp
      | succ m => simp [Datum.isZero] at hz
    have zy : E y = 0 := by
      cases n with
      | zero => rw [← uy]; unfold units; rw [signed_eq]; simp
      | succ m => simp [Datum.isZero] at hz
    split
    · exact ⟨by omega, nx⟩
    · exact ⟨by omega, ny⟩
  · split
    · rename_i h
      have : E x < E y := by
        unfold cmpZ at h
        by_cases h1 : E x < E y
        · exact h1
        · rw [if_neg h1] at h; split at h <;> simp at h
      exact ⟨by omega, nx⟩
    · rename_i h
      have : ¬ E x < E y := by
        intro h1
        unfold cmpZ at h
        rw [if_pos h1] at h; simp at h
      exact ⟨by omega, ny⟩
theorem pick_max {x y : Nat} (hx : rg x < INF) (hy : rg y < INF) : ∃ r, Extern.MathDim.pick "math.archMax" false .gt #[.float .f64 x, .float .f64 y] = pure (.float .f64 r) ∧ E r = max (E x) (E y) ∧ isN r = false := by
  refine ⟨_, rfl, ?_⟩
  have nx : isN x = false := by rw [isN_rg]; unfold INF at hx; simp; omega
  have ny : isN y = false := by rw [isN_rg]; unfold INF at hy; simp; omega
  have ho : (FloatKind.f64.decode x).order (FloatKind.f64.decode y) = some (cmpZ (E x) (E y)) := order_E nx ny
  obtain ⟨m, i, ex, hi, ux⟩ := fin_read hx
  obtain ⟨n, j, ey, hj, uy⟩ := fin_read hy
  have dx : FloatKind.f64.decode x = .number (sg x) m i := ex
  have dy : FloatKind.f64.decode y = .number (sg y) n j := ey
  rw [dx, dy] at ho
  have h0 : ∀ s, (Datum.number (sg x) m i == Datum.infinity s) = false := fun s => by rw [beq_eq_false_iff_ne]; intro h; cases h
  have h1 : ∀ s, (Datum.number (sg y) n j == Datum.infinity s) = false := fun s => by rw [beq_eq_false_iff_ne]; intro h; cases h
  simp only [dx, dy, h0, h1, Datum.isNaN, Bool.or_self, Bool.false_eq_true, if_false, ho]
  split
  · rename_i hz
    simp only [Bool.and_eq_true] at hz
    have zx : E x = 0 := by
      cases m with
      | zero => rw [← ux]; unfold units; rw [signed_eq]; simp
      | succ m => simp [Datum.isZero] at hz
    have zy : E y = 0 := by
      cases n with
      | zero => rw [← uy]; unfold units; rw [signed_eq]; simp
      | succ m => simp [Datum.isZero] at hz
    split
    · exact ⟨by omega, nx⟩
    · exact ⟨by omega, ny⟩
  · split
    · rename_i h
      have : E y < E x := by
        unfold cmpZ at h
        by_cases h1 : E x < E y
        · rw [if_pos h1] at h; simp at h
        · by_cases h2 : E x = E y
          · rw [if_neg h1, if_pos h2] at h; simp at h
          · omega
      exact ⟨by omega, nx⟩
    · rename_i h
      have : ¬ E y < E x := by
        intro h1
        unfold cmpZ at h
        rw [if_neg (by omega), if_neg (by omega)] at h; simp at h
      exact ⟨by omega, ny⟩

theorem min_walk (x y : Nat) (hx : rg x < INF) (hy : rg y < INF) (w : World) : Calls Try.prog 14 #[.float .f64 x, .float .f64 y] w fun e w' => (∃ r, e = .returned (.float .f64 r) ∧ E r = min (E x) (E y) ∧ isN r = false) ∧ w = w' := by
  obtain ⟨r, hp, hr⟩ := pick_min hx hy
  have hrun : (callFunc 32 #[.float .f64 x, .float .f64 y]).run Try.prog w = .ok (.value (.float .f64 r)) w := by
    rw [run_callFunc_standIn (f := 32) (e := Extern.MathDim.pick "math.archMin" true .lt) rfl rfl rfl rfl rfl, hp]; rfl
  replace hr := Lib.hid hr
  clear hp
  go_enter Try.func14, Try.ntmps14
  go_wp2_with fail
  all_goals (go_ret; exact ⟨⟨r, rfl, hr.out⟩, rfl⟩)
theorem max_walk (x y : Nat) (hx : rg x < INF) (hy : rg y < INF) (w : World) : Calls Try.prog 15 #[.float .f64 x, .float .f64 y] w fun e w' => (∃ r, e = .returned (.float .f64 r) ∧ E r = max (E x) (E y) ∧ isN r = false) ∧ w = w' := by
  obtain ⟨r, hp, hr⟩ := pick_max hx hy
  have hrun : (callFunc 34 #[.float .f64 x, .float .f64 y]).run Try.prog w = .ok (.value (.float .f64 r)) w := by
    rw [run_callFunc_standIn (f := 34) (e := Extern.MathDim.pick "math.archMax" false .gt) rfl rfl rfl rfl rfl, hp]; rfl
  replace hr := Lib.hid hr
  clear hp
  go_enter Try.func15, Try.ntmps15
  go_wp2_with fail
  all_goals (go_ret; exact ⟨⟨r, rfl, hr.out⟩, rfl⟩)

end Go.Proofs.Ytingdfbolageeaa.Between
