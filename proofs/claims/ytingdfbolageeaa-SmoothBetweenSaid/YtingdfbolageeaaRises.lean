/-
  One never waits less for more: sums and products of floats rise; and SmoothRises' walk.
-/
import Derived.Test.YtingdfbolageeaaAwake
set_option linter.unusedVariables false
namespace Go.Proofs.Ytingdfbolageeaa.Rises
open Go.RowKit Go.Proofs.Ytingdfbolageeaa.Fl Go.Proofs.Ytingdfbolageeaa.Val Go.Proofs.Ytingdfbolageeaa.Rnd Go.Proofs.Ytingdfbolageeaa.Rn Go.Proofs.Ytingdfbolageeaa.Ceil Go.Proofs.Ytingdfbolageeaa.Mn Go.Proofs.Ytingdfbolageeaa.Bef Go.Proofs.Ytingdfbolageeaa.Best Go.Proofs.Ytingdfbolageeaa.WaitW Go.Proofs.Ytingdfbolageeaa.Awake Ieee

theorem fin_or_inf {x : Nat} (h : isN x = false) : rg x < INF ∨ rg x = INF := by
  rw [isN_rg] at h
  have : ¬ 0x7ff0000000000000 < rg x := by simpa using h
  unfold INF; omega
theorem fin_E {x : Nat} (h : rg x < INF) : -(rv INF : Int) < E x ∧ E x < (rv INF : Int) := by
  have := rv_lt h
  unfold E; split <;> omega
theorem E_bd {x : Nat} (h : isN x = false) : -(rv INF : Int) ≤ E x ∧ E x ≤ (rv INF : Int) := by
  rcases fin_or_inf h with h | h
  · have := fin_E h; omega
  · have e := inf_E h
    split at e <;> omega
theorem inf_read {x : Nat} (h : rg x = INF) : F.read x = .infinity (sg x) := by
  rw [read_eq, h]
  rw [if_neg (by decide), if_neg (by decide), if_pos (show INF = 9218868437227405312 from rfl)]
theorem inf_word {x : Nat} (h : rg x = INF) : E (F.word (sg x) INF) = E x ∧ isN (F.word (sg x) INF) = false := by
  rw [word_E _ (Nat.le_refl _), inf_E h]
  exact ⟨rfl, word_isN _ (Nat.le_refl _)⟩

/-- A sum, by value. -/
theorem add_E {x y r : Nat} (hx : isN x = false) (hy : isN y = false) (h : floatBits .add .f64 x y = some r) : isN r = false ∧
    ((rg x < INF ∧ rg y < INF ∧ E r = RN 0 (E x + E y)) ∨ (rg x = INF ∧ E r = E x) ∨ (rg x < INF ∧ rg y = INF ∧ E r = E y)) := by
  rcases fin_or_inf hx with fx | fx
  · rcases fin_or_inf hy with fy | fy
    · obtain ⟨r', e, h1, h2⟩ := add_fin fx fy
      rw [h] at e; injection e with e; subst e
      exact ⟨h2, .inl ⟨fx, fy, h1⟩⟩
    · obtain ⟨m, i, ex, _, _⟩ := fin_read fx
      have hs : floatBits .add .f64 x y = ((F.read x).sum (F.read y)).map F.write := rfl
      rw [hs, ex, inf_read fy] at h
      simp only [Datum.sum, Option.map_some, Option.some.injEq] at h
      obtain ⟨e1, e2⟩ := inf_word fy
      have h : F.word (sg y) INF = r := h
      subst h
      exact ⟨e2, .inr (.inr ⟨fx, fy, e1⟩)⟩
  · have hs : floatBits .add .f64 x y = ((F.read x).sum (F.read y)).map F.write := rfl
    obtain ⟨e1, e2⟩ := inf_word fx
    rw [hs, inf_read fx] at h
    have hr : r = F.word (sg x) INF := by
      rcases fin_or_inf hy with fy | fy
      · obtain ⟨m, i, ey, _, _⟩ := fin_read fy
        rw [ey] at h
        simp only [Datum.sum, Option.map_some, Option.some.injEq] at h
        exact h.symm
      · rw [inf_read fy] at h
        simp only [Datum.sum] at h
        split at h
        · simp only [Option.map_some, Option.some.injEq] at h; exact h.symm
        · cases h
    subst hr
    exact ⟨e2, .inr (.inl ⟨fx, e1⟩)⟩
theorem add_mono_l {x x' y r r' : Nat} (hx : isN x = false) (hx' : isN x' = false) (hy : isN y = false) (hle : E x ≤ E x') (h : floatBits .add .f64 x y = some r) (h' : floatBits .add .f64 x' y = some r') : E r ≤ E r' := by
  obtain ⟨n1, c⟩ := add_E hx hy h
  obtain ⟨n2, c'⟩ := add_E hx' hy h'
  have b1 := E_bd n1; have b2 := E_bd n2
  have i1 : rg x' = INF → -(rv INF : Int) < E x' → E x' = rv INF := by intro h g; have e := inf_E h; split at e <;> omega
  have i2 : rg x = INF → E x = rv INF ∨ E x = -(rv INF : Int) := by intro h; have e := inf_E h; split at e <;> omega
  rcases c with ⟨f1, f2, e⟩ | ⟨f1, e⟩ | ⟨f1, f2, e⟩
  · have := fin_E f1
    rcases c' with ⟨g1, g2, e'⟩ | ⟨g1, e'⟩ | ⟨g1, g2, e'⟩
    · rw [e, e']; exact RN_mono 0 (by omega)
    · have := i1 g1 (by omega); omega
    · omega
  · rcases i2 f1 with h | h
    · have := E_bd hx'
      rcases c' with ⟨g1, g2, e'⟩ | ⟨g1, e'⟩ | ⟨g1, g2, e'⟩
      · have := fin_E g1; omega
      · omega
      · have := fin_E g1; omega
    · omega
  · have := fin_E f1
    rcases c' with ⟨g1, g2, e'⟩ | ⟨g1, e'⟩ | ⟨g1, g2, e'⟩
    · omega
    · have := i1 g1 (by omega); omega
    · omega
theorem add_mono_r {x y y' r r' : Nat} (hx : isN x = false) (hy : isN y = false) (hy' : isN y' = false) (hle : E y ≤ E y') (h : floatBits .add .f64 x y = some r) (h' : floatBits .add .f64 x y' = some r') : E r ≤ E r' := by
  obtain ⟨n1, c⟩ := add_E hx hy h
  obtain ⟨n2, c'⟩ := add_E hx hy' h'
  have b1 := E_bd n1; have b2 := E_bd n2
  have i1 : rg y' = INF → -(rv INF : Int) < E y' → E y' = rv INF := by intro h g; have e := inf_E h; split at e <;> omega
  have i2 : rg y = INF → E y = rv INF ∨ E y = -(rv INF : Int) := by intro h; have e := inf_E h; split at e <;> omega
  rcases c with ⟨f1, f2, e⟩ | ⟨f1, e⟩ | ⟨f1, f2, e⟩
  · have := fin_E f2
    rcases c' with ⟨g1, g2, e'⟩ | ⟨g1, e'⟩ | ⟨g1, g2, e'⟩
    · rw [e, e']; exact RN_mono 0 (by omega)
    · omega
    · have := i1 g2 (by omega); omega
  · rcases c' with ⟨g1, g2, e'⟩ | ⟨g1, e'⟩ | ⟨g1, g2, e'⟩ <;> omega
  · rcases i2 f2 with h | h
    · have := E_bd hy'
      rcases c' with ⟨g1, g2, e'⟩ | ⟨g1, e'⟩ | ⟨g1, g2, e'⟩
      · have := fin_E g2; omega
      · omega
      · omega
    · omega

theorem E_four : E four = 4 * K := by decide +kernel
theorem fin_four : rg four < INF := by decide
/-- Four times a float. -/
theorem four_E {x : Nat} (hx : isN x = false) : ∃ r, floatBits .mul .f64 four x = some r ∧ isN r = false ∧ ((rg x < INF ∧ E r = RN 1074 (4 * K * E x)) ∨ (rg x = INF ∧ E r = E x)) := by
  rcases fin_or_inf hx with fx | fx
  · obtain ⟨r, e, h1, h2⟩ := mul_fin fin_four fx
    exact ⟨r, e, h2, .inl ⟨fx, by rw [h1, E_four]⟩⟩
  · have hs : floatBits .mul .f64 four x = ((F.read four).product (F.read x)).map F.write := rfl
    obtain ⟨e1, e2⟩ := inf_word fx
    refine ⟨F.word (sg x) INF, ?_, e2, .inr ⟨fx, e1⟩⟩
    rw [hs, inf_read fx]
    have e4 : F.read four = .number false 4503599627370496 (-50) := by decide +kernel
    rw [e4]
    simp only [Datum.product]
    rw [if_neg (by decide)]
    simp only [Option.map_some, Bool.xor_false]
    rfl
theorem four_mono {x x' r r' : Nat} (hx : isN x = false) (hx' : isN x' = false) (hle : E x ≤ E x') (h : floatBits .mul .f64 four x = some r) (h' : floatBits .mul .f64 four x' = some r') : E r ≤ E r' := by
  obtain ⟨q, e, n1, c⟩ := four_E hx
  rw [h] at e; injection e with e; subst e
  obtain ⟨q, e, n2, c'⟩ := four_E hx'
  rw [h'] at e; injection e with e; subst e
  have b1 := E_bd n1; have b2 := E_bd n2
  have hk := Kpos
  rcases c with ⟨f1, e⟩ | ⟨f1, e⟩
  · have := fin_E f1
    rcases c' with ⟨g1, e'⟩ | ⟨g1, e'⟩
    · rw [e, e']; exact RN_mono _ (Int.mul_le_mul_of_nonneg_left hle (by omega))
    · have e2 := inf_E g1
      split at e2 <;> omega
  · have e2 := inf_E f1
    split at e2
    · omega
    · rcases c' with ⟨g1, e'⟩ | ⟨g1, e'⟩
      · have := fin_E g1; omega
      · omega

theorem not_nan_of_add {x y r : Nat} (h : floatBits .add .f64 x y = some r) : isN x = false ∧ isN y = false := by
  constructor
  · rcases hx : isN x with _ | _
    · rfl
    · rw [none_of_nan (.inl rfl) (.inl hx)] at h; cases h
  · rcases hy : isN y with _ | _
    · rfl
    · rw [none_of_nan (.inl rfl) (.inr hy)] at h; cases h

theorem waitF_bd (mean spread : Nat) : 2 ≤ waitF mean spread ∧ waitF mean spread ≤ 60 := by
  unfold waitF
  split
  · split
    · omega
    · exact clampI_bd _
  · omega
/-- One never waits less: for a greater mean. -/
theorem rises_l {mean a spread f m : Nat} (hf : Is .mul four spread f) (hm : Is .add mean f m) (nm : isN m = false) (na : isN a = false) (hle : E mean ≤ E a) : waitF mean spread ≤ waitF a spread := by
  rw [wait_of hf hm, if_neg (by simp [nm])]
  rcases hm with hm | ⟨_, hm⟩
  · obtain ⟨n1, n2⟩ := not_nan_of_add hm
    rcases hf with hf | ⟨_, hf⟩
    · unfold waitF
      rw [hf, Option.bind_some]
      cases e : floatBits .add .f64 a f with
      | none => exact (clampI_bd _).2
      | some r =>
        simp only []
        split
        · exact (clampI_bd _).2
        · exact clampI_mono (ceilZ_mono (add_mono_l n1 na n2 hle hm e))
    · rw [hf] at n2; cases n2
  · rw [hm] at nm; cases nm
/-- For a greater spread. -/
theorem rises_r {mean spread b f m : Nat} (hf : Is .mul four spread f) (hm : Is .add mean f m) (nm : isN m = false) (ns : isN spread = false) (nb : isN b = false) (hle : E spread ≤ E b) : waitF mean spread ≤ waitF mean b := by
  rw [wait_of hf hm, if_neg (by simp [nm])]
  rcases hm with hm | ⟨_, hm⟩
  · obtain ⟨n1, n2⟩ := not_nan_of_add hm
    rcases hf with hf | ⟨_, hf⟩
    · obtain ⟨q, hq, nq, _⟩ := four_E nb
      unfold waitF
      rw [hq, Option.bind_some]
      cases e : floatBits .add .f64 mean q with
      | none => exact (clampI_bd _).2
      | some r =>
        simp only []
        split
        · exact (clampI_bd _).2
        · exact clampI_mono (ceilZ_mono (add_mono_r n1 n2 nq (four_mono ns nb hle hf hq) hm e))
    · rw [hf] at n2; cases n2
  · rw [hm] at nm; cases nm

/-- a >= b: both are numbers, and so are their values. -/
theorem ge_E {a b : Nat} (h : (FloatKind.f64.format.order a b == some .gt || FloatKind.f64.format.order a b == some .eq) = true) : isN a = false ∧ isN b = false ∧ E b ≤ E a := by
  have na : isN a = false := by
    rcases ha : isN a with _ | _
    · rfl
    · rw [isN_decode] at ha
      unfold Ieee.Format.order at h
      cases hx : FloatKind.f64.format.read a <;> rw [hx] at ha h <;> first | (cases ha; done) | (simp [Datum.order] at h)
  have nb : isN b = false := by
    rcases hb : isN b with _ | _
    · rfl
    · rw [isN_decode] at hb
      unfold Ieee.Format.order at h
      cases hx : FloatKind.f64.format.read a <;> cases hy : FloatKind.f64.format.read b <;> rw [hy] at hb <;> first | (cases hb; done) | (rw [hx, hy] at h; simp [Datum.order] at h)
  refine ⟨na, nb, ?_⟩
  rw [show FloatKind.f64.format.order a b = F.order a b from rfl, order_E na nb] at h
  unfold cmpZ at h
  by_cases h1 : E a < E b
  · rw [if_pos h1] at h; simp at h
  · omega

theorem smoothRises_walk (mean spread more : Nat) (w : World) : Calls Try.prog 6 #[.float .f64 mean, .float .f64 spread, .float .f64 more] w fun e w' => e = .returned (.bool true) ∧ Below w.heap.size w w' := by
  obtain ⟨c1, c2⟩ := waitF_bd mean spread
  have t1 : decide (waitF mean spread < 2) = false := decide_eq_false (by omega)
  have t2 : decide (60 < waitF mean spread) = false := decide_eq_false (by omega)
  replace c1 := Lib.hid c1; replace c2 := Lib.hid c2
  go_enter Try.func6, Try.ntmps6
  go_wp2_with fail
  refine (awake_any _).mono ?_; rintro e w1 ⟨rfl, hb⟩; replace hb := Lib.hid hb
  go_wp2_with fail
  refine (wait_walk _ _ _).mono ?_; rintro e w2 ⟨rfl, n, rfl⟩
  go_wp2_with fail
  refine (abs_walk _ _).mono ?_; rintro e w2 ⟨rfl, hw2⟩
  have b2 : Below w.heap.size w w2 := by rw [← hw2]; exact below_drewN hb.out _
  clear hw2; replace b2 := Lib.hid b2
  obtain ⟨A, hA⟩ : ∃ A, opV .add mean (absF more) w2 = A := ⟨_, rfl⟩
  have X1 := fun t => run_add Try.prog t mean (absF more) w2
  rw [hA] at X1; clear hA
  go_wp2_with fail
  refine (abs_walk _ _).mono ?_; rintro e w3 ⟨rfl, hw3⟩
  have b3 : Below w.heap.size w w3 := by rw [← hw3]; exact below_drewN b2.out _
  clear hw3 X1; replace b3 := Lib.hid b3
  obtain ⟨B, hB⟩ : ∃ B, opV .add spread (absF more) w3 = B := ⟨_, rfl⟩
  have X2 := fun t => run_add Try.prog t spread (absF more) w3
  rw [hB] at X2; clear hB
  rcases ta : (FloatKind.f64.format.order A mean == some .gt || FloatKind.f64.format.order A mean == some .eq) with _ | _
  · go_wp2_with fail
    go_ret
    exact ⟨rfl, below_drewN b3.out _⟩
  · rcases tb : (FloatKind.f64.format.order B spread == some .gt || FloatKind.f64.format.order B spread == some .eq) with _ | _
    · go_wp2_with fail
      go_ret
      exact ⟨rfl, below_drewN b3.out _⟩
    · have ga := Lib.hid (ge_E ta)
      have gb := Lib.hid (ge_E tb)
      go_wp2_with fail
      refine (wait_walk _ _ _).mono ?_; rintro e w4 ⟨rfl, n4, hw4⟩
      have b4 : Below w.heap.size w w4 := by rw [hw4, World.drewN_drewN]; exact below_drewN b3.out _
      clear hw4; replace b4 := Lib.hid b4
      go_wp2_with fail
      refine (wait_walk _ _ _).mono ?_; rintro e w5 ⟨rfl, n5, hw5⟩
      have b5 : Below w.heap.size w w5 := by rw [hw5]; exact below_drewN b4.out _
      clear hw5 X2 ta tb; replace b5 := Lib.hid b5
      have hf := opV_is .mul four spread w5
      change Is .mul four spread (opV .mul 4616189618054758400 spread w5) at hf
      have X3 := fun t => run_mul Try.prog t 4616189618054758400 spread w5
      generalize opV .mul 4616189618054758400 spread w5 = f at hf X3
      generalize opN .mul 4616189618054758400 spread = k at X3
      have hm := opV_is .add mean f (w5.drewN k)
      have X4 := fun t => run_add Try.prog t mean f (w5.drewN k)
      generalize opV .add mean f (w5.drewN k) = m at hm X4
      replace hf := Lib.hid hf; replace hm := Lib.hid hm
      go_wp2_with fail
      refine (isNaN_walk _ _).mono ?_; rintro e w6 ⟨rfl, hw6⟩
      have b6 : Below w.heap.size w w6 := by rw [← hw6]; exact below_drewN b5.out _
      clear hw6 X3 X4; replace b6 := Lib.hid b6
      rcases nm : isN m with _ | _
      · have l1 := rises_l hf.out hm.out nm ga.out.1 ga.out.2.2
        have l2 := rises_r hf.out hm.out nm gb.out.2.1 gb.out.1 gb.out.2.2
        have q1 : decide (waitF mean spread ≤ waitF A spread) = true := decide_eq_true l1
        have q2 : decide (waitF mean spread ≤ waitF mean B) = true := decide_eq_true l2
        clear l1 l2
        go_wp2_with fail
        go_ret
        exact ⟨rfl, b6.out⟩
      · go_wp2_with fail
        go_ret
        exact ⟨rfl, b6.out⟩

end Go.Proofs.Ytingdfbolageeaa.Rises
