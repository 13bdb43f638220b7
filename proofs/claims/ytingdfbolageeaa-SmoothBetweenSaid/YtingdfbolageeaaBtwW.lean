/-
  The walk of SmoothBetween.
-/
import Derived.Test.YtingdfbolageeaaBetween
set_option linter.unusedVariables false
set_option exponentiation.threshold 4000
namespace Go.Proofs.Ytingdfbolageeaa.BtwW
open Go.RowKit Go.Proofs.Ytingdfbolageeaa.Fl Go.Proofs.Ytingdfbolageeaa.Val Go.Proofs.Ytingdfbolageeaa.Rnd Go.Proofs.Ytingdfbolageeaa.Rn Go.Proofs.Ytingdfbolageeaa.Ceil Go.Proofs.Ytingdfbolageeaa.Mn Go.Proofs.Ytingdfbolageeaa.Bef Go.Proofs.Ytingdfbolageeaa.Awake Go.Proofs.Ytingdfbolageeaa.Rises Go.Proofs.Ytingdfbolageeaa.Between Ieee

/-- What the tests say, by value. -/
theorem not_gt {a b : Nat} (ha : isN a = false) (hb : isN b = false) (h : (FloatKind.f64.format.order a b == some .gt) = false) : E a ≤ E b := by
  rw [show FloatKind.f64.format.order a b = F.order a b from rfl, order_E ha hb] at h
  unfold cmpZ at h
  by_cases h1 : E a < E b
  · omega
  · by_cases h2 : E a = E b
    · omega
    · rw [if_neg h1, if_neg h2] at h; simp at h
theorem not_lt {a b : Nat} (ha : isN a = false) (hb : isN b = false) (h : (FloatKind.f64.format.order a b == some .lt) = false) : E b ≤ E a := by
  rw [show FloatKind.f64.format.order a b = F.order a b from rfl, order_E ha hb] at h
  unfold cmpZ at h
  by_cases h1 : E a < E b
  · rw [if_pos h1] at h; simp at h
  · omega
theorem eq_E {a b : Nat} (ha : isN a = false) (hb : isN b = false) (h : (FloatKind.f64.format.order a b == some .eq) = true) : E a = E b := by
  rw [show FloatKind.f64.format.order a b = F.order a b from rfl, order_E ha hb] at h
  unfold cmpZ at h
  by_cases h1 : E a < E b
  · rw [if_pos h1] at h; simp at h
  · by_cases h2 : E a = E b
    · exact h2
    · rw [if_neg h1, if_neg h2] at h; simp at h
theorem eq_of_E {a b : Nat} (ha : isN a = false) (hb : isN b = false) (h : E a = E b) : (FloatKind.f64.format.order a b != some .eq) = false := by
  rw [show FloatKind.f64.format.order a b = F.order a b from rfl, order_E ha hb]
  unfold cmpZ
  rw [if_neg (by omega), if_pos h]; rfl
theorem ge_of_E {a b : Nat} (ha : isN a = false) (hb : isN b = false) (h : E b ≤ E a) : (FloatKind.f64.format.order a b == some .gt || FloatKind.f64.format.order a b == some .eq) = true := by
  rw [show FloatKind.f64.format.order a b = F.order a b from rfl, order_E ha hb]
  unfold cmpZ
  rw [if_neg (by omega)]
  by_cases h2 : E a = E b
  · rw [if_pos h2]; rfl
  · rw [if_neg h2]; rfl
theorem le_of_E {a b : Nat} (ha : isN a = false) (hb : isN b = false) (h : E a ≤ E b) : (FloatKind.f64.format.order a b == some .lt || FloatKind.f64.format.order a b == some .eq) = true := by
  rw [show FloatKind.f64.format.order a b = F.order a b from rfl, order_E ha hb]
  unfold cmpZ
  by_cases h1 : E a < E b
  · rw [if_pos h1]; rfl
  · rw [if_neg h1, if_pos (by omega)]; rfl
theorem abs_natAbs (x : Nat) : E (absF x) = ((E x).natAbs : Int) := by
  rw [absF_E]
  unfold E
  split <;> omega

/-- NaN only if all there was is. -/
theorem mean_nan {old now part : Nat} (h : isN (meanF old now part) = true) : isN now = true := by
  unfold meanF at h
  by_cases ho : isN old = true
  · rw [if_pos ho] at h; exact h
  · rw [if_neg ho] at h
    by_cases hn : isN now = true
    · exact hn
    · rw [if_neg hn] at h
      split at h
      · split at h
        · exact h
        · contradiction
      · exact h

/-- All that the last lines need. -/
theorem last_lines {old now part : Nat} (ho : isN old = false) (hn : isN now = false) (hp : isN part = false) (bo1 : -E TOP ≤ E old) (bo2 : E old ≤ E TOP) (bn1 : -E TOP ≤ E now) (bn2 : E now ≤ E TOP) (p0 : 0 ≤ E part) (p1 : E part ≤ K) :
    rg old < INF ∧ rg now < INF ∧ isN (meanF old now part) = false ∧ (E part = 0 → E (meanF old now part) = E old) ∧ (E part = K → E old = 0 → E (meanF old now part) = E now) ∧
    ∃ a sl, floatBits .add .f64 (absF old) (absF now) = some a ∧ floatBits .mul .f64 EPS a = some sl ∧
    ∀ low high, E low = min (E old) (E now) → isN low = false → E high = max (E old) (E now) → isN high = false →
      ∃ lr hr, floatBits .sub .f64 low sl = some lr ∧ floatBits .add .f64 high sl = some hr ∧
        (FloatKind.f64.format.order (meanF old now part) lr == some .gt || FloatKind.f64.format.order (meanF old now part) lr == some .eq) = true ∧
        (FloatKind.f64.format.order (meanF old now part) hr == some .lt || FloatKind.f64.format.order (meanF old now part) hr == some .eq) = true := by
  obtain ⟨t1, t2⟩ := top_hi
  have hk := Kpos
  have fo := fin_of ho (by omega) (by omega)
  have fn := fin_of hn (by omega) (by omega)
  obtain ⟨nm, D, S, hD, d1, d2, hS, s1, s2, s3, hm⟩ := mean_vals ho hn hp bo1 bo2 bn1 bn2 p0 p1
  have ao : rg (absF old) < INF := fin_of (by rw [absF_isN]; exact ho) (by rw [abs_natAbs]; omega) (by rw [abs_natAbs]; omega)
  have an : rg (absF now) < INF := fin_of (by rw [absF_isN]; exact hn) (by rw [abs_natAbs]; omega) (by rw [abs_natAbs]; omega)
  obtain ⟨a, ea, va, na⟩ := add_fin ao an
  rw [abs_natAbs, abs_natAbs] at va
  have a0 : 0 ≤ E a := by rw [va, ← RN_zero 0]; exact RN_mono 0 (by omega)
  have a1 : E a < (rv INF : Int) := by
    rw [va]
    have := RN_mono 0 (show (((E old).natAbs : Int) + ((E now).natAbs : Int)) ≤ 2 * E TOP by omega); omega
  have fa := fin_of na (by omega) a1
  obtain ⟨sl, es, vs, ns⟩ := mul_fin fin_eps fa
  have e0 : 0 ≤ E EPS := by have := eps_lo; omega
  have sl0 : 0 ≤ E sl := by rw [vs, ← RN_zero 1074]; exact RN_mono _ (Int.mul_nonneg e0 a0)
  have sl1 : E sl ≤ E a := by
    rw [vs]
    have b := RN_mono 1074 (Int.mul_le_mul_of_nonneg_right eps_hi a0)
    rw [show (K : Int) * E a = E a * ((2 ^ 1074 : Nat) : Int) from Int.mul_comm _ _, RN_scale, RN_self fa] at b
    exact b
  have fs := fin_of ns (by omega) (by omega)
  refine ⟨fo, fn, nm, ?_, ?_, a, sl, ea, es, ?_⟩
  · intro h
    rw [hm, hS, h, Int.zero_mul, RN_zero, Int.add_zero, RN_self fo]
  · intro h1 h2
    rw [hm, s3 h1, h2, Int.zero_add, hD, h2, Int.sub_zero, RN_self fn, RN_self fn]
  · intro low high hl nl hh nh
    obtain ⟨b1, b2⟩ := between ho hn hp bo1 bo2 bn1 bn2 p0 p1 va vs
    have fl : rg low < INF := fin_of nl (by omega) (by omega)
    have fh : rg high < INF := fin_of nh (by omega) (by omega)
    obtain ⟨lr, el, vl, nlr⟩ := add_fin fl (y := flip sl) (by rw [(flip_facts sl).2]; exact fs)
    rw [← sub_eq] at el
    rw [flip_E] at vl
    obtain ⟨hr, eh, vh, nhr⟩ := add_fin fh fs
    refine ⟨lr, hr, el, eh, ge_of_E nm nlr ?_, le_of_E nm nhr ?_⟩
    · rw [vl, hl]; exact b1
    · rw [vh, hh]; exact b2

/-- The walk, from what the tests come to. -/
theorem smoothBetween_walk (old now part : Nat) (w : World) : Calls Try.prog 3 #[.float .f64 old, .float .f64 now, .float .f64 part] w fun e w' => e = .returned (.bool true) ∧ Below w.heap.size w w' := by
  go_enter Try.func3, Try.ntmps3
  go_wp2_with fail
  refine (awake_any _).mono ?_; rintro e w1 ⟨rfl, b1⟩; replace b1 := Lib.hid b1
  go_wp2_with fail
  refine (mean_walk _ _ _ _).mono ?_; rintro e w2 ⟨rfl, n2, hw2⟩
  have b2 : Below w.heap.size w w2 := by rw [hw2]; exact below_drewN b1.out _
  clear hw2; replace b2 := Lib.hid b2
  obtain ⟨m, hmm⟩ : ∃ m, m = meanF old now part := ⟨_, rfl⟩
  rw [← hmm]
  replace hmm := Lib.hid hmm
  go_wp2_with fail
  refine (isNaN_walk _ _).mono ?_; rintro e w3 ⟨rfl, rfl⟩
  rcases nm : isN m with _ | _
  case' true =>
    have vn : isN now = true := mean_nan (old := old) (part := part) (by rw [← hmm.out]; exact nm)
    replace nm := Lib.hid nm
    go_wp2_with fail
    refine (isNaN_walk _ _).mono ?_; rintro e w3 ⟨rfl, rfl⟩; rw [vn]
    go_wp2_with fail
    go_ret
    exact ⟨rfl, b2.out⟩
  case' false =>
    replace nm := Lib.hid nm
    rcases vo : isN old with _ | _
    case' true =>
      rcases g1 : (FloatKind.f64.format.order (absF old) 6850974717710472879 == some .gt) with _ | _ <;>
      rcases g2 : (FloatKind.f64.format.order (absF now) 6850974717710472879 == some .gt) with _ | _ <;>
      (go_wp2_with (first | (go_at_call 13; refine (abs_walk _ _).mono ?_; rintro e w' ⟨rfl, rfl⟩) | (go_at_call 12; refine (isNaN_walk _ _).mono ?_; rintro e w' ⟨rfl, rfl⟩; first | rw [vo] | rw [vn] | rw [vp])); go_ret; exact ⟨rfl, b2.out⟩)
    rcases vn : isN now with _ | _
    case' true =>
      rcases g1 : (FloatKind.f64.format.order (absF old) 6850974717710472879 == some .gt) with _ | _ <;>
      rcases g2 : (FloatKind.f64.format.order (absF now) 6850974717710472879 == some .gt) with _ | _ <;>
      (go_wp2_with (first | (go_at_call 13; refine (abs_walk _ _).mono ?_; rintro e w' ⟨rfl, rfl⟩) | (go_at_call 12; refine (isNaN_walk _ _).mono ?_; rintro e w' ⟨rfl, rfl⟩; first | rw [vo] | rw [vn] | rw [vp])); go_ret; exact ⟨rfl, b2.out⟩)
    rcases vp : isN part with _ | _
    case' true =>
      rcases g1 : (FloatKind.f64.format.order (absF old) 6850974717710472879 == some .gt) with _ | _ <;>
      rcases g2 : (FloatKind.f64.format.order (absF now) 6850974717710472879 == some .gt) with _ | _ <;>
      (go_wp2_with (first | (go_at_call 13; refine (abs_walk _ _).mono ?_; rintro e w' ⟨rfl, rfl⟩) | (go_at_call 12; refine (isNaN_walk _ _).mono ?_; rintro e w' ⟨rfl, rfl⟩; first | rw [vo] | rw [vn] | rw [vp])); go_ret; exact ⟨rfl, b2.out⟩)
    rcases g1 : (FloatKind.f64.format.order (absF old) 6850974717710472879 == some .gt) with _ | _
    case' true => (go_wp2_with (first | (go_at_call 13; refine (abs_walk _ _).mono ?_; rintro e w' ⟨rfl, rfl⟩) | (go_at_call 12; refine (isNaN_walk _ _).mono ?_; rintro e w' ⟨rfl, rfl⟩; first | rw [vo] | rw [vn] | rw [vp])); go_ret; exact ⟨rfl, b2.out⟩)
    rcases g2 : (FloatKind.f64.format.order (absF now) 6850974717710472879 == some .gt) with _ | _
    case' true => (go_wp2_with (first | (go_at_call 13; refine (abs_walk _ _).mono ?_; rintro e w' ⟨rfl, rfl⟩) | (go_at_call 12; refine (isNaN_walk _ _).mono ?_; rintro e w' ⟨rfl, rfl⟩; first | rw [vo] | rw [vn] | rw [vp])); go_ret; exact ⟨rfl, b2.out⟩)
    rcases g3 : (FloatKind.f64.format.order part 0 == some .lt) with _ | _
    case' true => (go_wp2_with (first | (go_at_call 13; refine (abs_walk _ _).mono ?_; rintro e w' ⟨rfl, rfl⟩) | (go_at_call 12; refine (isNaN_walk _ _).mono ?_; rintro e w' ⟨rfl, rfl⟩; first | rw [vo] | rw [vn] | rw [vp])); go_ret; exact ⟨rfl, b2.out⟩)
    rcases g4 : (FloatKind.f64.format.order part 4607182418800017408 == some .gt) with _ | _
    case' true => (go_wp2_with (first | (go_at_call 13; refine (abs_walk _ _).mono ?_; rintro e w' ⟨rfl, rfl⟩) | (go_at_call 12; refine (isNaN_walk _ _).mono ?_; rintro e w' ⟨rfl, rfl⟩; first | rw [vo] | rw [vn] | rw [vp])); go_ret; exact ⟨rfl, b2.out⟩)
    have h1 : E (absF old) ≤ E TOP := not_gt (by rw [absF_isN]; exact vo) isN_top g1
    have h2 : E (absF now) ≤ E TOP := not_gt (by rw [absF_isN]; exact vn) isN_top g2
    have h3 : E 0 ≤ E part := not_lt vp isN_zero g3
    have h4 : E part ≤ E ONE := not_gt vp isN_one g4
    rw [abs_natAbs] at h1 h2
    rw [E_zero] at h3
    rw [E_one] at h4
    obtain ⟨fo, fn, nm2, l0, l1, A, sl, ea, es, HL⟩ := last_lines vo vn vp (by omega) (by omega) (by omega) (by omega) h3 h4
    rw [← hmm.out] at nm2 l0 l1 HL
    replace l0 : (FloatKind.f64.format.order part 0 == some .eq) = true → (FloatKind.f64.format.order m old != some .eq) = false := fun h => eq_of_E nm2 vo (l0 (by rw [eq_E vp isN_zero h]; exact E_zero))
    replace l1 : (FloatKind.f64.format.order part 4607182418800017408 == some .eq) = true → (FloatKind.f64.format.order old 0 == some .eq) = true → (FloatKind.f64.format.order m now != some .eq) = false := fun h h' => eq_of_E nm2 vn (l1 (by rw [eq_E vp isN_one h]; exact E_one) (by rw [eq_E vo isN_zero h']; exact E_zero))
    have HA := Lib.hid ea; have HS := Lib.hid es
    replace HL := Lib.hid HL; replace l0 := Lib.hid l0; replace l1 := Lib.hid l1
    clear ea es h1 h2 h3 h4 nm2
    rcases z0 : (FloatKind.f64.format.order part 0 == some .eq) with _ | _
    · skip
      rcases o1 : (FloatKind.f64.format.order part 4607182418800017408 == some .eq) with _ | _
      · skip
        go_wp2_with (first | (go_at_call 13; refine (abs_walk _ _).mono ?_; rintro e w' ⟨rfl, rfl⟩) | (go_at_call 12; refine (isNaN_walk _ _).mono ?_; rintro e w' ⟨rfl, rfl⟩; first | rw [vo] | rw [vn] | rw [vp]))
        refine (min_walk _ _ fo fn _).mono ?_; rintro e w4 ⟨⟨low, rfl, hlow⟩, rfl⟩
        replace hlow := Lib.hid hlow
        go_wp2_with fail
        refine (max_walk _ _ fo fn _).mono ?_; rintro e w4 ⟨⟨high, rfl, hhigh⟩, rfl⟩
        obtain ⟨lr, hr, el, eh, ql, qh⟩ := HL.out low high hlow.out.1 hlow.out.2 hhigh.1 hhigh.2
        clear hhigh
        go_wp2_with fail
        refine (abs_walk _ _).mono ?_; rintro e w4 ⟨rfl, rfl⟩
        go_wp2_with fail
        refine (abs_walk _ _).mono ?_; rintro e w4 ⟨rfl, rfl⟩
        have X1 := fun t w => run_float_arith (P := Try.prog) w .add t .f64 _ _ _ HA.out
        have X2 : ∀ t w, (binOp .mul t (.float .f64 4472406533629990549) (.float .f64 A)).run Try.prog w = .ok (.float .f64 sl) w := fun t w => run_float_arith (P := Try.prog) w .mul t .f64 _ _ _ HS.out
        have X3 := fun t w => run_float_arith (P := Try.prog) w .sub t .f64 _ _ _ el
        have X4 := fun t w => run_float_arith (P := Try.prog) w .add t .f64 _ _ _ eh
        replace el := Lib.hid el; replace eh := Lib.hid eh
        go_wp2_with fail
        go_ret
        exact ⟨rfl, b2.out⟩
      · rcases oz : (FloatKind.f64.format.order old 0 == some .eq) with _ | _
        · skip
          go_wp2_with (first | (go_at_call 13; refine (abs_walk _ _).mono ?_; rintro e w' ⟨rfl, rfl⟩) | (go_at_call 12; refine (isNaN_walk _ _).mono ?_; rintro e w' ⟨rfl, rfl⟩; first | rw [vo] | rw [vn] | rw [vp]))
          refine (min_walk _ _ fo fn _).mono ?_; rintro e w4 ⟨⟨low, rfl, hlow⟩, rfl⟩
          replace hlow := Lib.hid hlow
          go_wp2_with fail
          refine (max_walk _ _ fo fn _).mono ?_; rintro e w4 ⟨⟨high, rfl, hhigh⟩, rfl⟩
          obtain ⟨lr, hr, el, eh, ql, qh⟩ := HL.out low high hlow.out.1 hlow.out.2 hhigh.1 hhigh.2
          clear hhigh
          go_wp2_with fail
          refine (abs_walk _ _).mono ?_; rintro e w4 ⟨rfl, rfl⟩
          go_wp2_with fail
          refine (abs_walk _ _).mono ?_; rintro e w4 ⟨rfl, rfl⟩
          have X1 := fun t w => run_float_arith (P := Try.prog) w .add t .f64 _ _ _ HA.out
          have X2 : ∀ t w, (binOp .mul t (.float .f64 4472406533629990549) (.float .f64 A)).run Try.prog w = .ok (.float .f64 sl) w := fun t w => run_float_arith (P := Try.prog) w .mul t .f64 _ _ _ HS.out
          have X3 := fun t w => run_float_arith (P := Try.prog) w .sub t .f64 _ _ _ el
          have X4 := fun t w => run_float_arith (P := Try.prog) w .add t .f64 _ _ _ eh
          replace el := Lib.hid el; replace eh := Lib.hid eh
          go_wp2_with fail
          go_ret
          exact ⟨rfl, b2.out⟩
        · have q1 := l1.out o1 oz
          go_wp2_with (first | (go_at_call 13; refine (abs_walk _ _).mono ?_; rintro e w' ⟨rfl, rfl⟩) | (go_at_call 12; refine (isNaN_walk _ _).mono ?_; rintro e w' ⟨rfl, rfl⟩; first | rw [vo] | rw [vn] | rw [vp]))
          refine (min_walk _ _ fo fn _).mono ?_; rintro e w4 ⟨⟨low, rfl, hlow⟩, rfl⟩
          replace hlow := Lib.hid hlow
          go_wp2_with fail
          refine (max_walk _ _ fo fn _).mono ?_; rintro e w4 ⟨⟨high, rfl, hhigh⟩, rfl⟩
          obtain ⟨lr, hr, el, eh, ql, qh⟩ := HL.out low high hlow.out.1 hlow.out.2 hhigh.1 hhigh.2
          clear hhigh
          go_wp2_with fail
          refine (abs_walk _ _).mono ?_; rintro e w4 ⟨rfl, rfl⟩
          go_wp2_with fail
          refine (abs_walk _ _).mono ?_; rintro e w4 ⟨rfl, rfl⟩
          have X1 := fun t w => run_float_arith (P := Try.prog) w .add t .f64 _ _ _ HA.out
          have X2 : ∀ t w, (binOp .mul t (.float .f64 4472406533629990549) (.float .f64 A)).run Try.prog w = .ok (.float .f64 sl) w := fun t w => run_float_arith (P := Try.prog) w .mul t .f64 _ _ _ HS.out
          have X3 := fun t w => run_float_arith (P := Try.prog) w .sub t .f64 _ _ _ el
          have X4 := fun t w => run_float_arith (P := Try.prog) w .add t .f64 _ _ _ eh
          replace el := Lib.hid el; replace eh := Lib.hid eh
          go_wp2_with fail
          go_ret
          exact ⟨rfl, b2.out⟩
    · skip
      have q0 := l0.out z0
      rcases o1 : (FloatKind.f64.format.order part 4607182418800017408 == some .eq) with _ | _
      · skip
        go_wp2_with (first | (go_at_call 13; refine (abs_walk _ _).mono ?_; rintro e w' ⟨rfl, rfl⟩) | (go_at_call 12; refine (isNaN_walk _ _).mono ?_; rintro e w' ⟨rfl, rfl⟩; first | rw [vo] | rw [vn] | rw [vp]))
        refine (min_walk _ _ fo fn _).mono ?_; rintro e w4 ⟨⟨low, rfl, hlow⟩, rfl⟩
        replace hlow := Lib.hid hlow
        go_wp2_with fail
        refine (max_walk _ _ fo fn _).mono ?_; rintro e w4 ⟨⟨high, rfl, hhigh⟩, rfl⟩
        obtain ⟨lr, hr, el, eh, ql, qh⟩ := HL.out low high hlow.out.1 hlow.out.2 hhigh.1 hhigh.2
        clear hhigh
        go_wp2_with fail
        refine (abs_walk _ _).mono ?_; rintro e w4 ⟨rfl, rfl⟩
        go_wp2_with fail
        refine (abs_walk _ _).mono ?_; rintro e w4 ⟨rfl, rfl⟩
        have X1 := fun t w => run_float_arith (P := Try.prog) w .add t .f64 _ _ _ HA.out
        have X2 : ∀ t w, (binOp .mul t (.float .f64 4472406533629990549) (.float .f64 A)).run Try.prog w = .ok (.float .f64 sl) w := fun t w => run_float_arith (P := Try.prog) w .mul t .f64 _ _ _ HS.out
        have X3 := fun t w => run_float_arith (P := Try.prog) w .sub t .f64 _ _ _ el
        have X4 := fun t w => run_float_arith (P := Try.prog) w .add t .f64 _ _ _ eh
        replace el := Lib.hid el; replace eh := Lib.hid eh
        go_wp2_with fail
        go_ret
        exact ⟨rfl, b2.out⟩
      · rcases oz : (FloatKind.f64.format.order old 0 == some .eq) with _ | _
        · skip
          go_wp2_with (first | (go_at_call 13; refine (abs_walk _ _).mono ?_; rintro e w' ⟨rfl, rfl⟩) | (go_at_call 12; refine (isNaN_walk _ _).mono ?_; rintro e w' ⟨rfl, rfl⟩; first | rw [vo] | rw [vn] | rw [vp]))
          refine (min_walk _ _ fo fn _).mono ?_; rintro e w4 ⟨⟨low, rfl, hlow⟩, rfl⟩
          replace hlow := Lib.hid hlow
          go_wp2_with fail
          refine (max_walk _ _ fo fn _).mono ?_; rintro e w4 ⟨⟨high, rfl, hhigh⟩, rfl⟩
          obtain ⟨lr, hr, el, eh, ql, qh⟩ := HL.out low high hlow.out.1 hlow.out.2 hhigh.1 hhigh.2
          clear hhigh
          go_wp2_with fail
          refine (abs_walk _ _).mono ?_; rintro e w4 ⟨rfl, rfl⟩
          go_wp2_with fail
          refine (abs_walk _ _).mono ?_; rintro e w4 ⟨rfl, rfl⟩
          have X1 := fun t w => run_float_arith (P := Try.prog) w .add t .f64 _ _ _ HA.out
          have X2 : ∀ t w, (binOp .mul t (.float .f64 4472406533629990549) (.float .f64 A)).run Try.prog w = .ok (.float .f64 sl) w := fun t w => run_float_arith (P := Try.prog) w .mul t .f64 _ _ _ HS.out
          have X3 := fun t w => run_float_arith (P := Try.prog) w .sub t .f64 _ _ _ el
          have X4 := fun t w => run_float_arith (P := Try.prog) w .add t .f64 _ _ _ eh
          replace el := Lib.hid el; replace eh := Lib.hid eh
          go_wp2_with fail
          go_ret
          exact ⟨rfl, b2.out⟩
        · have q1 := l1.out o1 oz
          go_wp2_with (first | (go_at_call 13; refine (abs_walk _ _).mono ?_; rintro e w' ⟨rfl, rfl⟩) | (go_at_call 12; refine (isNaN_walk _ _).mono ?_; rintro e w' ⟨rfl, rfl⟩; first | rw [vo] | rw [vn] | rw [vp]))
          refine (min_walk _ _ fo fn _).mono ?_; rintro e w4 ⟨⟨low, rfl, hlow⟩, rfl⟩
          replace hlow := Lib.hid hlow
          go_wp2_with fail
          refine (max_walk _ _ fo fn _).mono ?_; rintro e w4 ⟨⟨high, rfl, hhigh⟩, rfl⟩
          obtain ⟨lr, hr, el, eh, ql, qh⟩ := HL.out low high hlow.out.1 hlow.out.2 hhigh.1 hhigh.2
          clear hhigh
          go_wp2_with fail
          refine (abs_walk _ _).mono ?_; rintro e w4 ⟨rfl, rfl⟩
          go_wp2_with fail
          refine (abs_walk _ _).mono ?_; rintro e w4 ⟨rfl, rfl⟩
          have X1 := fun t w => run_float_arith (P := Try.prog) w .add t .f64 _ _ _ HA.out
          have X2 : ∀ t w, (binOp .mul t (.float .f64 4472406533629990549) (.float .f64 A)).run Try.prog w = .ok (.float .f64 sl) w := fun t w => run_float_arith (P := Try.prog) w .mul t .f64 _ _ _ HS.out
          have X3 := fun t w => run_float_arith (P := Try.prog) w .sub t .f64 _ _ _ el
          have X4 := fun t w => run_float_arith (P := Try.prog) w .add t .f64 _ _ _ eh
          replace el := Lib.hid el; replace eh := Lib.hid eh
          go_wp2_with fail
          go_ret
          exact ⟨rfl, b2.out⟩

end Go.Proofs.Ytingdfbolageeaa.BtwW
