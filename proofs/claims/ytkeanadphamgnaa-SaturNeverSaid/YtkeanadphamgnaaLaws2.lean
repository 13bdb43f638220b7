/-
  The walks of SaturParts and SaturNever: each returns true for every three numbers.
-/
import Derived.Test.YtkeanadphamgnaaSums
set_option linter.unusedVariables false
namespace Go.Proofs.Ytkeanadphamgnaa.Laws2
open Go.RowKit Go.Proofs.Ytkeanadphamgnaa.Num Go.Proofs.Ytkeanadphamgnaa.Sat Go.Proofs.Ytkeanadphamgnaa.Ref01

/-! ### SaturParts -/
theorem parts_val {n num den : Int} (n0 : 0 ≤ n) (n1 : n ≤ 67108864) (m0 : 0 ≤ num) (m1 : num ≤ 67108864) (d0 : 1 ≤ den) (d1 : den ≤ 67108864) :
    0 ≤ n * num ∧ n * num ≤ 4503599627370496 ∧ scaleI n num den = n * num / den ∧ 0 ≤ n * num / den ∧ n * num / den ≤ n * num ∧ 0 ≤ n * num / den * den ∧ n * num / den * den ≤ n * num ∧ n * num - n * num / den * den < den := by
  have p0 := Int.mul_nonneg n0 m0
  have p1 : n * num ≤ 67108864 * 67108864 := Int.mul_le_mul n1 m1 m0 (by omega)
  have q0 := Int.ediv_nonneg p0 (show 0 ≤ den by omega)
  have q1 := Int.ediv_le_self den p0
  have r := Int.mul_ediv_add_emod (n * num) den
  have r0 := Int.emod_nonneg (n * num) (show den ≠ 0 by omega)
  have r1 := Int.emod_lt_of_pos (n * num) (show 0 < den by omega)
  rw [Int.mul_comm den] at r
  refine ⟨p0, by omega, ?_, q0, q1, Int.mul_nonneg q0 (by omega), by omega, by omega⟩
  rw [RefScale.scaleI_pos (by rw [cutI_id (by omega) (by omega)]; omega), cutI_id n0 (by omega), cutI_id m0 (by omega), cutI_id (show 0 ≤ den by omega) (by omega), cutI_id q0 (by omega)]

set_option maxHeartbeats 2000000 in
theorem saturParts_in (n num den : Int) (w : World) (n0 : 0 ≤ n) (n1 : n ≤ 67108864) (m0 : 0 ≤ num) (m1 : num ≤ 67108864) (d0 : 1 ≤ den) (d1 : den ≤ 67108864) :
    Calls Try.prog 5 #[.int .i64 n, .int .i64 num, .int .i64 den] w fun e w' => e = .returned (.bool true) ∧ ∃ n, w' = w.drewN n := by
  obtain ⟨P0, P1, hs, q0, q1, D0, D1, D2⟩ := parts_val n0 n1 m0 m1 d0 d1
  obtain ⟨_, _, hs2, _, _, _, _, _⟩ := parts_val n0 n1 (show 0 ≤ den by omega) d1 d0 d1
  rw [Int.mul_ediv_cancel _ (show den ≠ 0 by omega)] at hs2
  obtain ⟨P, hP⟩ : ∃ P, P = n * num := ⟨_, rfl⟩
  rw [← hP] at P0 P1 hs q0 q1 D0 D1 D2
  obtain ⟨p, hp⟩ : ∃ p, P / den = p := ⟨_, rfl⟩
  rw [hp] at hs q0 q1 D0 D1 D2
  obtain ⟨D, hD⟩ : ∃ D, D = p * den := ⟨_, rfl⟩
  rw [← hD] at D0 D1 D2
  have eP : wrap64 (n * num) = P := by rw [← hP]; unfold wrap64; omega
  have eD : wrap64 (p * den) = D := by rw [← hD]; unfold wrap64; omega
  have HS := Lib.hid hs; have HS2 := Lib.hid hs2
  clear hs hs2 hP hD
  go_enter Try.func5, Try.ntmps5
  go_wp2_with (first
    | (go_at_call 20; refine (Sat.scale_any _ _ _ _).mono ?_; rintro e w' ⟨rfl, m, rfl⟩; first | rw [HS.out] | rw [HS2.out])
    | (go_at_call 19; refine (Laws.awake_any _).mono ?_; rintro e w' ⟨rfl, m, rfl⟩))
  go_ret
  exact ⟨rfl, _, rfl⟩

set_option maxHeartbeats 4000000 in
theorem saturParts_walk (n num den : Int) (w : World) :
    Calls Try.prog 5 #[.int .i64 n, .int .i64 num, .int .i64 den] w fun e w' => e = .returned (.bool true) ∧ ∃ n, w' = w.drewN n := by
  by_cases hin : 0 ≤ n ∧ n ≤ 67108864 ∧ 0 ≤ num ∧ num ≤ 67108864 ∧ 1 ≤ den ∧ den ≤ 67108864
  · obtain ⟨n0, n1, m0, m1, d0, d1⟩ := hin
    exact saturParts_in n num den w n0 n1 m0 m1 d0 d1
  · rcases (show n < 0 ∨ (0 ≤ n ∧ 67108864 < n) ∨ (0 ≤ n ∧ n ≤ 67108864 ∧ num < 0) ∨ (0 ≤ n ∧ n ≤ 67108864 ∧ 0 ≤ num ∧ 67108864 < num) ∨ (0 ≤ n ∧ n ≤ 67108864 ∧ 0 ≤ num ∧ num ≤ 67108864 ∧ den < 1) ∨ (0 ≤ n ∧ n ≤ 67108864 ∧ 0 ≤ num ∧ num ≤ 67108864 ∧ 1 ≤ den ∧ 67108864 < den) by omega) with h | ⟨h, h'⟩ | ⟨h, h', h''⟩ | ⟨h, h', h'', h3⟩ | ⟨h, h', h'', h3, h4⟩ | ⟨h, h', h'', h3, h4, h5⟩
    all_goals
      clear hin
      go_enter Try.func5, Try.ntmps5
      go_wp2_with (go_at_call 19; refine (Laws.awake_any _).mono ?_; rintro e w' ⟨rfl, m, rfl⟩)
      go_ret
      exact ⟨rfl, _, rfl⟩

/-! ### SaturNever -/
theorem cutI_cutI (n : Int) : cutI (cutI n) = cutI n := cutI_id (cutI_bd n).1 (cutI_bd n).2
theorem addI_bd (a b : Int) : 0 ≤ addI a b ∧ addI a b ≤ 9007199254740992 := cutI_bd _
theorem subI_bd (a b : Int) : 0 ≤ subI a b ∧ subI a b ≤ 9007199254740992 := cutI_bd _
theorem mulI_bd (a b : Int) : 0 ≤ mulI a b ∧ mulI a b ≤ 9007199254740992 := scaleI_bd _ _ _
theorem divI_bd (a b : Int) : 0 ≤ divI a b ∧ divI a b ≤ 9007199254740992 := scaleI_bd _ _ _
theorem addI_comm (a b : Int) : addI b a = addI a b := by unfold addI; rw [Int.add_comm]
theorem mulI_comm (a b : Int) : mulI b a = mulI a b := by rw [mulI_eq, mulI_eq, Int.mul_comm]
theorem addI_ge (a b : Int) : cutI a ≤ addI a b ∧ cutI b ≤ addI a b := by
  obtain ⟨a0, a1⟩ := cutI_bd a
  obtain ⟨b0, b1⟩ := cutI_bd b
  unfold addI
  generalize cutI a = x at *
  generalize cutI b = y at *
  unfold cutI
  constructor <;> split <;> (try split) <;> omega
theorem subI_le (a b : Int) : subI a b ≤ cutI a := by
  obtain ⟨a0, a1⟩ := cutI_bd a
  obtain ⟨b0, b1⟩ := cutI_bd b
  unfold subI
  generalize cutI a = x at *
  generalize cutI b = y at *
  unfold cutI
  split <;> (try split) <;> omega
theorem addI_assoc (a b c : Int) : addI a (addI b c) = addI (addI a b) c := by
  obtain ⟨a0, a1⟩ := cutI_bd a
  obtain ⟨b0, b1⟩ := cutI_bd b
  obtain ⟨c0, c1⟩ := cutI_bd c
  unfold addI
  rw [cutI_cutI, cutI_cutI]
  generalize cutI a = x at *
  generalize cutI b = y at *
  generalize cutI c = z at *
  unfold cutI
  split <;> split <;> (try split) <;> (try split) <;> (try split) <;> (try split) <;> omega
theorem subI_back {a b : Int} (h : addI a b ≠ 9007199254740992) : subI (addI a b) b = cutI a := by
  obtain ⟨a0, a1⟩ := cutI_bd a
  obtain ⟨b0, b1⟩ := cutI_bd b
  have hx : addI a b = cutI a + cutI b := by
    unfold addI at h ⊢
    generalize cutI a = x at *
    generalize cutI b = y at *
    unfold cutI at h ⊢
    revert h
    split <;> (try split) <;> omega
  unfold subI
  rw [hx, cutI_id (n := cutI a + cutI b) (by omega) (by rw [← hx]; exact (addI_bd a b).2), show cutI a + cutI b - cutI b = cutI a by omega, cutI_cutI]
theorem le_mul {x y : Int} (hx : 0 ≤ x) (hy : 1 ≤ y) : x ≤ x * y := by
  have := Int.mul_le_mul_of_nonneg_left hy hx; omega
theorem cutI_ge {z x : Int} (hx : x ≤ 9007199254740992) (h : x ≤ z) (hx0 : 0 ≤ x) : x ≤ cutI z := by
  unfold cutI; split <;> (try split) <;> omega
theorem mulI_ge {a b : Int} (hb : 1 ≤ cutI b) : cutI a ≤ mulI a b := by
  rw [mulI_eq]; exact cutI_ge (cutI_bd a).2 (le_mul (cutI_bd a).1 hb) (cutI_bd a).1
theorem cut_top {z : Int} (h : 9007199254740992 ≤ z) : cutI z = 9007199254740992 := by unfold cutI; rw [if_neg (by omega)]; split <;> omega
theorem mul_cut_assoc {x y z : Int} (x0 : 0 ≤ x) (y0 : 0 ≤ y) (z0 : 0 ≤ z) : cutI (x * cutI (y * z)) = cutI (cutI (x * y) * z) := by
  have xy0 := Int.mul_nonneg x0 y0
  have yz0 := Int.mul_nonneg y0 z0
  have hass : x * (y * z) = x * y * z := (Int.mul_assoc x y z).symm
  by_cases hxy : x * y ≤ 9007199254740992
  · rw [cutI_id xy0 hxy]
    by_cases hyz : y * z ≤ 9007199254740992
    · rw [cutI_id yz0 hyz, hass]
    · -- y * z is clamped
      rw [cut_top (show 9007199254740992 ≤ y * z by omega)]
      by_cases hx : x = 0
      · rw [hx]; simp
      · have h1 : 9007199254740992 ≤ x * 9007199254740992 := by omega
        have h2 : y * z ≤ x * (y * z) := by rw [Int.mul_comm x]; exact le_mul yz0 (by omega)
        rw [cut_top h1, cut_top (by rw [← hass]; omega)]
  · rw [cut_top (show 9007199254740992 ≤ x * y by omega)]
    by_cases hz : z = 0
    · rw [hz, Int.mul_zero, Int.mul_zero, show cutI 0 = 0 by decide, Int.mul_zero]; decide
    · have h1 : 9007199254740992 ≤ 9007199254740992 * z := by omega
      have hx : 1 ≤ x := by
        refine Int.not_lt.1 fun hlt => hxy ?_
        rw [show x = 0 by omega, Int.zero_mul]; omega
      have h2 : 9007199254740992 ≤ x * y * z := Int.le_trans (by omega) (le_mul xy0 (by omega))
      rw [cut_top h1]
      by_cases hyz : y * z ≤ 9007199254740992
      · rw [cutI_id yz0 hyz, hass, cut_top h2]
      · rw [cut_top (show 9007199254740992 ≤ y * z by omega), cut_top (by omega)]
theorem mulI_assoc (a b c : Int) : mulI a (mulI b c) = mulI (mulI a b) c := by
  have hb := cutI_id (mulI_bd b c).1 (mulI_bd b c).2
  have ha := cutI_id (mulI_bd a b).1 (mulI_bd a b).2
  rw [mulI_eq a, mulI_eq (mulI a b), hb, ha, mulI_eq b c, mulI_eq a b]
  exact mul_cut_assoc (cutI_bd a).1 (cutI_bd b).1 (cutI_bd c).1

theorem count_yes (n : Int) (w : World) (h0 : 0 ≤ n) (h1 : n ≤ 9007199254740992) :
    Calls Try.prog 24 #[.int .i64 n] w fun e w' => e = .returned (.bool true) ∧ w = w' := by
  go_enter Try.func24, Try.ntmps24
  go_wp2
  go_ret
  exact ⟨rfl, rfl⟩

set_option maxHeartbeats 8000000 in
theorem saturNever_ways (a b c : Int) (w : World) (S R M T Q x y V U N1 M2 : Int)
    (hS : addI a b = S) (hR : subI a b = R) (hM : mulI a b = M) (hT : scaleI a b c = T) (hQ : divI a b = Q) (hx : cutI a = x) (hy : cutI b = y)
    (hS2 : addI b a = S) (hM2 : mulI b a = M) (hV : addI S c = V) (hU : addI b c = U) (hV2 : addI a U = V) (hN : mulI M c = N1) (hM3 : mulI b c = M2) (hN2 : mulI a M2 = N1)
    (S0 : 0 ≤ S) (S1 : S ≤ 9007199254740992) (R0 : 0 ≤ R) (R1 : R ≤ 9007199254740992) (M0 : 0 ≤ M) (M1 : M ≤ 9007199254740992) (T0 : 0 ≤ T) (T1 : T ≤ 9007199254740992) (Q0 : 0 ≤ Q) (Q1 : Q ≤ 9007199254740992)
    (x0 : 0 ≤ x) (y0 : 0 ≤ y) (xS : x ≤ S) (yS : y ≤ S) (xR : R ≤ x) (way : (x = 0 ∧ M = 0) ∨ (1 ≤ x ∧ y = 0 ∧ M = 0) ∨ (1 ≤ x ∧ 1 ≤ y ∧ x ≤ M ∧ y ≤ M)) (fin : (S == 9007199254740992) = true ∨ ((S == 9007199254740992) = false ∧ subI S b = x)) :
    Calls Try.prog 8 #[.int .i64 a, .int .i64 b, .int .i64 c] w fun e w' => e = .returned (.bool true) ∧ Grown w w' := by
  replace hS := Lib.hid hS; replace hR := Lib.hid hR; replace hM := Lib.hid hM; replace hT := Lib.hid hT; replace hQ := Lib.hid hQ; replace hx := Lib.hid hx; replace hy := Lib.hid hy
  replace hS2 := Lib.hid hS2; replace hM2 := Lib.hid hM2; replace hV := Lib.hid hV; replace hU := Lib.hid hU; replace hV2 := Lib.hid hV2; replace hN := Lib.hid hN; replace hM3 := Lib.hid hM3; replace hN2 := Lib.hid hN2
  have hsub : (S == 9007199254740992) = false → subI S b = x := fun h => fin.elim (fun h' => absurd h' (by rw [h]; simp)) (·.2)
  have HSub := Lib.hid hsub
  clear hsub
  have fin' : (S == 9007199254740992) = true ∨ (S == 9007199254740992) = false := fin.imp id (·.1)
  clear fin
  rcases way with ⟨rfl, rfl⟩ | ⟨x1, rfl, rfl⟩ | ⟨x1, y1, xM, yM⟩
  all_goals
    rcases fin' with fs | fs
    all_goals
      go_enter Try.func8, Try.ntmps8
      go_wp2_with (first
        | (go_at_call 7; refine (Sums.saturKnown_any _).mono ?_; rintro e w1 ⟨rfl, hb⟩)
        | (go_at_call 24; refine (count_yes _ _ ?_ ?_).mono ?_; omega; omega; rintro e w' ⟨rfl, rfl⟩)
        | (go_at_call 9; refine (Sat.cut_any _ _).mono ?_; rintro e w' ⟨rfl, rfl⟩; first | rw [hx.out] | rw [hy.out])
        | (go_at_call 11; refine (Sat.add_any _ _ _).mono ?_; rintro e w' ⟨rfl, rfl⟩; first | rw [hS.out] | rw [hS2.out] | rw [hU.out] | rw [hV2.out] | rw [hV.out])
        | (go_at_call 13; refine (Sat.sub_any _ _ _).mono ?_; rintro e w' ⟨rfl, rfl⟩; first | rw [hR.out] | rw [HSub.out fs])
        | (go_at_call 15; refine (Sat.mul_any _ _ _).mono ?_; rintro e w' ⟨rfl, m, rfl⟩; first | rw [hM.out] | rw [hM2.out] | rw [hM3.out] | rw [hN2.out] | rw [Hid.out hN])
        | (go_at_call 20; refine (Sat.scale_any _ _ _ _).mono ?_; rintro e w' ⟨rfl, m, rfl⟩; rw [hT.out])
        | (go_at_call 17; refine (Sat.div_any _ _ _).mono ?_; rintro e w' ⟨rfl, m, rfl⟩; rw [hQ.out]))
      go_ret
      exact ⟨rfl, (show Grown w (w1.drewN _) from hb)⟩

theorem saturNever_walk (a b c : Int) (w : World) :
    Calls Try.prog 8 #[.int .i64 a, .int .i64 b, .int .i64 c] w fun e w' => e = .returned (.bool true) ∧ Grown w w' := by
  refine saturNever_ways a b c w (addI a b) (subI a b) (mulI a b) (scaleI a b c) (divI a b) (cutI a) (cutI b) (addI (addI a b) c) (addI b c) (mulI (mulI a b) c) (mulI b c)
    rfl rfl rfl rfl rfl rfl rfl (addI_comm a b) (mulI_comm a b) rfl rfl (addI_assoc a b c) rfl rfl (mulI_assoc a b c) (addI_bd a b).1 (addI_bd a b).2 (subI_bd a b).1 (subI_bd a b).2 (mulI_bd a b).1 (mulI_bd a b).2 (scaleI_bd a b c).1 (scaleI_bd a b c).2 (divI_bd a b).1 (divI_bd a b).2
    (cutI_bd a).1 (cutI_bd b).1 (addI_ge a b).1 (addI_ge a b).2 (subI_le a b) ?_ ?_
  · by_cases hx : cutI a = 0
    · exact .inl ⟨hx, mulI_zero (.inl hx)⟩
    · have := (cutI_bd a).1
      have := (cutI_bd b).1
      by_cases hy : cutI b = 0
      · exact .inr (.inl ⟨by omega, hy, mulI_zero (.inr hy)⟩)
      · exact .inr (.inr ⟨by omega, by omega, mulI_ge (by omega), by rw [← mulI_comm]; exact mulI_ge (by omega)⟩)
  · by_cases h : addI a b = 9007199254740992
    · exact .inl (beq_iff_eq.2 h)
    · exact .inr ⟨beq_eq_false_iff_ne.2 h, subI_back h⟩

end Go.Proofs.Ytkeanadphamgnaa.Laws2
