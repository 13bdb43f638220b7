/-
  The walks of the document's own Div and Scale (ostiaryref01): bit by bit of n, from the highest one on.
-/
import Derived.Test.YtkeanadphamgnaaRef01
set_option linter.unusedVariables false
namespace Go.Proofs.Ytkeanadphamgnaa.RefScale
open Go.RowKit Go.Proofs.Ytkeanadphamgnaa.Num Go.Proofs.Ytkeanadphamgnaa.Sat

theorem cutI_one : cutI 1 = 1 := by decide
theorem divI_zero {a b : Int} (hb : cutI b = 0) : divI a b = if cutI a = 0 then 0 else 9007199254740992 := by
  unfold divI scaleI
  rw [cutI_one, Int.mul_one, hb]; rfl
theorem divI_pos {a b : Int} (hb : 0 < cutI b) : divI a b = cutI a / cutI b := by
  obtain ⟨a0, a1⟩ := cutI_bd a
  have h0 := Int.ediv_nonneg a0 (Int.le_of_lt hb)
  have h1 := Int.ediv_le_self (cutI b) a0
  unfold divI scaleI
  rw [cutI_one, Int.mul_one, if_neg (show ¬ cutI b = 0 by omega), cutI_id h0 (by omega)]
  split
  · next h => rw [h, Int.zero_ediv]
  · rfl

theorem div_any (a b : Int) (w : World) :
    Calls Try.prog 18 #[.int .i64 a, .int .i64 b] w fun e w' => e = .returned (.int .i64 (divI a b)) ∧ w = w' := by
  obtain ⟨a0, a1⟩ := cutI_bd a
  obtain ⟨b0, b1⟩ := cutI_bd b
  by_cases hb : cutI b = 0
  · have hv := divI_zero (a := a) hb
    have e2 : (cutI b == 0) = true := by rw [beq_iff_eq]; exact hb
    by_cases ha : cutI a = 0
    · have e1 : (cutI a == 0) = true := by rw [beq_iff_eq]; exact ha
      rw [if_pos ha] at hv
      have hv := Lib.hid hv
      clear ha hb
      go_enter Try.func18, Try.ntmps18
      go_wp2_with (go_at_call 10; refine (Ref01.cut_any _ _).mono ?_; rintro e w' ⟨rfl, rfl⟩)
      go_ret
      exact ⟨ret_i64 hv.out.symm, rfl⟩
    · have e1 : (cutI a == 0) = false := by rw [beq_eq_false_iff_ne]; exact ha
      rw [if_neg ha] at hv
      have hv := Lib.hid hv
      clear ha hb
      go_enter Try.func18, Try.ntmps18
      go_wp2_with (go_at_call 10; refine (Ref01.cut_any _ _).mono ?_; rintro e w' ⟨rfl, rfl⟩)
      go_ret
      exact ⟨ret_i64 hv.out.symm, rfl⟩
  · have e2 : (cutI b == 0) = false := by rw [beq_eq_false_iff_ne]; exact hb
    have pb : 1 ≤ cutI b := by omega
    have hv := Lib.hid (divI_pos (a := a) (b := b) (by omega))
    have q0 := Int.ediv_nonneg a0 b0
    have q1 : cutI a / cutI b ≤ 9007199254740992 := Int.le_trans (Int.ediv_le_self (cutI b) a0) a1
    clear hb
    go_enter Try.func18, Try.ntmps18
    go_wp2_with (go_at_call 10; refine (Ref01.cut_any _ _).mono ?_; rintro e w' ⟨rfl, rfl⟩)
    go_ret
    exact ⟨ret_i64 hv.out.symm, rfl⟩

/-! ### Scale -/
/-- What is told so far is exact, or stands just above the greatest count. -/
def Told (t m d : Int) : Prop := t = if 9007199254740992 < m / d then 9007199254740993 else m / d

theorem Told.bd {t m d : Int} (h : Told t m d) (hm : 0 ≤ m) (hd : 0 < d) : 0 ≤ t ∧ t ≤ 9007199254740993 := by
  have := Int.ediv_nonneg hm (Int.le_of_lt hd)
  unfold Told at h
  split at h <;> omega

/-- One bit more. -/
theorem bit_div {m c d : Int} (hd : 0 < d) (hm : 0 ≤ m) (hc : 0 ≤ c) : (2 * m + c) / d = 2 * (m / d) + c / d + (2 * (m % d) + c % d) / d ∧ (2 * m + c) % d = (2 * (m % d) + c % d) % d := by
  have e1 := Int.mul_ediv_add_emod m d
  have e2 := Int.mul_ediv_add_emod c d
  have e : 2 * m + c = 2 * (m % d) + c % d + (2 * (m / d) + c / d) * d := by
    have a : (2 * (m / d) + c / d) * d = 2 * (d * (m / d)) + d * (c / d) := by rw [Int.add_mul, Int.mul_assoc, Int.mul_comm (m / d), Int.mul_comm (c / d)]
    rw [a]; omega
  constructor
  · rw [e, Int.add_mul_ediv_right _ _ (by omega)]; omega
  · rw [e, Int.add_mul_emod_self_right]

theorem Told.step {t m c d : Int} (h : Told t m d) (hm : 0 ≤ m) (hc : 0 ≤ c) (hd : 0 < d) :
    Told (if 9007199254740992 < 2 * t + c / d + (2 * (m % d) + c % d) / d then 9007199254740993 else 2 * t + c / d + (2 * (m % d) + c % d) / d) (2 * m + c) d := by
  have h1 := (bit_div hd hm hc).1
  have h2 := Int.ediv_nonneg hc (Int.le_of_lt hd)
  have h3 : 0 ≤ (2 * (m % d) + c % d) / d := Int.ediv_nonneg (by have := Int.emod_nonneg m (show d ≠ 0 by omega); have := Int.emod_nonneg c (show d ≠ 0 by omega); omega) (Int.le_of_lt hd)
  have h4 := Int.ediv_nonneg hm (Int.le_of_lt hd)
  unfold Told at h ⊢
  rw [h1, h]
  generalize m / d = A at *
  generalize c / d = B at *
  generalize (2 * (m % d) + c % d) / d = C at *
  split <;> split <;> (try split) <;> omega

theorem told_cut {t m d : Int} (h : Told t m d) (hm : 0 ≤ m) (hd : 0 < d) : cutI t = cutI (m / d) := by
  have := Int.ediv_nonneg hm (Int.le_of_lt hd)
  unfold Told at h
  subst h
  split
  · unfold cutI; rw [if_neg (by omega), if_pos (by omega), if_neg (by omega), if_pos (by omega)]
  · rfl

theorem bit_of (x : Nat) (k : Nat) : (x / 2 ^ k : Nat) = 2 * (x / 2 ^ (k + 1)) + x / 2 ^ k % 2 := by
  rw [Nat.pow_succ, ← Nat.div_div_eq_div_mul]; omega

theorem and_bit (x k : Nat) (hx : x ≤ 9007199254740992) : bits .and .i64 ((x : Int) / 2 ^ k) 1 = ((x / 2 ^ k % 2 : Nat) : Int) := by
  have e : (x : Int) / 2 ^ k = ((x / 2 ^ k : Nat) : Int) := by rw [Int.natCast_ediv, Int.natCast_pow]; rfl
  rw [e, and_one _ (by have := Nat.div_le_self x (2 ^ k); omega)]

/-- What the loop keeps when k bits are still to come. -/
structure Rel (x : Nat) (y d : Int) (k : Nat) (t rr : Int) : Prop where
  told : Told t (((x / 2 ^ k : Nat) : Int) * y) d
  rest : rr = (((x / 2 ^ k : Nat) : Int) * y) % d

theorem Rel.nonneg {x : Nat} {y : Int} (y0 : 0 ≤ y) (k : Nat) : 0 ≤ ((x / 2 ^ k : Nat) : Int) * y := Int.mul_nonneg (Int.natCast_nonneg _) y0

theorem Rel.bit {x : Nat} {y d : Int} {k : Nat} {t rr : Int} (h : Rel x y d (k + 1) t rr) (y0 : 0 ≤ y) (d0 : 0 < d) (c : Int) (hc : c = ((x / 2 ^ k % 2 : Nat) : Int) * y) :
    Rel x y d k (if 9007199254740992 < 2 * t + c / d + (2 * rr + c % d) / d then 9007199254740993 else 2 * t + c / d + (2 * rr + c % d) / d) ((2 * rr + c % d) % d) := by
  have hm : ((x / 2 ^ k : Nat) : Int) * y = 2 * (((x / 2 ^ (k + 1) : Nat) : Int) * y) + c := by
    have e := bit_of x k
    generalize x / 2 ^ (k + 1) = A at *
    generalize x / 2 ^ k % 2 = B at *
    rw [hc, e, Int.natCast_add, Int.natCast_mul, Int.add_mul, Int.mul_assoc]; rfl
  have hc0 : 0 ≤ c := by rw [hc]; exact Int.mul_nonneg (Int.natCast_nonneg _) y0
  constructor
  · rw [hm, h.rest]; exact h.told.step (Rel.nonneg y0 _) hc0 d0
  · rw [hm, (bit_div d0 (Rel.nonneg y0 _) hc0).2, h.rest]

set_option maxHeartbeats 4000000 in
set_option maxRecDepth 100000 in
theorem scale_loop (n num den : Int) (w : World) (x : Nat) (y d : Int) (hx : cutI n = (x : Int)) (hy : cutI num = y) (hd : cutI den = d) (hx1 : x ≤ 9007199254740992) (y0 : 0 ≤ y) (y1 : y ≤ 9007199254740992) (d0 : 1 ≤ d) (d1 : d ≤ 9007199254740992) :
    Calls Try.prog 21 #[.int .i64 n, .int .i64 num, .int .i64 den] w fun e w' => e = .returned (.int .i64 (cutI ((x : Int) * y / d))) ∧ w = w' := by
  have ed : (d == 0) = false := by rw [beq_eq_false_iff_ne]; omega
  have q0 := Int.ediv_nonneg y0 (show 0 ≤ d by omega)
  have q1 : y / d ≤ 9007199254740992 := Int.le_trans (Int.ediv_le_self d y0) y1
  have r0 := Int.emod_nonneg y (show d ≠ 0 by omega)
  have r1 := Int.emod_lt_of_pos y (show 0 < d by omega)
  have HX := Lib.hid hx; have HY := Lib.hid hy; have HD := Lib.hid hd
  clear hx hy hd
  obtain ⟨q, hq⟩ : ∃ q, y / d = q := ⟨_, rfl⟩
  obtain ⟨r, hr⟩ : ∃ r, y % d = r := ⟨_, rfl⟩
  rw [hq] at q0 q1
  rw [hr] at r0 r1
  have HQ := Lib.hid hq; have HR := Lib.hid hr
  clear hq hr
  have h0 : Rel x y d 54 0 0 := by
    have e : x / 2 ^ 54 = 0 := Nat.div_eq_of_lt (by omega)
    constructor
    · rw [e]; unfold Told; simp
    · rw [e]; simp
  go_enter Try.func21, Try.ntmps21
  go_wp2_with (go_at_call 10; refine (Ref01.cut_any _ _).mono ?_; rintro e w' ⟨rfl, rfl⟩; (first | rw [HX.out] | rw [HY.out] | rw [HD.out]))
  go_loopg [10, 11, 12] 54 (fun k v10 v11 v12 wr => ∃ t rr i : Int, v10 = .int .i64 t ∧ v11 = .int .i64 rr ∧ v12 = .int .i64 i ∧ i = (k : Int) - 1 ∧ k ≤ 54 ∧ Rel x y d k t rr ∧ w = wr)
  case atStart => exact ⟨0, 0, 53, rfl, rfl, rfl, rfl, by omega, h0, rfl⟩
  case round =>
    clear h0
    obtain ⟨t, rr, i, rfl, rfl, rfl, hi, hk, hrel, rfl⟩ := hrel
    obtain ⟨t0, t1⟩ := hrel.told.bd (Rel.nonneg y0 _) (show 0 < d by omega)
    have rr0 : 0 ≤ rr := by rw [hrel.rest]; exact Int.emod_nonneg _ (by omega)
    have rr1 : rr < d := by rw [hrel.rest]; exact Int.emod_lt_of_pos _ (by omega)
    have i0 : -1 ≤ i := by omega
    have i1 : i ≤ 53 := by omega
    by_cases hneg : i < 0
    · have hk0 : gk = 0 := by omega
      subst hk0
      have hfin := told_cut hrel.told (Rel.nonneg y0 _) (show 0 < d by omega)
      rw [Nat.pow_zero, Nat.div_one] at hfin
      have HF := Lib.hid hfin
      clear hfin hrel hi hk
      go_wp2_with (go_at_call 10; refine (Ref01.cut_any _ _).mono ?_; rintro e w' ⟨rfl, rfl⟩)
      go_ret
      exact ⟨ret_i64 HF.out, rfl⟩
    · obtain ⟨k, rfl⟩ : ∃ k, gk = k + 1 := ⟨gk - 1, by omega⟩
      have ik : i.toNat = k := by omega
      have eb0 := and_bit x k hx1
      rw [← ik] at eb0
      obtain ⟨b, hb⟩ : ∃ b, b = x / 2 ^ k % 2 := ⟨_, rfl⟩
      have hb2 : b = 0 ∨ b = 1 := by omega
      rw [ik, ← hb, ← ik] at eb0
      have hc0 := hrel.bit y0 (show 0 < d by omega)
      rw [← hb] at hc0
      have Hi := Lib.hid hi
      clear hi hk hrel hb
      have Hk := Lib.hid ik
      clear ik
      rcases hb2 with rfl | rfl
      · have hc := hc0 0 (by simp)
        rw [Int.zero_ediv, Int.zero_emod, Int.add_zero, Int.add_zero] at hc
        have C0 : 0 ≤ 2 * rr / d := Int.ediv_nonneg (by omega) (by omega)
        have C1 : 2 * rr / d ≤ 2 := by have := (Int.ediv_lt_iff_lt_mul (show 0 < d by omega) (a := 2 * rr) (b := 3)).2 (by omega); omega
        have E0 := Int.emod_nonneg (2 * rr) (show d ≠ 0 by omega)
        have E1 := Int.emod_lt_of_pos (2 * rr) (show 0 < d by omega)
        obtain ⟨C, hC⟩ : ∃ C, 2 * rr / d = C := ⟨_, rfl⟩
        obtain ⟨E, hE⟩ : ∃ E, 2 * rr % d = E := ⟨_, rfl⟩
        rw [hC, hE] at hc
        rw [hC] at C0 C1
        rw [hE] at E0 E1
        by_cases hbig : 9007199254740992 < 2 * t + C
        · rw [if_pos hbig] at hc
          have Hc := Lib.hid hc
          clear hc hc0
          go_wp2_with fail
          go_roundg k
          case measure => omega
          case rel => exact ⟨_, _, i - 1, rfl, rfl, rfl, by have := Hi.out; omega, by have := Hi.out; omega, Hc.out, rfl⟩
        · rw [if_neg hbig] at hc
          have Hc := Lib.hid hc
          clear hc hc0
          go_wp2_with fail
          go_roundg k
          case measure => omega
          case rel => exact ⟨_, _, i - 1, rfl, rfl, rfl, by have := Hi.out; omega, by have := Hi.out; omega, Hc.out, rfl⟩
      · have hc := hc0 y (by simp)
        rw [HQ.out, HR.out] at hc
        have hq := HQ.out
        have hr := HR.out
        have C0 : 0 ≤ (2 * rr + r) / d := Int.ediv_nonneg (by omega) (by omega)
        have C1 : (2 * rr + r) / d ≤ 2 := by have := (Int.ediv_lt_iff_lt_mul (show 0 < d by omega) (a := 2 * rr + r) (b := 3)).2 (by omega); omega
        have E0 := Int.emod_nonneg (2 * rr + r) (show d ≠ 0 by omega)
        have E1 := Int.emod_lt_of_pos (2 * rr + r) (show 0 < d by omega)
        obtain ⟨C, hC⟩ : ∃ C, (2 * rr + r) / d = C := ⟨_, rfl⟩
        obtain ⟨E, hE⟩ : ∃ E, (2 * rr + r) % d = E := ⟨_, rfl⟩
        rw [hC, hE] at hc
        rw [hC] at C0 C1
        rw [hE] at E0 E1
        by_cases hbig : 9007199254740992 < 2 * t + q + C
        · rw [if_pos hbig] at hc
          have Hc := Lib.hid hc
          clear hc hc0
          go_wp2_with fail
          go_roundg k
          case measure => omega
          case rel => exact ⟨_, _, i - 1, rfl, rfl, rfl, by have := Hi.out; omega, by have := Hi.out; omega, Hc.out, rfl⟩
        · rw [if_neg hbig] at hc
          have Hc := Lib.hid hc
          clear hc hc0
          go_wp2_with fail
          go_roundg k
          case measure => omega
          case rel => exact ⟨_, _, i - 1, rfl, rfl, rfl, by have := Hi.out; omega, by have := Hi.out; omega, Hc.out, rfl⟩

theorem scaleI_pos {n num den : Int} (hd : cutI den ≠ 0) : scaleI n num den = cutI (cutI n * cutI num / cutI den) := by
  unfold scaleI
  split
  · next h => rw [h, Int.zero_ediv]; decide
  · rfl
theorem scaleI_none {n num den : Int} (hd : cutI den = 0) : scaleI n num den = if cutI n = 0 ∨ cutI num = 0 then 0 else 9007199254740992 := by
  unfold scaleI
  rw [if_pos hd]
  by_cases h : cutI n = 0 ∨ cutI num = 0
  · rw [if_pos h, if_pos (Int.mul_eq_zero.2 h)]
  · rw [if_neg h, if_neg (fun e => h (Int.mul_eq_zero.1 e))]

theorem scale_any (n num den : Int) (w : World) :
    Calls Try.prog 21 #[.int .i64 n, .int .i64 num, .int .i64 den] w fun e w' => e = .returned (.int .i64 (scaleI n num den)) ∧ w = w' := by
  obtain ⟨a0, a1⟩ := cutI_bd n
  obtain ⟨b0, b1⟩ := cutI_bd num
  obtain ⟨c0, c1⟩ := cutI_bd den
  by_cases hd : cutI den = 0
  · have hv := Lib.hid (scaleI_none (n := n) (num := num) hd)
    have e3 : (cutI den == 0) = true := by rw [beq_iff_eq]; exact hd
    have hd' := Lib.hid hd; clear hd
    by_cases ha : cutI n = 0
    · have e1 : (cutI n == 0) = true := by rw [beq_iff_eq]; exact ha
      have ha' := Lib.hid ha; clear ha
      go_enter Try.func21, Try.ntmps21
      go_wp2_with (go_at_call 10; refine (Ref01.cut_any _ _).mono ?_; rintro e w' ⟨rfl, rfl⟩)
      go_ret
      exact ⟨ret_i64 (by rw [hv.out, if_pos (.inl ha'.out)]), rfl⟩
    · have e1 : (cutI n == 0) = false := by rw [beq_eq_false_iff_ne]; exact ha
      have ha' := Lib.hid ha; clear ha
      by_cases hb : cutI num = 0
      · have e2 : (cutI num == 0) = true := by rw [beq_iff_eq]; exact hb
        have hb' := Lib.hid hb; clear hb
        go_enter Try.func21, Try.ntmps21
        go_wp2_with (go_at_call 10; refine (Ref01.cut_any _ _).mono ?_; rintro e w' ⟨rfl, rfl⟩)
        go_ret
        exact ⟨ret_i64 (by rw [hv.out, if_pos (.inr hb'.out)]), rfl⟩
      · have e2 : (cutI num == 0) = false := by rw [beq_eq_false_iff_ne]; exact hb
        have hb' := Lib.hid hb; clear hb
        go_enter Try.func21, Try.ntmps21
        go_wp2_with (go_at_call 10; refine (Ref01.cut_any _ _).mono ?_; rintro e w' ⟨rfl, rfl⟩)
        go_ret
        exact ⟨ret_i64 (by rw [hv.out, if_neg (fun h => h.elim ha'.out hb'.out)]), rfl⟩
  · obtain ⟨x, hx⟩ := Int.eq_ofNat_of_zero_le a0
    refine (scale_loop n num den w x (cutI num) (cutI den) hx rfl rfl (by omega) b0 b1 (by omega) c1).mono ?_
    rintro e w' ⟨rfl, rfl⟩
    exact ⟨ret_i64 (by rw [scaleI_pos hd, hx]), rfl⟩

end Go.Proofs.Ytkeanadphamgnaa.RefScale
