/-
  The walk of Pick, at a positive number.
-/
import Derived.Test.YthdobpfojdcagaaNext
set_option linter.unusedVariables false
namespace Go.Proofs.Ythdobpfojdcagaa.Pick
open Go.RowKit Go.Proofs.Ythdobpfojdcagaa.Next

set_option maxRecDepth 100000 in
set_option maxHeartbeats 1000000 in
theorem pick_pos (x n : Int) (w : World) (h0 : -9223372036854775808 ≤ x) (h1 : x ≤ 9223372036854775807) (n0 : 1 ≤ n) (n1 : n ≤ 1000000) :
    Calls Try.prog 16 #[.int .i64 x, .int .i64 n] w fun e w' => e = .returned (.int .i64 (x % n)) ∧ w = w' := by
  have nz : n ≠ 0 := by omega
  have nb : (n == 0) = false := beq_eq_false_iff_ne.2 nz
  by_cases hx : 0 ≤ x
  · have q0 := Int.emod_nonneg x nz
    have q1 := Int.emod_lt_of_pos x (show 0 < n by omega)
    have et : x.tmod n = x % n := Int.tmod_eq_emod_of_nonneg hx
    obtain ⟨m, hm⟩ : ∃ m, x % n = m := ⟨_, rfl⟩
    rw [hm] at q0 q1 et ⊢
    go_enter Try.func16, Try.ntmps16
    go_wp2_with fail
    go_ret
    exact ⟨rfl, rfl⟩
  · obtain ⟨y, rfl⟩ : ∃ y, x = -y := ⟨-x, by omega⟩
    have q0 := Int.emod_nonneg y nz
    have q1 := Int.emod_lt_of_pos y (show 0 < n by omega)
    have et : (-y).tmod n = -(y % n) := by rw [Int.neg_tmod, Int.tmod_eq_emod_of_nonneg (by omega)]
    have ee : (-y) % n = if y % n = 0 then 0 else n - y % n := by
      split
      · rename_i h
        exact Int.emod_eq_zero_of_dvd (Int.dvd_neg.2 (Int.dvd_of_emod_eq_zero h))
      · rename_i h
        have hd := Int.mul_ediv_add_emod y n
        have : -y = (n - y % n) + n * (-(y / n) - 1) := by rw [Int.mul_sub, Int.mul_neg, Int.mul_one]; omega
        rw [this, Int.add_mul_emod_self_left]
        exact Int.emod_eq_of_lt (by omega) (by omega)
    obtain ⟨m, hm⟩ : ∃ m, y % n = m := ⟨_, rfl⟩
    rw [hm] at q0 q1 et ee
    rw [ee]
    have hx2 : ¬ (0 ≤ -y) := hx
    by_cases hm0 : m = 0
    · subst hm0
      rw [if_pos rfl]
      have et2 : (-y).tmod n = 0 := by rw [et]; rfl
      clear ee hm et
      go_enter Try.func16, Try.ntmps16
      go_wp2_with fail
      go_ret
      exact ⟨rfl, rfl⟩
    · rw [if_neg hm0]
      obtain ⟨t, ht⟩ : ∃ t, t = -m := ⟨_, rfl⟩
      have et2 : (-y).tmod n = t := by rw [et, ht]
      have t0 : t < 0 := by omega
      have t1 : -1000000 < t := by omega
      have hr : t + n = n - m := by omega
      have HR := Lib.hid hr
      clear ee hm et ht hr
      go_enter Try.func16, Try.ntmps16
      go_wp2_with fail
      go_ret
      exact ⟨by rw [← HR.out]; rfl, rfl⟩

end Go.Proofs.Ythdobpfojdcagaa.Pick
