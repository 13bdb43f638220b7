/-
  The walks of satur (Cut, Add, Sub, Mul, Div, Scale): each returns the plain count; the world is as it was, but for draws.
-/
import Derived.Test.YthjoflhjiaadhaaDiv
set_option linter.unusedVariables false
namespace Go.Proofs.Ythjoflhjiaadhaa.Sat
open Go.RowKit Go.Proofs.Ythjoflhjiaadhaa.Bits Go.Proofs.Ythjoflhjiaadhaa.Num Go.Proofs.Ythjoflhjiaadhaa.Div

theorem ret_i64 {a b : Int} (h : a = b) : Ending.returned (.int .i64 a) = .returned (.int .i64 b) := by rw [h]

theorem cut_any (n : Int) (w : World) :
    Calls Try.prog 21 #[.int .i64 n] w fun e w' => e = .returned (.int .i64 (cutI n)) ∧ w = w' := by
  go_enter Try.func21, Try.ntmps21
  go_wp2
  all_goals (go_ret; exact ⟨ret_i64 (by unfold cutI; split <;> (try split) <;> omega), rfl⟩)

theorem add_any (a b : Int) (w : World) :
    Calls Try.prog 31 #[.int .i64 a, .int .i64 b] w fun e w' => e = .returned (.int .i64 (addI a b)) ∧ w = w' := by
  obtain ⟨a0, a1⟩ := cutI_bd a
  obtain ⟨b0, b1⟩ := cutI_bd b
  go_enter Try.func31, Try.ntmps31
  go_wp2_with (go_at_call 21; refine (cut_any _ _).mono ?_; rintro e w' ⟨rfl, rfl⟩)
  go_ret
  exact ⟨rfl, rfl⟩

theorem sub_any (a b : Int) (w : World) :
    Calls Try.prog 30 #[.int .i64 a, .int .i64 b] w fun e w' => e = .returned (.int .i64 (subI a b)) ∧ w = w' := by
  obtain ⟨a0, a1⟩ := cutI_bd a
  obtain ⟨b0, b1⟩ := cutI_bd b
  go_enter Try.func30, Try.ntmps30
  go_wp2_with (go_at_call 21; refine (cut_any _ _).mono ?_; rintro e w' ⟨rfl, rfl⟩)
  go_ret
  exact ⟨rfl, rfl⟩

theorem scale_val {p d : Int} (hp : 0 ≤ p) (hd : 0 < d) (h : p / 18446744073709551616 < d) : cutI (p / d) = if 9007199254740992 < p / d then 9007199254740992 else p / d := by
  have := Int.ediv_nonneg hp (Int.le_of_lt hd)
  unfold cutI
  rw [if_neg (by omega)]

theorem scale_top {p d : Int} (hp : 0 ≤ p) (hd : 0 < d) (h : d ≤ p / 18446744073709551616) : cutI (p / d) = 9007199254740992 := by
  have h1 : 18446744073709551616 ≤ p / d := by
    refine (Int.le_ediv_iff_mul_le hd).2 ?_
    have := (Int.le_ediv_iff_mul_le (show (0 : Int) < 18446744073709551616 by omega)).1 h
    rw [Int.mul_comm]; exact this
  unfold cutI
  rw [if_neg (by omega), if_pos (by omega)]

set_option maxHeartbeats 1000000 in
set_option maxRecDepth 100000 in
theorem scale_any (n num den : Int) (w : World) :
    Calls Try.prog 32 #[.int .i64 n, .int .i64 num, .int .i64 den] w fun e w' => e = .returned (.int .i64 (scaleI n num den)) ∧ ∃ m, w' = w.drewN m := by
  obtain ⟨a0, a1⟩ := cutI_bd n
  obtain ⟨b0, b1⟩ := cutI_bd num
  obtain ⟨c0, c1⟩ := cutI_bd den
  obtain ⟨p0, p1⟩ := prod_bd a0 a1 b0 b1
  obtain ⟨p, hp⟩ : ∃ p, cutI n * cutI num = p := ⟨_, rfl⟩
  have hS : scaleI n num den = if p = 0 then 0 else if cutI den = 0 then 9007199254740992 else cutI (p / cutI den) := by unfold scaleI; rw [hp]
  obtain ⟨d, hd⟩ : ∃ d, cutI den = d := ⟨_, rfl⟩
  rw [hd] at c0 c1 hS
  rw [hp] at p0 p1
  have Hp := Lib.hid hp; have HS := Lib.hid hS; have Hd := Lib.hid hd
  clear hp hS hd
  obtain ⟨h, hh⟩ : ∃ h, h = p / 18446744073709551616 := ⟨_, rfl⟩
  obtain ⟨l, hl⟩ : ∃ l, l = p % 18446744073709551616 := ⟨_, rfl⟩
  have hh0 : 0 ≤ h := by omega
  have hh1 : h ≤ 18446744073709551615 := by omega
  have hl0 : 0 ≤ l := by omega
  have hl1 : l ≤ 18446744073709551615 := by omega
  have hpl : h * 18446744073709551616 + l = p := by omega
  have Hh := Lib.hid hh; have Hl := Lib.hid hl; have Hpl := Lib.hid hpl
  clear hh hl hpl
  by_cases z : p = 0
  · have e1 : (h == 0) = true := by rw [beq_iff_eq]; have := Hh.out; omega
    have e2 : (l == 0) = true := by rw [beq_iff_eq]; have := Hl.out; omega
    have z' := Lib.hid z; clear z
    go_enter Try.func32, Try.ntmps32
    go_wp2_with (first
      | (go_at_call 21; refine (cut_any _ _).mono ?_; rintro e w' ⟨rfl, rfl⟩)
      | (go_at_call 33; refine (mul64_any _ _ _ a0 (by omega) b0 (by omega)).mono ?_; rintro e w' ⟨rfl, rfl⟩; rw [Hp.out, ← Hh.out, ← Hl.out]))
    go_ret
    exact ⟨ret_i64 (by rw [HS.out, if_pos z'.out]), 0, rfl⟩
  · have hz : (h == 0) = false ∨ ((h == 0) = true ∧ (l == 0) = false) := by
      have := Hpl.out
      by_cases h0 : h = 0
      · exact .inr ⟨by rw [beq_iff_eq]; exact h0, by rw [beq_eq_false_iff_ne]; omega⟩
      · exact .inl (by rw [beq_eq_false_iff_ne]; exact h0)
    have z' := Lib.hid z; clear z
    by_cases t : d ≤ h
    · have hv : scaleI n num den = 9007199254740992 := by
        rw [HS.out, if_neg z'.out]
        by_cases hd0 : d = 0
        · rw [if_pos hd0]
        · rw [if_neg hd0]; exact scale_top p0 (by omega) (by have := Hh.out; omega)
      have Hv := Lib.hid hv; clear hv
      rcases hz with e1 | ⟨e1, e2⟩
      all_goals
        go_enter Try.func32, Try.ntmps32
        go_wp2_with (first
          | (go_at_call 21; refine (cut_any _ _).mono ?_; rintro e w' ⟨rfl, rfl⟩; (try rw [Hd.out]))
          | (go_at_call 33; refine (mul64_any _ _ _ a0 (by omega) b0 (by omega)).mono ?_; rintro e w' ⟨rfl, rfl⟩; rw [Hp.out, ← Hh.out, ← Hl.out]))
        go_ret
        exact ⟨ret_i64 (by rw [Hv.out]), 0, rfl⟩
    · have hq0 : 0 ≤ p / d := Int.ediv_nonneg p0 c0
      have hq1 : p / d ≤ 18446744073709551615 := by
        have : p / d < 18446744073709551616 := (Int.ediv_lt_iff_lt_mul (by omega)).2 (by have := Hpl.out; omega)
        omega
      have hv : scaleI n num den = if 9007199254740992 < p / d then 9007199254740992 else p / d := by
        rw [HS.out, if_neg z'.out, if_neg (by omega)]; exact scale_val p0 (by omega) (by have := Hh.out; omega)
      obtain ⟨q, hq⟩ : ∃ q, p / d = q := ⟨_, rfl⟩
      rw [hq] at hq0 hq1 hv
      have Hv := Lib.hid hv; have Hq := Lib.hid hq; clear hv hq
      rcases hz with e1 | ⟨e1, e2⟩
      all_goals
        go_enter Try.func32, Try.ntmps32
        go_wp2_with (first
          | (go_at_call 21; refine (cut_any _ _).mono ?_; rintro e w' ⟨rfl, rfl⟩; (try rw [Hd.out]))
          | (go_at_call 33; refine (mul64_any _ _ _ a0 (by omega) b0 (by omega)).mono ?_; rintro e w' ⟨rfl, rfl⟩; rw [Hp.out, ← Hh.out, ← Hl.out])
          | (go_at_call 34; refine (div64_any _ _ _ _ hh0 (by omega) (by omega) hl0 hl1).mono ?_; rintro e w' ⟨rfl, m, rfl⟩; rw [Hpl.out, Hq.out]))
        all_goals (go_ret; exact ⟨ret_i64 (by rw [Hv.out]; first | rw [if_pos ‹_›] | rw [if_neg (by omega)]), _, rfl⟩)

theorem mul_any (a b : Int) (w : World) :
    Calls Try.prog 29 #[.int .i64 a, .int .i64 b] w fun e w' => e = .returned (.int .i64 (mulI a b)) ∧ ∃ m, w' = w.drewN m := by
  go_enter Try.func29, Try.ntmps29
  go_wp2_with (go_at_call 32; refine (scale_any _ _ _ _).mono ?_; rintro e w' ⟨rfl, m, rfl⟩)
  go_ret
  exact ⟨rfl, _, rfl⟩


end Go.Proofs.Ythjoflhjiaadhaa.Sat
