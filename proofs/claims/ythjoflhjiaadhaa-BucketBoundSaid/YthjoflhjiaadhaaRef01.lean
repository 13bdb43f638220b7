/-
  The walks of the document's own answer for satur (ostiaryref01): each returns the same plain count.
-/
import Derived.Test.YthjoflhjiaadhaaSat
import Derived.Lib.RabinKarpLaws
set_option linter.unusedVariables false
namespace Go.Proofs.Ythjoflhjiaadhaa.Ref01
open Go.RowKit Go.Proofs.Ythjoflhjiaadhaa.Num Go.Proofs.Ythjoflhjiaadhaa.Sat

theorem cut_any (n : Int) (w : World) :
    Calls Try.prog 25 #[.int .i64 n] w fun e w' => e = .returned (.int .i64 (cutI n)) ∧ w = w' := by
  go_enter Try.func25, Try.ntmps25
  go_wp2
  all_goals (go_ret; exact ⟨ret_i64 (by unfold cutI; split <;> (try split) <;> omega), rfl⟩)

theorem add_any (a b : Int) (w : World) :
    Calls Try.prog 27 #[.int .i64 a, .int .i64 b] w fun e w' => e = .returned (.int .i64 (addI a b)) ∧ w = w' := by
  obtain ⟨a0, a1⟩ := cutI_bd a
  obtain ⟨b0, b1⟩ := cutI_bd b
  go_enter Try.func27, Try.ntmps27
  go_wp2_with (go_at_call 25; refine (cut_any _ _).mono ?_; rintro e w' ⟨rfl, rfl⟩)
  go_ret
  exact ⟨rfl, rfl⟩


theorem cutI_one : cutI 1 = 1 := by decide
theorem mulI_eq (a b : Int) : mulI a b = cutI (cutI a * cutI b) := by
  unfold mulI scaleI
  rw [cutI_one, Int.ediv_one]
  split
  · next h => rw [h]; decide
  · rfl
theorem mulI_zero {a b : Int} (h : cutI a = 0 ∨ cutI b = 0) : mulI a b = 0 := by
  rw [mulI_eq]; rcases h with h | h <;> rw [h]
  · rw [Int.zero_mul]; decide
  · rw [Int.mul_zero]; decide
theorem mulI_big {a b : Int} (ha : 0 < cutI a) (hb : 0 < cutI b) (h : 9007199254740992 / cutI b < cutI a) : mulI a b = 9007199254740992 := by
  rw [mulI_eq]
  have := (Int.ediv_lt_iff_lt_mul hb).1 h
  unfold cutI at this ⊢
  rw [if_neg (by omega), if_pos (by omega)]
theorem mulI_small {a b : Int} (hb : 0 < cutI b) (h : cutI a ≤ 9007199254740992 / cutI b) : 0 ≤ cutI a * cutI b ∧ cutI a * cutI b ≤ 9007199254740992 :=
  ⟨Int.mul_nonneg (cutI_bd a).1 (cutI_bd b).1, (Int.le_ediv_iff_mul_le hb).1 h⟩

theorem mul_any (a b : Int) (w : World) :
    Calls Try.prog 28 #[.int .i64 a, .int .i64 b] w fun e w' => e = .returned (.int .i64 (mulI a b)) ∧ w = w' := by
  obtain ⟨a0, a1⟩ := cutI_bd a
  obtain ⟨b0, b1⟩ := cutI_bd b
  have HB := Lib.hid (mulI_eq a b)
  by_cases ha : cutI a = 0
  · have hv := Lib.hid (mulI_zero (b := b) (.inl ha))
    have e1 : (cutI a == 0) = true := by rw [beq_iff_eq]; exact ha
    have ha' := Lib.hid ha; clear ha
    go_enter Try.func28, Try.ntmps28
    go_wp2_with (go_at_call 25; refine (cut_any _ _).mono ?_; rintro e w' ⟨rfl, rfl⟩)
    go_ret
    exact ⟨ret_i64 hv.out.symm, rfl⟩
  · have e1 : (cutI a == 0) = false := by rw [beq_eq_false_iff_ne]; exact ha
    by_cases hb : cutI b = 0
    · have hv := Lib.hid (mulI_zero (a := a) (.inr hb))
      have e2 : (cutI b == 0) = true := by rw [beq_iff_eq]; exact hb
      have hb' := Lib.hid hb; clear hb ha
      go_enter Try.func28, Try.ntmps28
      go_wp2_with (go_at_call 25; refine (cut_any _ _).mono ?_; rintro e w' ⟨rfl, rfl⟩)
      go_ret
      exact ⟨ret_i64 hv.out.symm, rfl⟩
    · have e2 : (cutI b == 0) = false := by rw [beq_eq_false_iff_ne]; exact hb
      have pa : 0 < cutI a := by omega
      have pb : 0 < cutI b := by omega
      have q0 : 0 ≤ 9007199254740992 / cutI b := Int.ediv_nonneg (by omega) b0
      have q1 : 9007199254740992 / cutI b ≤ 9007199254740992 := Int.ediv_le_self _ (by omega)
      obtain ⟨q, hq⟩ : ∃ q, q = 9007199254740992 / cutI b := ⟨_, rfl⟩
      rw [← hq] at q0 q1
      have eq1 : 9007199254740992 / cutI b = q := hq.symm
      by_cases ht : q < cutI a
      · have hv := Lib.hid (mulI_big pa pb (by rw [← hq]; exact ht))
        clear hq ha hb
        go_enter Try.func28, Try.ntmps28
        go_wp2_with (go_at_call 25; refine (cut_any _ _).mono ?_; rintro e w' ⟨rfl, rfl⟩)
        go_ret
        exact ⟨ret_i64 hv.out.symm, rfl⟩
      · obtain ⟨p0, p1⟩ := mulI_small (a := a) pb (by rw [← hq]; omega)
        obtain ⟨p, hp⟩ : ∃ p, cutI a * cutI b = p := ⟨_, rfl⟩
        have HP := Lib.hid hp
        rw [hp] at p0 p1
        have ht' : cutI a ≤ q := by omega
        clear hq ha hb ht
        go_enter Try.func28, Try.ntmps28
        go_wp2_with (go_at_call 25; refine (cut_any _ _).mono ?_; rintro e w' ⟨rfl, rfl⟩)
        go_ret
        exact ⟨ret_i64 (by rw [HB.out, HP.out]), rfl⟩

end Go.Proofs.Ythjoflhjiaadhaa.Ref01
