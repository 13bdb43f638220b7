/-
  The walks of Before, same, and the floats' edges.
-/
import Derived.Test.YtingdfbolageeaaWaitW
set_option linter.unusedVariables false
namespace Go.Proofs.Ytingdfbolageeaa.Bef
open Go.RowKit Go.Proofs.Ytingdfbolageeaa.Fl Go.Proofs.Ytingdfbolageeaa.Mn

theorem ltF_nan {a b : Nat} (h : isN a = true) : ltF a b = false := by
  rw [isN_decode] at h
  unfold ltF Ieee.Format.order
  cases hx : FloatKind.f64.format.read a <;> rw [hx] at h <;> first | (cases h; done) | rfl

theorem rbefore_walk (a b : Nat) (w : World) : Calls Try.prog 17 #[.float .f64 a, .float .f64 b] w fun e w' => e = .returned (.bool (beforeF a b)) ∧ w = w' := by
  rcases ha : isN a with _ | _
  · rcases hb : isN b with _ | _
    · have e : beforeF a b = (FloatKind.f64.format.order a b == some .lt) := by simp [beforeF, ltF, ha, hb]
      rw [e]
      go_enter Try.func17, Try.ntmps17
      go_wp2_with fail
      refine (isNaN_walk _ _).mono ?_; rintro e w1 ⟨rfl, rfl⟩; rw [ha]
      go_wp2_with fail
      refine (isNaN_walk _ _).mono ?_; rintro e w1 ⟨rfl, rfl⟩; rw [hb]
      go_wp2_with fail
      all_goals (go_ret; exact ⟨rfl, rfl⟩)
    · have e : beforeF a b = true := by simp [beforeF, ltF, ha, hb]
      rw [e]
      go_enter Try.func17, Try.ntmps17
      go_wp2_with fail
      refine (isNaN_walk _ _).mono ?_; rintro e w1 ⟨rfl, rfl⟩; rw [ha]
      go_wp2_with fail
      refine (isNaN_walk _ _).mono ?_; rintro e w1 ⟨rfl, rfl⟩; rw [hb]
      go_wp2_with fail
      all_goals (go_ret; exact ⟨rfl, rfl⟩)
  · have e : beforeF a b = false := by simp [beforeF, ltF_nan ha, ha]
    rw [e]
    go_enter Try.func17, Try.ntmps17
    go_wp2_with fail
    refine (isNaN_walk _ _).mono ?_; rintro e w1 ⟨rfl, rfl⟩; rw [ha]
    go_wp2_with fail
    all_goals (go_ret; exact ⟨rfl, rfl⟩)

theorem same_walk (a b : Nat) (w : World) : Calls Try.prog 20 #[.float .f64 a, .float .f64 b] w fun e w' => e = .returned (.bool (sameF a b)) ∧ w = w' := by
  have hB := fun x w => run_bits x w
  rcases hl : ((a : Int) == (b : Int)) with _ | _
  · rcases ha : isN a with _ | _
    · have e : sameF a b = false := by simp only [sameF, hl, ha]; rfl
      rw [e]
      go_enter Try.func20, Try.ntmps20
      go_wp2_with fail
      refine (isNaN_walk _ _).mono ?_; rintro e w1 ⟨rfl, rfl⟩; rw [ha]
      go_wp2_with fail
      all_goals (go_ret; exact ⟨rfl, rfl⟩)
    · have e : sameF a b = isN b := by simp only [sameF, hl, ha]; rfl
      rw [e]
      go_enter Try.func20, Try.ntmps20
      go_wp2_with fail
      refine (isNaN_walk _ _).mono ?_; rintro e w1 ⟨rfl, rfl⟩; rw [ha]
      go_wp2_with fail
      refine (isNaN_walk _ _).mono ?_; rintro e w1 ⟨rfl, rfl⟩
      go_wp2_with fail
      all_goals (go_ret; exact ⟨rfl, rfl⟩)
  · have e : sameF a b = true := by simp only [sameF, hl]; rfl
    rw [e]
    go_enter Try.func20, Try.ntmps20
    go_wp2_with fail
    all_goals (go_ret; exact ⟨rfl, rfl⟩)

def NAN : Nat := 9221120237041090561
def INFB : Nat := 9218868437227405312
def NZERO : Nat := 9223372036854775808
theorem mnan_walk (w : World) : Calls Try.prog 37 #[] w fun e w' => e = .returned (.float .f64 NAN) ∧ w = w' := by
  have hf := fun n w => run_from n w
  go_enter Try.func37, Try.ntmps37
  go_wp2_with fail
  all_goals (go_ret; exact ⟨rfl, rfl⟩)
theorem minf_walk (w : World) : Calls Try.prog 38 #[.int .i64 1] w fun e w' => e = .returned (.float .f64 INFB) ∧ w = w' := by
  have hf := fun n w => run_from n w
  go_enter Try.func38, Try.ntmps38
  go_wp2_with fail
  all_goals (go_ret; exact ⟨rfl, rfl⟩)
theorem mcopysign_walk (w : World) : Calls Try.prog 39 #[.float .f64 0, .float .f64 13830554455654793216] w fun e w' => e = .returned (.float .f64 NZERO) ∧ w = w' := by
  have hf := fun n w => run_from n w
  have hB := fun x w => run_bits x w
  go_enter Try.func39, Try.ntmps39
  go_wp2_with fail
  all_goals (go_ret; exact ⟨rfl, rfl⟩)
theorem nan_walk (w : World) : Calls Try.prog 26 #[] w fun e w' => e = .returned (.float .f64 NAN) ∧ w = w' := by
  go_enter Try.func26, Try.ntmps26
  go_wp2_with fail
  refine (mnan_walk _).mono ?_; rintro e w1 ⟨rfl, rfl⟩
  go_wp2_with fail
  all_goals (go_ret; exact ⟨rfl, rfl⟩)
theorem inf_walk (w : World) : Calls Try.prog 27 #[] w fun e w' => e = .returned (.float .f64 INFB) ∧ w = w' := by
  go_enter Try.func27, Try.ntmps27
  go_wp2_with fail
  refine (minf_walk _).mono ?_; rintro e w1 ⟨rfl, rfl⟩
  go_wp2_with fail
  all_goals (go_ret; exact ⟨rfl, rfl⟩)
theorem zero_walk (w : World) : Calls Try.prog 28 #[] w fun e w' => e = .returned (.float .f64 NZERO) ∧ w = w' := by
  go_enter Try.func28, Try.ntmps28
  go_wp2_with fail
  refine (mcopysign_walk _).mono ?_; rintro e w1 ⟨rfl, rfl⟩
  go_wp2_with fail
  all_goals (go_ret; exact ⟨rfl, rfl⟩)

end Go.Proofs.Ytingdfbolageeaa.Bef
