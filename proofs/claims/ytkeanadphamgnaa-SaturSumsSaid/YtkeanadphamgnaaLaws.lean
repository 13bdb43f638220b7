/-
  The walks of the statements about satur whose arguments are numbers: each returns true; the world is as it was, but for draws.
-/
import Derived.Test.YtkeanadphamgnaaRefScale
set_option linter.unusedVariables false
namespace Go.Proofs.Ytkeanadphamgnaa.Laws
open Go.RowKit Go.Proofs.Ytkeanadphamgnaa.Num Go.Proofs.Ytkeanadphamgnaa.Sat

theorem grown_drewN (w : World) (n : Nat) : Grown w (w.drewN n) := (Grown.refl w : Grown w w)
theorem below_drewN' (w : World) (n : Nat) : Below w.heap.size w (w.drewN n) := below_drewN (Below.refl _ w) n

set_option maxHeartbeats 1000000 in
theorem awake_any (w : World) :
    Calls Try.prog 19 #[] w fun e w' => e = .returned (.bool true) ∧ ∃ n, w' = w.drewN n := by
  have e1 : addI 9007199254740992 1 = 9007199254740992 := by decide
  have e2 : subI 3 5 = 0 := by decide
  have e3 : mulI 3 4 = 12 := by decide
  have e4 : divI 7 2 = 3 := by decide
  go_enter Try.func19, Try.ntmps19
  go_wp2_with (first
    | (go_at_call 11; refine (add_any _ _ _).mono ?_; rintro e w' ⟨rfl, rfl⟩; rw [e1])
    | (go_at_call 13; refine (sub_any _ _ _).mono ?_; rintro e w' ⟨rfl, rfl⟩; rw [e2])
    | (go_at_call 15; refine (mul_any _ _ _).mono ?_; rintro e w' ⟨rfl, m, rfl⟩; rw [e3])
    | (go_at_call 17; refine (div_any _ _ _).mono ?_; rintro e w' ⟨rfl, m, rfl⟩; rw [e4]))
  go_ret
  exact ⟨rfl, _, rfl⟩

set_option maxHeartbeats 1000000 in
theorem saturReckons_walk (a b : Int) (w : World) :
    Calls Try.prog 3 #[.int .i64 a, .int .i64 b] w fun e w' => e = .returned (.bool true) ∧ ∃ n, w' = w.drewN n := by
  go_enter Try.func3, Try.ntmps3
  go_wp2_with (first
    | (go_at_call 9; refine (cut_any _ _).mono ?_; rintro e w' ⟨rfl, rfl⟩)
    | (go_at_call 10; refine (Ref01.cut_any _ _).mono ?_; rintro e w' ⟨rfl, rfl⟩)
    | (go_at_call 11; refine (add_any _ _ _).mono ?_; rintro e w' ⟨rfl, rfl⟩)
    | (go_at_call 12; refine (Ref01.add_any _ _ _).mono ?_; rintro e w' ⟨rfl, rfl⟩)
    | (go_at_call 13; refine (sub_any _ _ _).mono ?_; rintro e w' ⟨rfl, rfl⟩)
    | (go_at_call 14; refine (Ref01.sub_any _ _ _).mono ?_; rintro e w' ⟨rfl, rfl⟩)
    | (go_at_call 15; refine (mul_any _ _ _).mono ?_; rintro e w' ⟨rfl, m, rfl⟩)
    | (go_at_call 16; refine (Ref01.mul_any _ _ _).mono ?_; rintro e w' ⟨rfl, rfl⟩)
    | (go_at_call 17; refine (div_any _ _ _).mono ?_; rintro e w' ⟨rfl, m, rfl⟩)
    | (go_at_call 18; refine (RefScale.div_any _ _ _).mono ?_; rintro e w' ⟨rfl, rfl⟩)
    | (go_at_call 19; refine (awake_any _).mono ?_; rintro e w' ⟨rfl, m, rfl⟩))
  go_ret
  exact ⟨rfl, _, rfl⟩

set_option maxHeartbeats 1000000 in
theorem saturScales_walk (n num den : Int) (w : World) :
    Calls Try.prog 4 #[.int .i64 n, .int .i64 num, .int .i64 den] w fun e w' => e = .returned (.bool true) ∧ ∃ n, w' = w.drewN n := by
  go_enter Try.func4, Try.ntmps4
  go_wp2_with (first
    | (go_at_call 20; refine (scale_any _ _ _ _).mono ?_; rintro e w' ⟨rfl, m, rfl⟩)
    | (go_at_call 21; refine (RefScale.scale_any _ _ _ _).mono ?_; rintro e w' ⟨rfl, rfl⟩)
    | (go_at_call 19; refine (awake_any _).mono ?_; rintro e w' ⟨rfl, m, rfl⟩))
  go_ret
  exact ⟨rfl, _, rfl⟩

end Go.Proofs.Ytkeanadphamgnaa.Laws
