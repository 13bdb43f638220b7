/-
  The walks of the floats' small functions, of Mean and of Spread.
-/
import Derived.Test.YtingdfbolageeaaFl
import Derived.Lib.Hide
set_option linter.unusedVariables false
namespace Go.Proofs.Ytingdfbolageeaa.Mn
open Go.RowKit Go.Proofs.Ytingdfbolageeaa.Fl

theorem run_bits (x : Nat) (w : World) : (callFunc 31 #[.float .f64 x]).run Try.prog w = .ok (.value (.int .u64 (x : Int))) w := by
  rw [run_callFunc_standIn (f := 31) (e := Extern.MathFloatBits.float64bits) rfl rfl rfl rfl rfl]; rfl
theorem run_from (n : Int) (w : World) : (callFunc 30 #[.int .u64 n]).run Try.prog w = .ok (.value (.float .f64 n.toNat)) w := by
  rw [run_callFunc_standIn (f := 30) (e := Extern.MathFloatBits.float64frombits) rfl rfl rfl rfl rfl]; rfl

theorem none_walk (x : Nat) (w : World) : Calls Try.prog 29 #[.float .f64 x] w fun e w' => e = .returned (.bool (isN x)) ∧ w = w' := by
  go_enter Try.func29, Try.ntmps29
  go_wp2_with fail
  all_goals (go_ret; exact ⟨rfl, rfl⟩)
theorem isNaN_walk (x : Nat) (w : World) : Calls Try.prog 12 #[.float .f64 x] w fun e w' => e = .returned (.bool (isN x)) ∧ w = w' := by
  go_enter Try.func12, Try.ntmps12
  go_wp2_with fail
  all_goals (go_ret; exact ⟨rfl, rfl⟩)
theorem abs_walk (x : Nat) (w : World) : Calls Try.prog 13 #[.float .f64 x] w fun e w' => e = .returned (.float .f64 (absF x)) ∧ w = w' := by
  have hb := fun w => run_bits x w
  have hf := fun n w => run_from n w
  go_enter Try.func13, Try.ntmps13
  go_wp2_with fail
  all_goals (go_ret; exact ⟨rfl, rfl⟩)

theorem run_same (r : Nat) (w : World) : (convert 22 22 (.float .f64 r)).run Try.prog w = .ok (.float .f64 r) w :=
  run_convert_float_float w _ _ .f64 .f64 r r (by rw [Try.underlying22]; rfl) Try.underlying22 (by simp [floatToFloatBits])

theorem mean_walk (old now part : Nat) (w : World) : Calls Try.prog 11 #[.float .f64 old, .float .f64 now, .float .f64 part] w fun e w' => e = .returned (.float .f64 (meanF old now part)) ∧ ∃ n, w' = w.drewN n := by
  by_cases ho : isN old = true
  · have e : meanF old now part = now := by simp [meanF, ho]
    rw [e]
    go_enter Try.func11, Try.ntmps11
    go_wp2_with fail
    refine (none_walk _ _).mono ?_; rintro e w1 ⟨rfl, rfl⟩; rw [ho]
    go_wp2_with fail
    all_goals (go_ret; exact ⟨rfl, 0, rfl⟩)
  · have ho : isN old = false := by simpa using ho
    by_cases hn : isN now = true
    · have e : meanF old now part = old := by simp [meanF, ho, hn]
      rw [e]
      go_enter Try.func11, Try.ntmps11
      go_wp2_with fail
      refine (none_walk _ _).mono ?_; rintro e w1 ⟨rfl, rfl⟩; rw [ho]
      go_wp2_with fail
      refine (none_walk _ _).mono ?_; rintro e w1 ⟨rfl, rfl⟩; rw [hn]
      go_wp2_with fail
      all_goals (go_ret; exact ⟨rfl, 0, rfl⟩)
    · have hn : isN now = false := by simpa using hn
      have H := fun d s m => @mean_of old now part d s m ho hn
      replace H := Lib.hid H
      go_enter Try.func11, Try.ntmps11
      go_wp2_with fail
      refine (none_walk _ _).mono ?_; rintro e w1 ⟨rfl, rfl⟩; rw [ho]
      go_wp2_with fail
      refine (none_walk _ _).mono ?_; rintro e w1 ⟨rfl, rfl⟩; rw [hn]
      go_wp2_with (simp only [run_sub, run_mul, run_add])
      have hd := opV_is .sub now old w
      generalize opV .sub now old w = d at hd ⊢
      have hs := opV_is .mul part d (w.drewN (opN .sub now old))
      generalize opV .mul part d (w.drewN (opN .sub now old)) = s at hs ⊢
      have hm := opV_is .add old s (w.drewN (opN .sub now old + opN .mul part d))
      generalize opV .add old s (w.drewN (opN .sub now old + opN .mul part d)) = m at hm ⊢
      have E := H.out d s m hd hs hm
      refine (none_walk _ _).mono ?_; rintro e w1 ⟨rfl, rfl⟩
      by_cases nm : isN m = true
      · rw [if_pos nm] at E; rw [nm]; replace E := Lib.hid E
        go_wp2_with fail
        all_goals (go_ret; exact ⟨by rw [E.out]; rfl, _, rfl⟩)
      · rw [if_neg nm] at E; have nm : isN m = false := by simpa using nm
        rw [nm]; replace E := Lib.hid E
        go_wp2_with fail
        all_goals (go_ret; exact ⟨by rw [E.out]; rfl, _, rfl⟩)

theorem rmean_walk (old now part : Nat) (w : World) : Calls Try.prog 23 #[.float .f64 old, .float .f64 now, .float .f64 part] w fun e w' => e = .returned (.float .f64 (meanF old now part)) ∧ ∃ n, w' = w.drewN n := by
  by_cases ho : isN old = true
  · have e : meanF old now part = now := by simp [meanF, ho]
    rw [e]
    go_enter Try.func23, Try.ntmps23
    go_wp2_with fail
    refine (isNaN_walk _ _).mono ?_; rintro e w1 ⟨rfl, rfl⟩; rw [ho]
    go_wp2_with fail
    all_goals (go_ret; exact ⟨rfl, 0, rfl⟩)
  · have ho : isN old = false := by simpa using ho
    by_cases hn : isN now = true
    · have e : meanF old now part = old := by simp [meanF, ho, hn]
      rw [e]
      go_enter Try.func23, Try.ntmps23
      go_wp2_with fail
      refine (isNaN_walk _ _).mono ?_; rintro e w1 ⟨rfl, rfl⟩; rw [ho]
      go_wp2_with fail
      refine (isNaN_walk _ _).mono ?_; rintro e w1 ⟨rfl, rfl⟩; rw [hn]
      go_wp2_with fail
      all_goals (go_ret; exact ⟨rfl, 0, rfl⟩)
    · have hn : isN now = false := by simpa using hn
      have H := fun d s m => @mean_of old now part d s m ho hn
      replace H := Lib.hid H
      go_enter Try.func23, Try.ntmps23
      go_wp2_with fail
      refine (isNaN_walk _ _).mono ?_; rintro e w1 ⟨rfl, rfl⟩; rw [ho]
      go_wp2_with fail
      refine (isNaN_walk _ _).mono ?_; rintro e w1 ⟨rfl, rfl⟩; rw [hn]
      go_wp2_with (simp only [run_sub, run_mul, run_add])
      have hd := opV_is .sub now old w
      generalize opV .sub now old w = d at hd ⊢
      have hs := opV_is .mul part d (w.drewN (opN .sub now old))
      generalize opV .mul part d (w.drewN (opN .sub now old)) = s at hs ⊢
      have hm := opV_is .add old s (w.drewN (opN .sub now old + opN .mul part d))
      generalize opV .add old s (w.drewN (opN .sub now old + opN .mul part d)) = m at hm ⊢
      have E := H.out d s m hd hs hm
      refine (isNaN_walk _ _).mono ?_; rintro e w1 ⟨rfl, rfl⟩
      by_cases nm : isN m = true
      · rw [if_pos nm] at E; rw [nm]; replace E := Lib.hid E
        go_wp2_with fail
        all_goals (go_ret; exact ⟨by rw [E.out]; rfl, _, rfl⟩)
      · rw [if_neg nm] at E; have nm : isN m = false := by simpa using nm
        rw [nm]; replace E := Lib.hid E
        go_wp2_with fail
        all_goals (go_ret; exact ⟨by rw [E.out]; rfl, _, rfl⟩)

theorem spread_walk (old mean now part : Nat) (w : World) : Calls Try.prog 24 #[.float .f64 old, .float .f64 mean, .float .f64 now, .float .f64 part] w fun e w' => (∃ r, e = .returned (.float .f64 r) ∧ SpreadIs old mean now part r) ∧ ∃ n, w' = w.drewN n := by
  have AB := fun x w => abs_walk x w
  have ME := fun o n p w => mean_walk o n p w
  replace AB := Lib.hid AB; replace ME := Lib.hid ME
  go_enter Try.func24, Try.ntmps24
  go_wp2_with (simp only [run_sub])
  have hd := opV_is .sub now mean w
  generalize opV .sub now mean w = d at hd ⊢
  replace hd := Lib.hid hd
  refine (AB.out _ _).mono ?_; rintro e w1 ⟨rfl, rfl⟩
  go_wp2_with fail
  refine (ME.out _ _ _ _).mono ?_; rintro e w1 ⟨rfl, n, rfl⟩
  go_wp2_with fail
  all_goals (go_ret; exact ⟨⟨_, rfl, _, hd.out, rfl⟩, _, rfl⟩)

theorem rspread_walk (old mean now part : Nat) (w : World) : Calls Try.prog 25 #[.float .f64 old, .float .f64 mean, .float .f64 now, .float .f64 part] w fun e w' => (∃ r, e = .returned (.float .f64 r) ∧ SpreadIs old mean now part r) ∧ ∃ n, w' = w.drewN n := by
  have AB := fun x w => abs_walk x w
  have ME := fun o n p w => rmean_walk o n p w
  replace AB := Lib.hid AB; replace ME := Lib.hid ME
  go_enter Try.func25, Try.ntmps25
  go_wp2_with (simp only [run_sub])
  have hd := opV_is .sub now mean w
  generalize opV .sub now mean w = d at hd ⊢
  replace hd := Lib.hid hd
  refine (AB.out _ _).mono ?_; rintro e w1 ⟨rfl, rfl⟩
  go_wp2_with fail
  refine (ME.out _ _ _ _).mono ?_; rintro e w1 ⟨rfl, n, rfl⟩
  go_wp2_with fail
  all_goals (go_ret; exact ⟨⟨_, rfl, _, hd.out, rfl⟩, _, rfl⟩)

def beforeF (a b : Nat) : Bool := ltF a b || (isN b && !isN a)
def sameF (a b : Nat) : Bool := (a : Int) == (b : Int) || (isN a && isN b)

theorem before_walk (a b : Nat) (w : World) : Calls Try.prog 16 #[.float .f64 a, .float .f64 b] w fun e w' => e = .returned (.bool (beforeF a b)) ∧ w = w' := by
  rcases hl : (FloatKind.f64.format.order a b == some .lt) with _ | _
  · rcases hb : isN b with _ | _
    · have e : beforeF a b = false := by simp only [beforeF, ltF, hl, hb]; rfl
      rw [e]
      go_enter Try.func16, Try.ntmps16
      go_wp2_with fail
      refine (none_walk _ _).mono ?_; rintro e w1 ⟨rfl, rfl⟩; rw [hb]
      go_wp2_with fail
      all_goals (go_ret; exact ⟨rfl, rfl⟩)
    · have e : beforeF a b = !isN a := by simp only [beforeF, ltF, hl, hb]; rfl
      rw [e]
      go_enter Try.func16, Try.ntmps16
      go_wp2_with fail
      refine (none_walk _ _).mono ?_; rintro e w1 ⟨rfl, rfl⟩; rw [hb]
      go_wp2_with fail
      refine (none_walk _ _).mono ?_; rintro e w1 ⟨rfl, rfl⟩
      go_wp2_with fail
      all_goals (go_ret; exact ⟨rfl, rfl⟩)
  · have e : beforeF a b = true := by simp only [beforeF, ltF, hl]; rfl
    rw [e]
    go_enter Try.func16, Try.ntmps16
    go_wp2_with fail
    all_goals (go_ret; exact ⟨rfl, rfl⟩)

end Go.Proofs.Ytingdfbolageeaa.Mn
