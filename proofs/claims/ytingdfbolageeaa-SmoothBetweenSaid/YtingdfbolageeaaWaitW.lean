/-
  The walks of the ceiling and of both Waits.
-/
import Derived.Test.YtingdfbolageeaaCeil
import Derived.Test.YtingdfbolageeaaMean
set_option linter.unusedVariables false
namespace Go.Proofs.Ytingdfbolageeaa.WaitW
open Go.RowKit Go.Proofs.Ytingdfbolageeaa.Fl Go.Proofs.Ytingdfbolageeaa.Val Go.Proofs.Ytingdfbolageeaa.Rnd Go.Proofs.Ytingdfbolageeaa.Rn Go.Proofs.Ytingdfbolageeaa.Ceil Go.Proofs.Ytingdfbolageeaa.Mn

def CeilIs (x r : Nat) : Prop := (isN x = true ∧ isN r = true) ∨ (isN x = false ∧ r = ceilF x)

theorem quiet_isN (s : Bool) (t : Nat) : isN (FloatKind.f64.encode (.nan s (FloatKind.f64.format.quiet t))) = true := by
  show isN (F.word s (INF + (t ||| 2 ^ 51) % 2 ^ 52)) = true
  have h : (t ||| 2 ^ 51) % 2 ^ 52 ≠ 0 := by
    intro h
    have h2 : ((t ||| 2 ^ 51) % 2 ^ 52).testBit 51 = true := by
      rw [Nat.testBit_mod_two_pow, Nat.testBit_or, Nat.testBit_two_pow_self]; simp
    rw [h] at h2; simp at h2
  have h3 : (t ||| 2 ^ 51) % 2 ^ 52 < 2 ^ 52 := Nat.mod_lt _ (by omega)
  generalize (t ||| 2 ^ 51) % 2 ^ 52 = q at h h3
  have eS : F.signWeight = 2 ^ 63 := rfl
  have hI : INF = 0x7ff0000000000000 := rfl
  rw [isN_rg, decide_eq_true_eq]
  unfold Ieee.Format.word rg
  rw [eS, hI]
  split <;> omega

theorem run_ceil (x : Nat) (w : World) : ∃ r n, (callFunc 42 #[.float .f64 x]).run Try.prog w = .ok (.value (.float .f64 r)) (w.drewN n) ∧ CeilIs x r := by
  have hr := run_callFunc_standIn (P := Try.prog) (f := 42) (e := Extern.MathFloor.toIntegral "math.archCeil" .up) rfl rfl rfl rfl rfl #[.float .f64 x] w
  have hx : isN x = (FloatKind.f64.decode x).isNaN := isN_decode x
  rw [hr]
  unfold CeilIs
  rw [hx]
  unfold ceilF
  have ht : ∀ d, FloatKind.f64.decode x = d → Extern.MathFloor.toIntegral "math.archCeil" .up #[.float .f64 x] = (match d with
      | .nan s t => if FloatKind.f64.format.quiet t = t then pure (.float .f64 x) else
          choose (.extern "math.Floor,Ceil,Trunc,RoundToEven.signallingNaN kept" 2) >>= fun k => pure (.float .f64 (if k == 1 then x else FloatKind.f64.encode (.nan s (FloatKind.f64.format.quiet t))))
      | d => pure (.float .f64 (FloatKind.f64.encode (d.integral .up)))) := by intro d h; subst h; rfl
  cases hd : FloatKind.f64.decode x with
  | nan s t =>
    rw [ht _ hd]
    simp only []
    by_cases hq : FloatKind.f64.format.quiet t = t
    · rw [if_pos hq]
      exact ⟨x, 0, by simp [World.drewN, Result.andThen], .inl ⟨rfl, by rw [hx, hd]; rfl⟩⟩
    · rw [if_neg hq]
      generalize hk : (Question.extern "math.Floor,Ceil,Trunc,RoundToEven.signallingNaN kept" 2).cut (w.tape w.drawn (.extern "math.Floor,Ceil,Trunc,RoundToEven.signallingNaN kept" 2)) = kept
      refine ⟨if kept == 1 then x else FloatKind.f64.encode (.nan s (FloatKind.f64.format.quiet t)), 1, by simp [World.drewN, Result.andThen, Question.forced, hk], .inl ⟨rfl, ?_⟩⟩
      split
      · rw [hx, hd]; rfl
      · exact quiet_isN s t
  | infinity s => rw [ht _ hd]; exact ⟨_, 0, by simp [World.drewN, Result.andThen], .inr ⟨rfl, rfl⟩⟩
  | number s m i => rw [ht _ hd]; exact ⟨_, 0, by simp [World.drewN, Result.andThen], .inr ⟨rfl, rfl⟩⟩

theorem ceil_walk (x : Nat) (w : World) : Calls Try.prog 36 #[.float .f64 x] w fun e w' => (∃ r, e = .returned (.float .f64 r) ∧ CeilIs x r) ∧ ∃ n, w' = w.drewN n := by
  obtain ⟨r, n, hr, hc⟩ := run_ceil x w
  replace hc := Lib.hid hc
  go_enter Try.func36, Try.ntmps36
  go_wp2_with fail
  all_goals (go_ret; exact ⟨⟨_, rfl, hc.out⟩, _, rfl⟩)

def four : Nat := 4616189618054758400
def waitF (mean spread : Nat) : Int :=
  match (floatBits .mul .f64 four spread).bind fun f => floatBits .add .f64 mean f with
  | some m => if isN m = true then 60 else clampI (ceilZ (E m))
  | none => 60
theorem wait_of {mean spread f m : Nat} (hf : Is .mul four spread f) (hm : Is .add mean f m) : waitF mean spread = if isN m = true then 60 else clampI (ceilZ (E m)) := by
  unfold waitF
  rcases hf with hf | ⟨hf, nf⟩
  · rcases hm with hm | ⟨hm, nm⟩
    · simp [hf, hm]
    · simp [hf, hm, nm]
  · have e := none_of_nan (op := .add) (x := mean) (.inl rfl) (.inr nf)
    rcases hm with hm | ⟨hm, nm⟩
    · rw [e] at hm; cases hm
    · simp [hf, nm]

theorem wait_walk (mean spread : Nat) (w : World) : Calls Try.prog 21 #[.float .f64 mean, .float .f64 spread] w fun e w' => e = .returned (.int .i64 (waitF mean spread)) ∧ ∃ n, w' = w.drewN n := by
  have H := fun f m => @wait_of mean spread f m
  replace H := Lib.hid H
  have CE := fun x w => ceil_walk x w
  have NO := fun x w => none_walk x w
  have WI := fun x h => @wait_int x h
  replace CE := Lib.hid CE; replace NO := Lib.hid NO; replace WI := Lib.hid WI
  have hlo : isN 4611686018427387904 = false := isN_lo
  have hhi : isN 4633641066610819072 = false := isN_hi
  replace hlo := Lib.hid hlo; replace hhi := Lib.hid hhi
  go_enter Try.func21, Try.ntmps21
  go_wp2_with (simp only [run_mul, run_add])
  have hf := opV_is .mul four spread w
  change Is .mul four spread (opV .mul 4616189618054758400 spread w) at hf
  generalize opV .mul 4616189618054758400 spread w = f at hf ⊢
  have hm := opV_is .add mean f (w.drewN (opN .mul 4616189618054758400 spread))
  generalize opV .add mean f (w.drewN (opN .mul 4616189618054758400 spread)) = m at hm ⊢
  have E := Lib.hid (H.out f m hf hm)
  replace hf := Lib.hid hf; replace hm := Lib.hid hm
  refine (CE.out _ _).mono ?_; rintro e w1 ⟨⟨r, rfl, hr⟩, n, rfl⟩
  replace hr := Lib.hid hr
  go_wp2_with fail
  refine (NO.out _ _).mono ?_; rintro e w1 ⟨rfl, rfl⟩
  by_cases nr : isN r = true
  · rw [nr]
    replace nr := Lib.hid nr
    go_wp2_with fail
    all_goals (go_ret; refine ⟨?_, _, rfl⟩)
    all_goals
      have nm : isN m = true := by
        rcases hr.out with h | ⟨h1, h2⟩
        · exact h.1
        · have := (wait_facts h1).1
          rw [← h2, nr.out] at this; cases this
      rw [E.out, if_pos nm]; rfl
  · have nr : isN r = false := by simpa using nr
    have nm : isN m = false := by
      rcases hr.out with h | h
      · rw [h.2] at nr; cases nr
      · exact h.1
    have hrr : r = ceilF m := by
      rcases hr.out with h | h
      · rw [h.2] at nr; cases nr
      · exact h.2
    subst hrr
    obtain ⟨n1, hi⟩ := WI.out m nm
    have E2 : waitF mean spread = clampI (ceilZ (Val.E m)) := by rw [E.out, if_neg (by simp [nm])]
    rw [← E2] at hi
    have X1 := fun ts t w => run_max Try.prog ts t (ceilF m) 4611686018427387904 w nr hlo.out
    have X2 := fun ts t w => run_min Try.prog ts t (maxV (ceilF m) 4611686018427387904) 4633641066610819072 w n1 hhi.out
    have X3 := fun w => run_convert_float_int (P := Try.prog) w 22 3 .f64 .i64 _ _ (by rw [Try.underlying22]; rfl) Try.underlying3 hi
    change ∀ w, (convert _ _ (.float .f64 (minV (maxV (ceilF m) 4611686018427387904) 4633641066610819072))).run _ w = _ at X3
    rw [nr]
    replace nr := Lib.hid nr; replace n1 := Lib.hid n1; replace hi := Lib.hid hi; replace E2 := Lib.hid E2
    go_wp2_with fail
    all_goals (go_ret; exact ⟨rfl, _, rfl⟩)

theorem rwait_walk (mean spread : Nat) (w : World) : Calls Try.prog 22 #[.float .f64 mean, .float .f64 spread] w fun e w' => e = .returned (.int .i64 (waitF mean spread)) ∧ ∃ n, w' = w.drewN n := by
  have H := fun f m => @wait_of mean spread f m
  replace H := Lib.hid H
  have CE := fun x w => ceil_walk x w
  have NO := fun x w => isNaN_walk x w
  replace CE := Lib.hid CE; replace NO := Lib.hid NO
  go_enter Try.func22, Try.ntmps22
  go_wp2_with (simp only [run_mul, run_add])
  have hf := opV_is .mul four spread w
  change Is .mul four spread (opV .mul 4616189618054758400 spread w) at hf
  generalize opV .mul 4616189618054758400 spread w = f at hf ⊢
  have hm := opV_is .add mean f (w.drewN (opN .mul 4616189618054758400 spread))
  generalize opV .add mean f (w.drewN (opN .mul 4616189618054758400 spread)) = m at hm ⊢
  have E := Lib.hid (H.out f m hf hm)
  replace hf := Lib.hid hf; replace hm := Lib.hid hm
  refine (CE.out _ _).mono ?_; rintro e w1 ⟨⟨r, rfl, hr⟩, n, rfl⟩
  replace hr := Lib.hid hr
  go_wp2_with fail
  refine (NO.out _ _).mono ?_; rintro e w1 ⟨rfl, rfl⟩
  by_cases nr : isN r = true
  · rw [nr]
    replace nr := Lib.hid nr
    go_wp2_with fail
    all_goals (go_ret; refine ⟨?_, _, rfl⟩)
    all_goals
      have nm : isN m = true := by
        rcases hr.out with h | ⟨h1, h2⟩
        · exact h.1
        · have := (wait_facts h1).1
          rw [← h2, nr.out] at this; cases this
      rw [E.out, if_pos nm]; rfl
  · have nr : isN r = false := by simpa using nr
    have nm : isN m = false := by
      rcases hr.out with h | h
      · rw [h.2] at nr; cases nr
      · exact h.1
    have hrr : r = ceilF m := by
      rcases hr.out with h | h
      · rw [h.2] at nr; cases nr
      · exact h.2
    subst hrr
    have E2 : waitF mean spread = clampI (ceilZ (Val.E m)) := by rw [E.out, if_neg (by simp [nm])]
    have R := rwait_int nm
    rw [← E2] at R
    unfold gtF eqF ltF at R
    rw [show hi = 4633641066610819072 from rfl, show lo = 4611686018427387904 from rfl] at R
    rw [nr]
    replace nr := Lib.hid nr; replace E2 := Lib.hid E2
    rcases R with ⟨h1, e1⟩ | ⟨⟨h1, h2⟩, h3, e1⟩ | ⟨⟨h1, h2⟩, ⟨h3, h4⟩, hi⟩
    · replace e1 := Lib.hid e1
      rcases h1 with h1 | h1
      · go_wp2_with fail
        all_goals (go_ret; exact ⟨by rw [e1.out]; rfl, _, rfl⟩)
      · have h2 : (FloatKind.f64.format.order (ceilF m) 4633641066610819072 == some .gt) = false := by
          rw [eq_of_beq h1]; rfl
        go_wp2_with fail
        all_goals (go_ret; exact ⟨by rw [e1.out]; rfl, _, rfl⟩)
    · replace e1 := Lib.hid e1
      rcases h3 with h3 | h3
      · go_wp2_with fail
        all_goals (go_ret; exact ⟨by rw [e1.out]; rfl, _, rfl⟩)
      · have h4 : (FloatKind.f64.format.order (ceilF m) 4611686018427387904 == some .lt) = false := by
          rw [eq_of_beq h3]; rfl
        go_wp2_with fail
        all_goals (go_ret; exact ⟨by rw [e1.out]; rfl, _, rfl⟩)
    · have X3 := fun w => run_convert_float_int (P := Try.prog) w 22 3 .f64 .i64 _ _ (by rw [Try.underlying22]; rfl) Try.underlying3 hi
      replace hi := Lib.hid hi
      go_wp2_with fail
      all_goals (go_ret; exact ⟨rfl, _, rfl⟩)

end Go.Proofs.Ytingdfbolageeaa.WaitW
