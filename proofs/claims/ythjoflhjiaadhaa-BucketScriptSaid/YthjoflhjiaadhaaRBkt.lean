/-
  The walks of the document's own bucket (ostiaryref18): each method answers as the bucket's does.
-/
import Derived.Test.YthjoflhjiaadhaaBktLaws
set_option linter.unusedVariables false
namespace Go.Proofs.Ythjoflhjiaadhaa.RBkt
open Go.RowKit Go.Proofs.Ythjoflhjiaadhaa.Num Go.Proofs.Ythjoflhjiaadhaa.Bkt Go.Proofs.Ythjoflhjiaadhaa.BktLaws

/-- Block B is the document's bucket, of four cells. -/
def RBk (w : World) (B : Nat) (r bu t a : Int) : Prop :=
  w.heap[B]? = some (.cells #[.int .i64 r, .int .i64 bu, .int .i64 t, .int .i64 a] 45 (0, 0))
def RPost (w w' : World) (B : Nat) (r bu t a : Int) : Prop := RBk w' B r bu t a ∧ w.grownBy w' (some B)

theorem rcells {w : World} {B : Nat} {r bu t a : Int} (h : RBk w B r bu t a) :
    w.cell? ⟨B, 0, none⟩ = some (.int .i64 r) ∧ w.cell? ⟨B, 1, none⟩ = some (.int .i64 bu) ∧ w.cell? ⟨B, 2, none⟩ = some (.int .i64 t) ∧ w.cell? ⟨B, 3, none⟩ = some (.int .i64 a) ∧
    w.frozen? ⟨B, 2, none⟩ = false ∧ w.frozen? ⟨B, 3, none⟩ = false :=
  ⟨cell_of_row w B 0 _ _ _ h, cell_of_row w B 1 _ _ _ h, cell_of_row w B 2 _ _ _ h, cell_of_row w B 3 _ _ _ h, frozen_of_row w B 2 _ _ h, frozen_of_row w B 3 _ _ h⟩

set_option maxHeartbeats 1000000 in
theorem rfill_stay (B : Nat) (r bu t a now : Int) (w : World) (hb : RBk w B r bu t a) (h : now < a ∨ 1099511627776 < now) :
    Calls Try.prog 26 #[.pointer (some ⟨B, 0, none⟩), .int .i64 now] w fun e w' => e = .returned (.tuple #[]) ∧ w = w' := by
  obtain ⟨c0, c1, c2, c3, f2, f3⟩ := rcells hb
  rcases (show now < a ∨ (a ≤ now ∧ 1099511627776 < now) by omega) with h1 | ⟨h1, h2⟩
  all_goals
    clear h hb
    go_enter Try.func26, Try.ntmps26
    go_wp2
    exact bodyPost_ret (results_none rfl _ _ _) rfl ⟨rfl, rfl⟩

set_option maxHeartbeats 1000000 in
theorem rfill_go (B : Nat) (r bu t a now : Int) (w : World) (hb : RBk w B r bu t a) (ok : Ok r bu t a) (h1 : a ≤ now) (h2 : now ≤ 1099511627776) :
    Calls Try.prog 26 #[.pointer (some ⟨B, 0, none⟩), .int .i64 now] w fun e w' => e = .returned (.tuple #[]) ∧ ∃ n v, v = fillT r bu t a now ∧ w' = ((w.drewN n).setCell ⟨B, 2, none⟩ (.int .i64 v)).setCell ⟨B, 3, none⟩ (.int .i64 now) := by
  obtain ⟨c0, c1, c2, c3, f2, f3⟩ := rcells hb
  have a0 := ok.a0; have a1 := ok.a1
  have es : subI now a = now - a := by unfold subI; rw [cutI_id (n := now) (by omega) (by omega), cutI_id a0 (by omega), cutI_id (show 0 ≤ now - a by omega) (by omega)]
  have ES := Lib.hid es
  clear hb ok es
  go_enter Try.func26, Try.ntmps26
  go_wp2_with fail
  go_quiet ((go_at_call 28; exact Calls.quiet_of_same ((Ref01.mul_any _ _ _).mono fun _ _ h => ⟨h.1, h.2.symm⟩)))
  go_wp2_with fail
  refine wp_region_still_tail 14 (by kernel_rfl) (by kernel_rfl) ?_
  simp only [List.take_succ_cons, List.take_zero, List.drop_succ_cons, List.drop_zero]
  change wpStill _ _ (w.drewN (nq + 1)) _ _ _
  obtain ⟨W, hW⟩ : ∃ W, W = w.drewN (nq + 1) := ⟨_, rfl⟩
  rw [← hW]
  have d1 : W.cell? ⟨B, 1, none⟩ = some (.int .i64 bu) := by rw [hW]; exact c1
  have d2 : W.cell? ⟨B, 2, none⟩ = some (.int .i64 t) := by rw [hW]; exact c2
  have d3 : W.cell? ⟨B, 3, none⟩ = some (.int .i64 a) := by rw [hW]; exact c3
  have g2 : W.frozen? ⟨B, 2, none⟩ = false := by rw [hW]; exact f2
  have g3 : W.frozen? ⟨B, 3, none⟩ = false := by rw [hW]; exact f3
  have HW := Lib.hid hW
  clear hW c0 c1 c2 c3 f2 f3
  repeat still_step
  still_call ((Ref01.add_any _ _ _).mono fun _ _ h => ⟨h.1, h.2.symm⟩)
  repeat still_step
  refine wpStill_nil ?_
  change wpList _ _ _ _ _ (w.drewN (nq + 1))
  rw [← HW.out]
  go_wp2
  go_end0
  exact ⟨rfl, nq + 1, _, by unfold fillT; rw [if_neg (by omega), ES.out], by rw [← HW.out]⟩

theorem RPost.refl {w : World} {B : Nat} {r bu t a : Int} (h : RBk w B r bu t a) : RPost w w B r bu t a := ⟨h, World.grownBy.refl _ _⟩
theorem RPost.token {w w1 : World} {B : Nat} {r bu t a : Int} (h : RPost w w1 B r bu t a) (u : Int) : RPost w (w1.setCell ⟨B, 2, none⟩ (.int .i64 u)) B r bu u a :=
  ⟨heap_set h.1 2 _, grown_set h.2 2 _⟩
theorem RPost.drewN {w w1 : World} {B : Nat} {r bu t a : Int} (h : RPost w w1 B r bu t a) (n : Nat) : RPost w (w1.drewN n) B r bu t a := ⟨h.1, ⟨h.2.os, h.2.tape, h.2.output, h.2.size, h.2.block⟩⟩

theorem rfill_any (B : Nat) (r bu t a now : Int) (w : World) (hb : RBk w B r bu t a) (ok : Ok r bu t a) :
    Calls Try.prog 26 #[.pointer (some ⟨B, 0, none⟩), .int .i64 now] w fun e w' => e = .returned (.tuple #[]) ∧ RPost w w' B r bu (fillT r bu t a now) (fillA a now) := by
  by_cases h : now < a ∨ 1099511627776 < now
  · refine (rfill_stay B r bu t a now w hb h).mono ?_
    rintro e w' ⟨rfl, rfl⟩
    refine ⟨rfl, ?_⟩
    unfold fillT fillA
    rw [if_pos h, if_pos h]
    exact RPost.refl hb
  · refine (rfill_go B r bu t a now w hb ok (by omega) (by omega)).mono ?_
    rintro e w' ⟨rfl, n, v, rfl, rfl⟩
    refine ⟨rfl, ?_⟩
    have e : fillA a now = now := by unfold fillA; rw [if_neg h]
    rw [e]
    have h1 : RBk (w.drewN n) B r bu t a := hb
    exact ⟨heap_set (heap_set h1 2 _) 3 _, grown_set (grown_set (grown_drewN w n _) 2 _) 3 _⟩

set_option maxHeartbeats 1000000 in
theorem rtake_any (B : Nat) (r bu t a n now : Int) (w : World) (hb : RBk w B r bu t a) (ok : Ok r bu t a) :
    Calls Try.prog 20 #[.pointer (some ⟨B, 0, none⟩), .int .i64 n, .int .i64 now] w fun e w' => e = .returned (.bool (takeB r bu t a n now)) ∧ RPost w w' B r bu (takeT r bu t a n now) (takeA a n now) := by
  by_cases hn : n < 0
  · have e1 : takeB r bu t a n now = false := by unfold takeB; rw [decide_eq_false (by omega)]; rfl
    have e2 : takeT r bu t a n now = t := by unfold takeT; rw [if_pos hn]
    have e3 : takeA a n now = a := by unfold takeA; rw [if_pos hn]
    rw [e1, e2, e3]
    have HB := Lib.hid hb
    clear hb e1 e2 e3
    go_enter Try.func20, Try.ntmps20
    go_wp2_with fail
    go_ret
    exact ⟨rfl, RPost.refl HB.out⟩
  · have okf := ok.fill now
    obtain ⟨T, hT⟩ : ∃ T, T = fillT r bu t a now := ⟨_, rfl⟩
    obtain ⟨A, hA⟩ : ∃ A, A = fillA a now := ⟨_, rfl⟩
    have T0 := okf.t0; have T1 := okf.tb; have T2 := ok.b1
    have n0 : 0 ≤ n := by omega
    rw [← hT] at T0 T1
    have HB := Lib.hid hb; have OK := Lib.hid ok; have HT := Lib.hid hT; have HA := Lib.hid hA
    by_cases ht : T < n
    · have e1 : takeB r bu t a n now = false := by unfold takeB; rw [← hT, decide_eq_false (show ¬ n ≤ T by omega)]; simp
      have e2 : takeT r bu t a n now = T := by unfold takeT; rw [if_neg hn, ← hT, if_pos ht]
      have e3 : takeA a n now = A := by unfold takeA; rw [if_neg hn, ← hA]
      rw [e1, e2, e3]
      clear hb ok okf hT hA e1 e2 e3 hn
      go_enter Try.func20, Try.ntmps20
      go_wp2_with (go_at_call 26; refine (rfill_any B r bu t a now _ HB.out OK.out).mono ?_; rintro e w1 ⟨rfl, hp⟩; rw [← HT.out, ← HA.out] at hp; have c2 := (rcells hp.1).2.2.1; have HP := Lib.hid hp; clear hp)
      go_ret
      exact ⟨rfl, Hid.out (by assumption)⟩
    · have e1 : takeB r bu t a n now = true := by unfold takeB; rw [← hT, decide_eq_true (show 0 ≤ n by omega), decide_eq_true (show n ≤ T by omega)]; rfl
      have e2 : takeT r bu t a n now = T - n := by unfold takeT; rw [if_neg hn, ← hT, if_neg ht]
      have e3 : takeA a n now = A := by unfold takeA; rw [if_neg hn, ← hA]
      have ht' : n ≤ T := by omega
      rw [e1, e2, e3]
      clear hb ok okf hT hA e1 e2 e3 hn ht
      go_enter Try.func20, Try.ntmps20
      go_wp2_with (go_at_call 26; refine (rfill_any B r bu t a now _ HB.out OK.out).mono ?_; rintro e w1 ⟨rfl, hp⟩; rw [← HT.out, ← HA.out] at hp; obtain ⟨_, _, c2, _, f2, _⟩ := rcells hp.1; have HP := Lib.hid hp; clear hp)
      go_ret
      exact ⟨rfl, (Hid.out ‹Hid (RPost w _ B r bu T A)›).token _⟩

set_option maxHeartbeats 1000000 in
theorem rtokens_any (B : Nat) (r bu t a now : Int) (w : World) (hb : RBk w B r bu t a) (ok : Ok r bu t a) :
    Calls Try.prog 18 #[.pointer (some ⟨B, 0, none⟩), .int .i64 now] w fun e w' => e = .returned (.int .i64 (fillT r bu t a now)) ∧ RPost w w' B r bu (fillT r bu t a now) (fillA a now) := by
  have HB := Lib.hid hb; have OK := Lib.hid ok
  clear hb ok
  go_enter Try.func18, Try.ntmps18
  go_wp2_with (go_at_call 26; refine (rfill_any B r bu t a now _ HB.out OK.out).mono ?_; rintro e w1 ⟨rfl, hp⟩; have c2 := (rcells hp.1).2.2.1; have HP := Lib.hid hp; clear hp)
  go_ret
  exact ⟨rfl, Hid.out (by assumption)⟩

/-! ### When, by halves -/
/-- Has the bucket n tokens behind d ticks, as the search asks? -/
theorem ask_half {r bu t n d : Int} (r0 : 0 ≤ r) (r1 : r ≤ 9007199254740992) (t0 : 0 ≤ t) (t1 : t ≤ 9007199254740992) (hn : n ≤ 9007199254740992) (d0 : 0 ≤ d) (d1 : d ≤ 9007199254740992) : n ≤ addI t (mulI r d) ↔ n - t ≤ r * d := by
  have p0 := Int.mul_nonneg r0 d0
  rw [Ref01.mulI_eq, cutI_id r0 r1, cutI_id d0 d1]
  unfold addI
  rw [cutI_id t0 t1, show cutI (cutI (r * d)) = cutI (r * d) from cutI_id (cutI_bd _).1 (cutI_bd _).2]
  generalize r * d = p at *
  unfold cutI
  constructor
  · intro h; revert h; split <;> split <;> (try split) <;> (try split) <;> omega
  · intro h; split <;> split <;> (try split) <;> (try split) <;> omega

/-- What the search has found. -/
theorem half_end {r bu t n lo hi : Int} (r0 : 0 ≤ r) (hn : t < n) (hb : n ≤ bu) (hr : 1 ≤ r) (h : hi = lo + 1) (hlo : r * lo < n - t) (hhi : hi = 1099511627777 ∨ (hi ≤ 1099511627776 ∧ n - t ≤ r * hi)) (lo0 : 0 ≤ lo) :
    whenV r bu t n = if 1099511627776 < hi then -1 else hi := by
  rcases when_ways (bu := bu) r0 hn with ⟨h', _⟩ | ⟨_, d, d1, dl, dh, e⟩
  · omega
  · rw [e]
    have mono : ∀ x y : Int, x ≤ y → r * x ≤ r * y := fun x y hxy => Int.mul_le_mul_of_nonneg_left hxy r0
    by_cases hh : hi = 1099511627777
    · -- nothing up to the greatest time: d is beyond
      have : 1099511627776 < d := by
        refine Int.not_le.1 fun hle => ?_
        have := mono d lo (by omega); omega
      rw [if_pos this, if_pos (by omega)]
    · obtain ⟨h1, h2⟩ := hhi.resolve_left hh
      have a : d ≤ hi := by
        refine Int.not_lt.1 fun hlt => ?_
        have := mono hi (d - 1) (by omega); omega
      have b : hi ≤ d := by
        refine Int.not_lt.1 fun hlt => ?_
        have := mono d lo (by omega); omega
      rw [show d = hi by omega]

set_option maxHeartbeats 4000000 in
theorem rwhen_any (B : Nat) (r bu t a n now : Int) (w : World) (hb : RBk w B r bu t a) (ok : Ok r bu t a) :
    Calls Try.prog 19 #[.pointer (some ⟨B, 0, none⟩), .int .i64 n, .int .i64 now] w fun e w' => e = .returned (.int .i64 (whenV r bu (fillT r bu t a now) n)) ∧ RPost w w' B r bu (fillT r bu t a now) (fillA a now) := by
  have okf := ok.fill now
  obtain ⟨T, hT⟩ : ∃ T, T = fillT r bu t a now := ⟨_, rfl⟩
  obtain ⟨A, hA⟩ : ∃ A, A = fillA a now := ⟨_, rfl⟩
  have T0 := okf.t0; have T1 := okf.tb; have T2 := ok.b1; have r0 := ok.r0; have r1 := ok.r1
  rw [← hT] at T0 T1
  rw [← hT, ← hA]
  have HB := Lib.hid hb; have OK := Lib.hid ok; have HT := Lib.hid hT; have HA := Lib.hid hA
  clear hb ok okf hT hA
  by_cases h1 : n ≤ T
  · have hv : whenV r bu T n = 0 := by unfold whenV; rw [if_pos h1]
    rw [hv]
    clear hv
    go_enter Try.func19, Try.ntmps19
    go_wp2_with (go_at_call 26; refine (rfill_any B r bu t a now _ HB.out OK.out).mono ?_; rintro e w1 ⟨rfl, hp⟩; rw [← HT.out, ← HA.out] at hp; obtain ⟨d0, d1, d2, _, _, _⟩ := rcells hp.1; have HP := Lib.hid hp; clear hp)
    go_ret
    exact ⟨rfl, Hid.out (by assumption)⟩
  · by_cases h2 : bu < n ∨ r = 0
    · have hv : whenV r bu T n = -1 := by unfold whenV; rw [if_neg h1, if_pos h2]
      rw [hv]
      have h3 : bu < n ∨ (n ≤ bu ∧ (r == 0) = true) := by
        rcases h2 with h | h
        · exact .inl h
        · by_cases hh : bu < n
          · exact .inl hh
          · exact .inr ⟨by omega, by rw [beq_iff_eq]; exact h⟩
      clear hv h2
      have h1' : T < n := by omega
      rcases h3 with h3 | ⟨h3, h4⟩
      all_goals
        go_enter Try.func19, Try.ntmps19
        go_wp2_with (go_at_call 26; refine (rfill_any B r bu t a now _ HB.out OK.out).mono ?_; rintro e w1 ⟨rfl, hp⟩; rw [← HT.out, ← HA.out] at hp; obtain ⟨d0, d1, d2, _, _, _⟩ := rcells hp.1; have HP := Lib.hid hp; clear hp)
        go_ret
        exact ⟨rfl, Hid.out (by assumption)⟩
    · have hr : (r == 0) = false := by rw [beq_eq_false_iff_ne]; omega
      have hr1 : 1 ≤ r := by omega
      have h3 : n ≤ bu := by omega
      have h1' : T < n := by omega
      clear h2 h1
      go_enter Try.func19, Try.ntmps19
      go_wp2_with fail
      refine (rfill_any B r bu t a now _ HB.out OK.out).mono ?_
      rintro e w1 ⟨rfl, hp⟩
      rw [← HT.out, ← HA.out] at hp
      obtain ⟨d0, d1, d2, _, _, _⟩ := rcells hp.1
      have HP := Lib.hid hp
      clear hp
      go_wp2_with fail
      go_loopg [7, 8] 1099511627777 (fun g v7 v8 wr => ∃ (lo hi : Int) (m : Nat), v7 = .int .i64 lo ∧ v8 = .int .i64 hi ∧ g = (hi - lo).toNat ∧ lo < hi ∧ 0 ≤ lo ∧ hi ≤ 1099511627777 ∧ r * lo < n - T ∧ (hi = 1099511627777 ∨ (hi ≤ 1099511627776 ∧ n - T ≤ r * hi)) ∧ wr = w1.drewN m)
      case atStart => exact ⟨0, 1099511627777, 0, rfl, rfl, rfl, by omega, by omega, by omega, by rw [Int.mul_zero]; omega, .inl rfl, rfl⟩
      case round =>
        obtain ⟨lo, hi, m, rfl, rfl, hg, lh, l0, h0, hlo, hhi, hwr⟩ := hrel
        have f0 : wr.cell? ⟨B, 0, none⟩ = some (.int .i64 r) := by rw [hwr]; exact d0
        have f2 : wr.cell? ⟨B, 2, none⟩ = some (.int .i64 T) := by rw [hwr]; exact d2
        have HWR := Lib.hid hwr
        clear hwr
        have Hg := Lib.hid hg; have Hlo := Lib.hid hlo; have Hhi := Lib.hid hhi
        clear hg hlo hhi
        by_cases hlt : 1 < hi - lo
        · obtain ⟨mid, hmid⟩ : ∃ mid, mid = (lo + hi) / 2 := ⟨_, rfl⟩
          have m1 : lo < mid := by omega
          have m2 : mid < hi := by omega
          have emid : (lo + hi) / 2 = mid := hmid.symm
          clear hmid
          have hask := ask_half (bu := bu) (n := n) (d := mid) r0 r1 T0 (show T ≤ 9007199254740992 by omega) (by omega) (by omega) (by omega)
          by_cases hyes : n ≤ addI T (mulI r mid)
          · have Hy := Lib.hid (hask.1 hyes)
            clear hask
            have hy2 : decide (n ≤ addI T (mulI r mid)) = true := decide_eq_true hyes
            go_wp2_with fail
            go_quiet (first | (go_at_call 28; exact Calls.quiet_of_same ((Ref01.mul_any _ _ _).mono fun _ _ h => ⟨h.1, h.2.symm⟩)) | (go_at_call 27; exact Calls.quiet_of_same ((Ref01.add_any _ _ _).mono fun _ _ h => ⟨h.1, h.2.symm⟩)))
            go_wp2_with fail
            go_roundg (mid - lo).toNat
            case measure => have := Hg.out; omega
            case rel => exact ⟨lo, mid, _, rfl, (by first | rfl | exact congrArg (Value.int IntKind.i64) emid), rfl, m1, l0, by omega, Hlo.out, .inr ⟨by omega, Hy.out⟩, by rw [HWR.out, World.drewN_drewN]⟩
          · have Hy := Lib.hid (fun h => hyes (hask.2 h))
            clear hask
            have hy2 : decide (n ≤ addI T (mulI r mid)) = false := decide_eq_false hyes
            go_wp2_with fail
            go_quiet (first | (go_at_call 28; exact Calls.quiet_of_same ((Ref01.mul_any _ _ _).mono fun _ _ h => ⟨h.1, h.2.symm⟩)) | (go_at_call 27; exact Calls.quiet_of_same ((Ref01.add_any _ _ _).mono fun _ _ h => ⟨h.1, h.2.symm⟩)))
            go_wp2_with fail
            go_roundg (hi - mid).toNat
            case measure => have := Hg.out; omega
            case rel => exact ⟨mid, hi, _, (by first | rfl | exact congrArg (Value.int IntKind.i64) emid), rfl, rfl, m2, by omega, h0, Int.not_le.1 Hy.out, Hhi.out, by rw [HWR.out, World.drewN_drewN]⟩
        · have hv := half_end (bu := bu) r0 h1' h3 hr1 (show hi = lo + 1 by omega) Hlo.out Hhi.out l0
          have HV := Lib.hid hv
          clear hv
          by_cases hbig : 1099511627776 < hi
          · go_wp2_with fail
            go_ret
            exact ⟨Sat.ret_i64 (by rw [HV.out, if_pos (by omega)]), by rw [HWR.out]; exact HP.out.drewN _⟩
          · go_wp2_with fail
            go_ret
            exact ⟨Sat.ret_i64 (by rw [HV.out, if_neg (by omega)]), by rw [HWR.out]; exact HP.out.drewN _⟩

set_option maxHeartbeats 1000000 in
theorem rnew_bad (rate burst now : Int) (w : World) (h : ¬ (0 ≤ rate ∧ rate ≤ 9007199254740992 ∧ 0 ≤ burst ∧ burst ≤ 9007199254740992 ∧ 0 ≤ now ∧ now ≤ 1099511627776)) :
    Calls Try.prog 16 #[.int .i64 rate, .int .i64 burst, .int .i64 now] w fun e w' => e = .returned (.tuple #[.pointer none, .int .i64 2]) ∧ w = w' := by
  by_cases h1 : cutI rate = rate
  · by_cases h2 : cutI burst = burst
    · have e1 : (rate != cutI rate) = false := by rw [h1]; simp
      have e2 : (burst != cutI burst) = false := by rw [h2]; simp
      have e3 : now < 0 ∨ (0 ≤ now ∧ 1099511627776 < now) := by
        have := cutI_bd rate; have := cutI_bd burst
        omega
      clear h h1 h2
      rcases e3 with e3 | ⟨e3, e4⟩
      all_goals
        go_enter Try.func16, Try.ntmps16
        go_wp2_with (go_at_call 25; refine (Ref01.cut_any _ _).mono ?_; rintro e w' ⟨rfl, rfl⟩)
        go_ret2
        exact ⟨rfl, rfl⟩
    · have e1 : (rate != cutI rate) = false := by rw [h1]; simp
      have e2 : (burst != cutI burst) = true := by rw [bne_iff_ne]; exact fun e => h2 e.symm
      clear h h1 h2
      go_enter Try.func16, Try.ntmps16
      go_wp2_with (go_at_call 25; refine (Ref01.cut_any _ _).mono ?_; rintro e w' ⟨rfl, rfl⟩)
      go_ret2
      exact ⟨rfl, rfl⟩
  · have e1 : (rate != cutI rate) = true := by rw [bne_iff_ne]; exact fun e => h1 e.symm
    clear h h1
    go_enter Try.func16, Try.ntmps16
    go_wp2_with (go_at_call 25; refine (Ref01.cut_any _ _).mono ?_; rintro e w' ⟨rfl, rfl⟩)
    go_ret2
    exact ⟨rfl, rfl⟩

set_option maxHeartbeats 1000000 in
theorem rnew_good (rate burst now : Int) (w : World) (r0 : 0 ≤ rate) (r1 : rate ≤ 9007199254740992) (b0 : 0 ≤ burst) (b1 : burst ≤ 9007199254740992) (n0 : 0 ≤ now) (n1 : now ≤ 1099511627776) :
    Calls Try.prog 16 #[.int .i64 rate, .int .i64 burst, .int .i64 now] w fun e w' =>
      e = .returned (.tuple #[.pointer (some ⟨w.heap.size, 0, none⟩), .int .i64 0]) ∧ w' = w.alloc (.cells #[.int .i64 rate, .int .i64 burst, .int .i64 burst, .int .i64 now] 45) := by
  have e1 : cutI rate = rate := cutI_id r0 r1
  have e2 : cutI burst = burst := cutI_id b0 b1
  go_enter Try.func16, Try.ntmps16
  go_wp2_with (go_at_call 25; refine (Ref01.cut_any _ _).mono ?_; rintro e w' ⟨rfl, rfl⟩; first | rw [e1] | rw [e2])
  go_ret2
  exact ⟨rfl, rfl⟩

end Go.Proofs.Ythjoflhjiaadhaa.RBkt
