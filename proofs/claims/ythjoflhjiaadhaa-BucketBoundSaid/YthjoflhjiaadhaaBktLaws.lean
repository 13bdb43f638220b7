/-
  The walks of the statements about buckets that are closed, or of numbers: awake, BucketKnown, BucketNone, BucketWhen: each returns true; nothing that was there is written.
-/
import Derived.Test.YthjoflhjiaadhaaBkt
set_option linter.unusedVariables false
namespace Go.Proofs.Ythjoflhjiaadhaa.BktLaws
open Go.RowKit Go.Proofs.Ythjoflhjiaadhaa.Num Go.Proofs.Ythjoflhjiaadhaa.Bkt

theorem take_at {B : Nat} {r bu t a n now : Int} {w : World} (b : Bool) (t' a' : Int) (hb : Bk w B r bu t a) (ok : Ok r bu t a) (e1 : takeB r bu t a n now = b) (e2 : takeT r bu t a n now = t') (e3 : takeA a n now = a') :
    Calls Try.prog 10 #[.pointer (some ⟨B, 0, none⟩), .int .i64 n, .int .i64 now] w fun e w' => e = .returned (.bool b) ∧ Post w w' B r bu t' a' ∧ Ok r bu t' a' := by
  subst e1 e2 e3
  exact (take_any B r bu t a n now w hb ok).mono fun e w' h => ⟨h.1, h.2, ok.take n now⟩
theorem tokens_at {B : Nat} {r bu t a now : Int} {w : World} (t' a' : Int) (hb : Bk w B r bu t a) (ok : Ok r bu t a) (e2 : fillT r bu t a now = t') (e3 : fillA a now = a') :
    Calls Try.prog 14 #[.pointer (some ⟨B, 0, none⟩), .int .i64 now] w fun e w' => e = .returned (.int .i64 t') ∧ Post w w' B r bu t' a' ∧ Ok r bu t' a' := by
  subst e2 e3
  exact (tokens_any B r bu t a now w hb ok).mono fun e w' h => ⟨h.1, h.2, ok.fill now⟩
theorem full_at {B : Nat} {r bu t a now : Int} {w : World} (b : Bool) (t' a' : Int) (hb : Bk w B r bu t a) (ok : Ok r bu t a) (e2 : fillT r bu t a now = t') (e3 : fillA a now = a') (e1 : (t' == bu) = b) :
    Calls Try.prog 13 #[.pointer (some ⟨B, 0, none⟩), .int .i64 now] w fun e w' => e = .returned (.bool b) ∧ Post w w' B r bu t' a' ∧ Ok r bu t' a' := by
  subst e1 e2 e3
  exact (full_any B r bu t a now w hb ok).mono fun e w' h => ⟨h.1, h.2, ok.fill now⟩
theorem when_at {B : Nat} {r bu t a n now : Int} {w : World} (d t' a' : Int) (hb : Bk w B r bu t a) (ok : Ok r bu t a) (e2 : fillT r bu t a now = t') (e3 : fillA a now = a') (e1 : whenV r bu t' n = d) :
    Calls Try.prog 15 #[.pointer (some ⟨B, 0, none⟩), .int .i64 n, .int .i64 now] w fun e w' => e = .returned (.int .i64 d) ∧ Post w w' B r bu t' a' ∧ Ok r bu t' a' := by
  subst e1 e2 e3
  exact (when_any B r bu t a n now w hb ok).mono fun e w' h => ⟨h.1, h.2, ok.fill now⟩

/-- A bucket that the call made itself: its block, its counts, and that nothing older is written. -/
structure Own (W w : World) (B : Nat) (r bu t a : Int) : Prop where
  bk : Bk w B r bu t a
  ok : Ok r bu t a
  below : Below W.heap.size W w
  ge : W.heap.size ≤ B

theorem Own.step {W w w' : World} {B : Nat} {r bu t a t' a' : Int} (h : Own W w B r bu t a) (hp : Post w w' B r bu t' a' ∧ Ok r bu t' a') : Own W w' B r bu t' a' :=
  ⟨hp.1.1, hp.2, h.below.grown hp.1.2 h.below.size (by intro k hk; have := h.ge; have e : B = k := (by simpa using hk); omega), h.ge⟩
theorem Own.made {W w : World} {rate burst now : Int} (hW : Below W.heap.size W w) (r0 : 0 ≤ rate) (r1 : rate ≤ 9007199254740992) (b0 : 0 ≤ burst) (b1 : burst ≤ 9007199254740992) (n0 : 0 ≤ now) (n1 : now ≤ 1099511627776) :
    Own W (w.alloc (.cells #[.bool true, .int .i64 rate, .int .i64 burst, .int .i64 burst, .int .i64 now] 50)) w.heap.size rate burst burst now :=
  ⟨new_bk rate burst now w, new_ok r0 r1 b0 b1 n0 n1, hW.alloc hW.size _, hW.size⟩

set_option maxHeartbeats 2000000 in
theorem awake_any (w : World) :
    Calls Try.prog 11 #[] w fun e w' => e = .returned (.bool true) ∧ Below w.heap.size w w' := by
  go_enter Try.func11, Try.ntmps11
  go_wp2_with fail
  refine (new_good 2 5 100 _ (by omega) (by omega) (by omega) (by omega) (by omega) (by omega)).mono ?_
  rintro e w1 ⟨rfl, hw1⟩
  have h1 : Own w w1 w.heap.size 2 5 5 100 := by rw [hw1]; exact Own.made (Below.refl _ w) (by omega) (by omega) (by omega) (by omega) (by omega) (by omega)
  replace h1 := Lib.hid h1
  clear hw1
  go_wp2_with fail
  refine (take_at true 0 100 h1.out.bk h1.out.ok (by decide) (by decide) (by decide)).mono ?_
  rintro e w2 ⟨rfl, hp⟩
  have h2 := Lib.hid (h1.out.step hp)
  clear hp h1
  go_wp2_with fail
  refine (take_at false 0 100 h2.out.bk h2.out.ok (by decide) (by decide) (by decide)).mono ?_
  rintro e w3 ⟨rfl, hp⟩
  have h3 := Lib.hid (h2.out.step hp)
  clear hp h2
  go_wp2_with fail
  refine (take_at true 0 101 h3.out.bk h3.out.ok (by decide) (by decide) (by decide)).mono ?_
  rintro e w4 ⟨rfl, hp⟩
  have h4 := Lib.hid (h3.out.step hp)
  clear hp h3
  go_wp2_with fail
  refine (take_at false 0 101 h4.out.bk h4.out.ok (by decide) (by decide) (by decide)).mono ?_
  rintro e w5 ⟨rfl, hp⟩
  have h5 := Lib.hid (h4.out.step hp)
  clear hp h4
  go_wp2_with fail
  refine (tokens_at 4 103 h5.out.bk h5.out.ok (by decide) (by decide)).mono ?_
  rintro e w6 ⟨rfl, hp⟩
  have h6 := Lib.hid (h5.out.step hp)
  clear hp h5
  go_wp2_with fail
  go_ret
  exact ⟨rfl, h6.out.below⟩

theorem Own.kept {W w w' : World} {B : Nat} {r bu t a : Int} (h : Own W w B r bu t a) (hb : Below w.heap.size w w') : Own W w' B r bu t a :=
  ⟨by have := h.bk; unfold Bk at this ⊢; rw [hb.block B (lt_of_block this)]; exact this, h.ok, h.below.trans (hb.mono h.below.size), h.ge⟩

set_option maxHeartbeats 4000000 in
theorem bucketKnown_walk (w : World) :
    Calls Try.prog 8 #[] w fun e w' => e = .returned (.bool true) ∧ Below w.heap.size w w' := by
  go_enter Try.func8, Try.ntmps8
  go_wp2_with fail
  refine (new_good 2 5 100 _ (by omega) (by omega) (by omega) (by omega) (by omega) (by omega)).mono ?_
  rintro e w1 ⟨rfl, hw1⟩
  have h1 : Own w w1 w.heap.size 2 5 5 100 := by rw [hw1]; exact Own.made (Below.refl _ w) (by omega) (by omega) (by omega) (by omega) (by omega) (by omega)
  replace h1 := Lib.hid h1
  clear hw1
  go_wp2_with fail
  refine (new_bad (-1) 5 0 _ (by omega)).mono ?_
  rintro e w' ⟨rfl, rfl⟩
  go_wp2_with fail
  refine (new_bad 1 1 (-1) _ (by omega)).mono ?_
  rintro e w' ⟨rfl, rfl⟩
  go_wp2_with fail
  refine (take_at true 0 100 h1.out.bk h1.out.ok (by decide) (by decide) (by decide)).mono ?_
  rintro e w2 ⟨rfl, hp⟩
  have h2 := Lib.hid (h1.out.step hp)
  clear hp h1
  go_wp2_with fail
  refine (tokens_at 4 102 h2.out.bk h2.out.ok (by decide) (by decide)).mono ?_
  rintro e w3 ⟨rfl, hp⟩
  have h3 := Lib.hid (h2.out.step hp)
  clear hp h2
  go_wp2_with fail
  refine (tokens_at 4 102 h3.out.bk h3.out.ok (by decide) (by decide)).mono ?_
  rintro e w4 ⟨rfl, hp⟩
  have h4 := Lib.hid (h3.out.step hp)
  clear hp h3
  go_wp2_with fail
  refine (awake_any _).mono ?_
  rintro e w5 ⟨rfl, hb⟩
  have h5 := Lib.hid (h4.out.kept hb)
  clear hb h4
  go_wp2_with fail
  refine (full_at true 5 104 h5.out.bk h5.out.ok (by decide) (by decide) (by decide)).mono ?_
  rintro e w6 ⟨rfl, hp⟩
  have h6 := Lib.hid (h5.out.step hp)
  clear hp h5
  go_wp2_with fail
  refine (full_at true 5 104 h6.out.bk h6.out.ok (by decide) (by decide) (by decide)).mono ?_
  rintro e w7 ⟨rfl, hp⟩
  have h7 := Lib.hid (h6.out.step hp)
  clear hp h6
  go_wp2_with fail
  refine (take_at true 0 104 h7.out.bk h7.out.ok (by decide) (by decide) (by decide)).mono ?_
  rintro e w8 ⟨rfl, hp⟩
  have h8 := Lib.hid (h7.out.step hp)
  clear hp h7
  go_wp2_with fail
  refine (when_at 2 0 104 h8.out.bk h8.out.ok (by decide) (by decide) (by decide)).mono ?_
  rintro e w9 ⟨rfl, hp⟩
  have h9 := Lib.hid (h8.out.step hp)
  clear hp h8
  go_wp2_with fail
  refine (when_at (-1) 0 104 h9.out.bk h9.out.ok (by decide) (by decide) (by decide)).mono ?_
  rintro e w10 ⟨rfl, hp⟩
  have h10 := Lib.hid (h9.out.step hp)
  clear hp h9
  go_wp2_with fail
  refine (when_at 0 0 104 h10.out.bk h10.out.ok (by decide) (by decide) (by decide)).mono ?_
  rintro e w11 ⟨rfl, hp⟩
  have h11 := Lib.hid (h10.out.step hp)
  clear hp h10
  go_wp2_with fail
  refine (take_at false 0 104 h11.out.bk h11.out.ok (by decide) (by decide) (by decide)).mono ?_
  rintro e w12 ⟨rfl, hp⟩
  have h12 := Lib.hid (h11.out.step hp)
  clear hp h11
  go_wp2_with fail
  go_ret
  exact ⟨rfl, h12.out.below⟩

/-! ### BucketWhen: the plain law -/
/-- So many ticks behind its time, a bucket that has t tokens. -/
theorem fill_later {r bu t a d : Int} (ok : Ok r bu t a) (d0 : 0 ≤ d) (hd : a + d ≤ 1099511627776) (hp : r * d ≤ 9007199254740992) : fillT r bu t a (a + d) = min (addI t (r * d)) bu := by
  have p0 := Int.mul_nonneg ok.r0 d0
  have a0 := ok.a0; have a1 := ok.a1
  have e1 : subI (a + d) a = d := by unfold subI; rw [cutI_id (n := a + d) (by omega) (by omega), cutI_id a0 (by omega), show a + d - a = d by omega, cutI_id d0 (by omega)]
  have e2 : mulI r d = r * d := by rw [Ref01.mulI_eq, cutI_id ok.r0 ok.r1, cutI_id d0 (by omega), cutI_id p0 hp]
  unfold fillT
  rw [if_neg (by omega), e1, e2]
theorem fill_now {r bu t a : Int} (ok : Ok r bu t a) : fillT r bu t a a = t := by
  have h := fill_later ok (Int.le_refl 0) (by have := ok.a1; omega) (by rw [Int.mul_zero]; omega)
  rw [Int.add_zero, Int.mul_zero] at h
  have := ok.tb; have := ok.t0; have := ok.b1
  rw [h]; unfold addI; rw [cutI_id ok.t0 (by omega), show cutI 0 = 0 by decide, Int.add_zero, cutI_id ok.t0 (by omega)]; omega

/-- When, taken apart. -/
theorem when_ways {r bu t n : Int} (r0 : 0 ≤ r) (hn : t < n) : (bu < n ∨ r = 0) ∧ whenV r bu t n = -1 ∨
    (n ≤ bu ∧ 1 ≤ r) ∧ ∃ d, 1 ≤ d ∧ r * (d - 1) < n - t ∧ n - t ≤ r * d ∧ whenV r bu t n = if 1099511627776 < d then -1 else d := by
  by_cases h2 : bu < n ∨ r = 0
  · exact .inl ⟨h2, by unfold whenV; rw [if_neg (by omega), if_pos h2]⟩
  · refine .inr ⟨by omega, (n - t) / r + (if (n - t) % r = 0 then 0 else 1), ?_⟩
    have e := Int.mul_ediv_add_emod (n - t) r
    have m0 := Int.emod_nonneg (n - t) (show r ≠ 0 by omega)
    have m1 := Int.emod_lt_of_pos (n - t) (show 0 < r by omega)
    have q0 := Int.ediv_nonneg (show 0 ≤ n - t by omega) (show 0 ≤ r by omega)
    refine ⟨?_, ?_, ?_, by unfold whenV; rw [if_neg (show ¬ n ≤ t by omega), if_neg h2]⟩
    · split
      · next h =>
        rw [h] at e
        refine Int.not_lt.1 fun hlt => ?_
        rw [show (n - t) / r = 0 by omega, Int.mul_zero] at e
        omega
      · omega
    · split
      · rw [Int.add_zero, Int.mul_sub, Int.mul_one]; omega
      · rw [show (n - t) / r + 1 - 1 = (n - t) / r by omega]; omega
    · split
      · rw [Int.add_zero]; omega
      · rw [Int.mul_add, Int.mul_one]; omega

end Go.Proofs.Ythjoflhjiaadhaa.BktLaws
