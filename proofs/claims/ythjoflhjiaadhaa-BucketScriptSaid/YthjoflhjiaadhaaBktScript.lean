/-
  The walk of BucketScript: a bucket answers any calls, one behind the other, as the document's does.
-/
import Derived.Test.YthjoflhjiaadhaaRBkt
import Derived.Test.YthjoflhjiaadhaaTab
import Derived.Deep.RegionHeld3
import Derived.Deep.AppendLies
import Derived.Deep.DeepCutAuto
import Derived.Deep.CutBlock
import Derived.Deep.LoopGhost
set_option linter.unusedVariables false
namespace Go.Proofs.Ythjoflhjiaadhaa.BktScript
open Go.RowKit Go.Proofs.Ythjoflhjiaadhaa.Num Go.Proofs.Ythjoflhjiaadhaa.Bkt Go.Proofs.Ythjoflhjiaadhaa.BktLaws Go.Proofs.Ythjoflhjiaadhaa.RBkt Go.Proofs.Ythjoflhjiaadhaa.Tab

theorem pick5 (x : Int) (w : World) (h0 : -9223372036854775808 ≤ x) (h1 : x ≤ 9223372036854775807) :
    Calls Try.prog 17 #[.int .i64 x, .int .i64 5] w fun e w' => e = .returned (.int .i64 (x % 5)) ∧ w = w' := by
  by_cases hx : 0 ≤ x
  · have q0 := Int.emod_nonneg x (show (5 : Int) ≠ 0 by omega)
    go_enter Try.func17, Try.ntmps17
    go_wp2
    go_ret
    exact ⟨rfl, rfl⟩
  · have e : x.tmod 5 = if x % 5 = 0 then 0 else x % 5 - 5 := by
      obtain ⟨y, rfl⟩ : ∃ y, x = -y := ⟨-x, by omega⟩
      rw [Int.neg_tmod, Int.tmod_eq_emod_of_nonneg (by omega)]
      split <;> omega
    obtain ⟨m, hm⟩ : ∃ m, x.tmod 5 = m := ⟨_, rfl⟩
    rw [hm] at e
    by_cases hm0 : m < 0
    · have hfin : m + 5 = x % 5 := by split at e <;> omega
      have m1 : -5 < m := by split at e <;> omega
      have HF := Lib.hid hfin
      clear e hfin
      go_enter Try.func17, Try.ntmps17
      go_wp2
      go_ret
      exact ⟨Sat.ret_i64 HF.out, rfl⟩
    · have hfin : m = x % 5 := by split at e <;> omega
      have m1 : m < 5 := by omega
      have HF := Lib.hid hfin
      clear e hfin
      go_enter Try.func17, Try.ntmps17
      go_wp2
      go_ret
      exact ⟨Sat.ret_i64 HF.out, rfl⟩

/-- The two buckets, and the call's own copy of what is asked. -/
structure Sc (W w : World) (B B2 X : Nat) (r bu t a t' a' n nw : Int) : Prop where
  own : Own W w B r bu t a
  ref : RBk w B2 r bu t' a'
  ok : Ok r bu t' a'
  ne : B ≠ B2
  ge : W.heap.size ≤ B2
  c1 : w.cell? ⟨X, 1, none⟩ = some (.int .i64 n)
  c2 : w.cell? ⟨X, 2, none⟩ = some (.int .i64 nw)
  x1 : X ≠ B
  x2 : X ≠ B2

theorem cell_kept {w w' : World} {row : Option Nat} (hg : w.grownBy w' row) {X i : Nat} {v : Value} (h : w.cell? ⟨X, i, none⟩ = some v) (hne : some X ≠ row) : w'.cell? ⟨X, i, none⟩ = some v := hg.cell h hne

theorem Sc.stepB {W w w' : World} {B B2 X : Nat} {r bu t a t' a' n nw t2 a2 : Int} (h : Sc W w B B2 X r bu t a t' a' n nw) (hp : Post w w' B r bu t2 a2) (ok2 : Ok r bu t2 a2) : Sc W w' B B2 X r bu t2 a2 t' a' n nw :=
  ⟨h.own.step ⟨hp, ok2⟩, by have k := h.ref; unfold RBk at k ⊢; rw [hp.2.block B2 (lt_of_block k) (by simpa using fun e => h.ne e.symm)]; exact k, h.ok, h.ne, h.ge,
    cell_kept hp.2 h.c1 (by simpa using h.x1), cell_kept hp.2 h.c2 (by simpa using h.x1), h.x1, h.x2⟩
theorem Sc.stepR {W w w' : World} {B B2 X : Nat} {r bu t a t' a' n nw t2 a2 : Int} (h : Sc W w B B2 X r bu t a t' a' n nw) (hp : RPost w w' B2 r bu t2 a2) (ok2 : Ok r bu t2 a2) : Sc W w' B B2 X r bu t a t2 a2 n nw :=
  ⟨⟨by have k := h.own.bk; unfold Bk at k ⊢; rw [hp.2.block B (lt_of_block k) (by simpa using fun e => h.ne e)]; exact k, h.own.ok, h.own.below.grown hp.2 h.own.below.size (by intro k hk; have e : B2 = k := (by simpa using hk); have := h.ge; omega), h.own.ge⟩,
    hp.1, ok2, h.ne, h.ge, cell_kept hp.2 h.c1 (by simpa using h.x2), cell_kept hp.2 h.c2 (by simpa using h.x2), h.x1, h.x2⟩
theorem Sc.drew {W w : World} {B B2 X : Nat} {r bu t a t' a' n nw : Int} (h : Sc W w B B2 X r bu t a t' a' n nw) : Sc W w.drew B B2 X r bu t a t' a' n nw :=
  ⟨⟨h.own.bk, h.own.ok, h.own.below.drew, h.own.ge⟩, h.ref, h.ok, h.ne, h.ge, h.c1, h.c2, h.x1, h.x2⟩

section
variable {W w : World} {B B2 X : Nat} {r bu t a t' a' n nw : Int} (h : Sc W w B B2 X r bu t a t' a' n nw)
include h
theorem sc_take : Calls Try.prog 10 #[.pointer (some ⟨B, 0, none⟩), .int .i64 n, .int .i64 nw] w fun e w' => e = .returned (.bool (takeB r bu t a n nw)) ∧ Sc W w' B B2 X r bu (takeT r bu t a n nw) (takeA a n nw) t' a' n nw :=
  (take_any B r bu t a n nw w h.own.bk h.own.ok).mono fun e w' k => ⟨k.1, h.stepB k.2 (h.own.ok.take n nw)⟩
theorem sc_rtake : Calls Try.prog 20 #[.pointer (some ⟨B2, 0, none⟩), .int .i64 n, .int .i64 nw] w fun e w' => e = .returned (.bool (takeB r bu t' a' n nw)) ∧ Sc W w' B B2 X r bu t a (takeT r bu t' a' n nw) (takeA a' n nw) n nw :=
  (rtake_any B2 r bu t' a' n nw w h.ref h.ok).mono fun e w' k => ⟨k.1, h.stepR k.2 (h.ok.take n nw)⟩
theorem sc_tokens : Calls Try.prog 14 #[.pointer (some ⟨B, 0, none⟩), .int .i64 nw] w fun e w' => e = .returned (.int .i64 (fillT r bu t a nw)) ∧ Sc W w' B B2 X r bu (fillT r bu t a nw) (fillA a nw) t' a' n nw :=
  (tokens_any B r bu t a nw w h.own.bk h.own.ok).mono fun e w' k => ⟨k.1, h.stepB k.2 (h.own.ok.fill nw)⟩
theorem sc_rtokens : Calls Try.prog 18 #[.pointer (some ⟨B2, 0, none⟩), .int .i64 nw] w fun e w' => e = .returned (.int .i64 (fillT r bu t' a' nw)) ∧ Sc W w' B B2 X r bu t a (fillT r bu t' a' nw) (fillA a' nw) n nw :=
  (rtokens_any B2 r bu t' a' nw w h.ref h.ok).mono fun e w' k => ⟨k.1, h.stepR k.2 (h.ok.fill nw)⟩
theorem sc_full : Calls Try.prog 13 #[.pointer (some ⟨B, 0, none⟩), .int .i64 nw] w fun e w' => e = .returned (.bool (fillT r bu t a nw == bu)) ∧ Sc W w' B B2 X r bu (fillT r bu t a nw) (fillA a nw) t' a' n nw :=
  (full_any B r bu t a nw w h.own.bk h.own.ok).mono fun e w' k => ⟨k.1, h.stepB k.2 (h.own.ok.fill nw)⟩
theorem sc_when : Calls Try.prog 15 #[.pointer (some ⟨B, 0, none⟩), .int .i64 n, .int .i64 nw] w fun e w' => e = .returned (.int .i64 (whenV r bu (fillT r bu t a nw) n)) ∧ Sc W w' B B2 X r bu (fillT r bu t a nw) (fillA a nw) t' a' n nw :=
  (when_any B r bu t a n nw w h.own.bk h.own.ok).mono fun e w' k => ⟨k.1, h.stepB k.2 (h.own.ok.fill nw)⟩
theorem sc_rwhen : Calls Try.prog 19 #[.pointer (some ⟨B2, 0, none⟩), .int .i64 n, .int .i64 nw] w fun e w' => e = .returned (.int .i64 (whenV r bu (fillT r bu t' a' nw) n)) ∧ Sc W w' B B2 X r bu t a (fillT r bu t' a' nw) (fillA a' nw) n nw :=
  (rwhen_any B2 r bu t' a' n nw w h.ref h.ok).mono fun e w' k => ⟨k.1, h.stepR k.2 (h.ok.fill nw)⟩
end

/-- The two buckets between two rounds. -/
structure Pr (W w : World) (B B2 : Nat) (r bu t a : Int) : Prop where
  own : Own W w B r bu t a
  ref : RBk w B2 r bu t a
  ne : B ≠ B2
  ge : W.heap.size ≤ B2
theorem Sc.pair {W w : World} {B B2 X : Nat} {r bu t a n nw : Int} (h : Sc W w B B2 X r bu t a t a n nw) : Pr W w B B2 r bu t a := ⟨h.own, h.ref, h.ne, h.ge⟩
theorem Pr.begin {W w : World} {B B2 : Nat} {r bu t a kind n nw : Int} (h : Pr W w B B2 r bu t a) :
    Sc W (w.alloc (.cells #[.int .i64 kind, .int .i64 n, .int .i64 nw] 43)) B B2 w.heap.size r bu t a t a n nw := by
  have hb := lt_of_block h.own.bk
  have hb2 := lt_of_block h.ref
  refine ⟨h.own.kept ((Below.refl _ _).alloc (Nat.le_refl _) _), ?_, h.own.ok, h.ne, h.ge, ?_, ?_, by omega, by omega⟩
  · have k := h.ref
    unfold RBk at k ⊢
    rw [Below.heap_alloc _ _ _ hb2]; exact k
  · exact cell_of_row _ _ 1 _ _ _ (heap_alloc_new w _)
  · exact cell_of_row _ _ 2 _ _ _ (heap_alloc_new w _)

theorem old_cell {W w : World} (hb : Below W.heap.size W w) {p : Addr} {v : Value} (hp : W.cell? p = some v) : w.cell? p = some v :=
  (hb.cell (World.block_lt_of_cell? W p hp)).trans hp

theorem act_at {W : World} {a : Option Addr} {len : Nat} (h : IsTab W a len 3) (hl : 0 < len) : ∃ b off, a = some ⟨b, off, none⟩ ∧ len ≤ maxLen ∧
    ∀ i, i < len → ∃ k n m : Int, W.cell? ⟨b, off + i * 3, none⟩ = some (.int .i64 k) ∧ W.cell? ⟨b, off + i * 3 + 1, none⟩ = some (.int .i64 n) ∧ W.cell? ⟨b, off + i * 3 + 2, none⟩ = some (.int .i64 m) ∧
      -9223372036854775808 ≤ k ∧ k ≤ 9223372036854775807 ∧ -9223372036854775808 ≤ n ∧ n ≤ 9223372036854775807 ∧ -9223372036854775808 ≤ m ∧ m ≤ 9223372036854775807 := by
  rcases h with ⟨_, h⟩ | h | ⟨b, off, ha, _, hm, hc⟩
  · omega
  · omega
  · refine ⟨b, off, ha, hm, fun i hi => ?_⟩
    have h0 := hc i hi 0 (by omega)
    have h1 := hc i hi 1 (by omega)
    have h2 := hc i hi 2 (by omega)
    exact ⟨_, _, _, h0.1, h1.1, h2.1, h0.2.1, h0.2.2, h1.2.1, h1.2.2, h2.2.1, h2.2.2⟩

set_option maxHeartbeats 16000000 in
set_option maxRecDepth 100000 in
theorem script_good (rate burst now : Int) (a3 : Option Addr) (len3 cap3 : Nat) (w : World) (r0 : 0 ≤ rate) (r1 : rate ≤ 9007199254740992) (b0 : 0 ≤ burst) (b1 : burst ≤ 9007199254740992) (n0 : 0 ≤ now) (n1 : now ≤ 1099511627776)
    (h3 : IsTab w a3 len3 3) (l3 : len3 ≤ 200) :
    Calls Try.prog 6 #[.int .i64 rate, .int .i64 burst, .int .i64 now, .slice a3 len3 cap3] w fun e w' => e = .returned (.bool true) ∧ Below w.heap.size w w' := by
  have H3 := Lib.hid h3
  clear h3
  go_enter Try.func6, Try.ntmps6
  go_wp2_with fail
  refine (new_good rate burst now _ r0 r1 b0 b1 n0 n1).mono ?_
  rintro e w1 ⟨rfl, hw1⟩
  have h1 : Own w w1 w.heap.size rate burst burst now := by rw [hw1]; exact Own.made (Below.refl _ w) r0 r1 b0 b1 n0 n1
  obtain ⟨B, hB⟩ : ∃ B, B = w.heap.size := ⟨_, rfl⟩
  rw [← hB] at h1
  rw [← hB]
  replace h1 := Lib.hid h1
  clear hw1 hB
  go_wp2_with fail
  refine (rnew_good rate burst now _ r0 r1 b0 b1 n0 n1).mono ?_
  rintro e w2 ⟨rfl, hw2⟩
  have h2 : Pr w w2 B w1.heap.size rate burst burst now := by
    rw [hw2]
    have hlt := lt_of_block h1.out.bk
    exact ⟨h1.out.kept ((Below.refl _ _).alloc (Nat.le_refl _) _), heap_alloc_new w1 _, by omega, h1.out.below.size⟩
  obtain ⟨B2, hB2⟩ : ∃ B2, B2 = w1.heap.size := ⟨_, rfl⟩
  rw [← hB2] at h2
  rw [← hB2]
  replace h2 := Lib.hid h2
  clear hw2 hB2 h1
  go_wp2_with fail
  go_loopg [13] len3 (fun g v13 wr => ∃ (k : Nat) (t a : Int), k ≤ len3 ∧ g = len3 - k ∧ v13 = .int .i64 k ∧ Pr w wr B B2 rate burst t a)
  case atStart => exact ⟨0, burst, now, Nat.zero_le _, rfl, rfl, h2.out⟩
  case round =>
    clear h2
    obtain ⟨k, t, a, hk, hg, rfl, ho⟩ := hrel
    have Hg := Lib.hid hg
    clear hg
    by_cases hlt : k < len3
    · obtain ⟨b, off, rfl, hm, hc⟩ := act_at H3.out (by omega)
      obtain ⟨kind, n, nw, c0, c1, c2, k0, k1, nn0, nn1, w0, w1'⟩ := hc k hlt
      have d0 := old_cell ho.own.below c0
      have d1 := old_cell ho.own.below c1
      have d2 := old_cell ho.own.below c2
      have HO := Lib.hid ho
      have HS := Lib.hid (ho.begin (kind := kind) (n := n) (nw := nw))
      clear ho c0 c1 c2 hc
      have p0 := Int.emod_nonneg kind (show (5 : Int) ≠ 0 by omega)
      have p1 := Int.emod_lt_of_pos kind (show (0 : Int) < 5 by omega)
      obtain ⟨p, hp⟩ : ∃ p, kind % 5 = p := ⟨_, rfl⟩
      rw [hp] at p0 p1
      have HP := Lib.hid hp
      clear hp
      go_wp2_with fail
      refine (pick5 kind _ k0 k1).mono ?_
      rintro e w' ⟨rfl, rfl⟩
      rw [HP.out]
      generalize wr.alloc (.cells #[.int .i64 kind, .int .i64 n, .int .i64 nw] 43) = wa at *
      generalize wr.heap.size = X at *
      clear d0 d1 d2
      by_cases q2 : p = 2
      · have e2 : (p == 2) = true := beq_iff_eq.2 q2
        clear q2
        go_upto_region 19 with (fail)
        have HSd := Lib.hid HS.out.drew
        go_region_held3 (fun w' => w'.cell? ⟨X, 1, none⟩ = some (.int .i64 n) ∧ w'.cell? ⟨X, 2, none⟩ = some (.int .i64 nw)) (first | exact ⟨(Hid.out HSd).c1, (Hid.out HSd).c2⟩ | exact ⟨(Hid.out ‹Hid (Sc w _ B B2 X rate burst _ _ _ _ n nw)›).c1, (Hid.out ‹Hid (Sc w _ B B2 X rate burst _ _ _ _ n nw)›).c2⟩)
          (first
            | (go_at_call 14; (with_reducible refine (sc_tokens (Hid.out ‹Hid (Sc w _ B B2 X rate burst t a t a n nw)›)).mono ?_); rintro e w5 ⟨rfl, h_w5⟩; have H_w5 := Lib.hid h_w5; clear h_w5)
            | (go_at_call 18; (with_reducible refine (sc_rtokens (Hid.out ‹Hid (Sc w _ B B2 X rate burst (fillT rate burst t a nw) (fillA a nw) t a n nw)›)).mono ?_); rintro e w6 ⟨rfl, h_w6⟩; have H_w6 := Lib.hid h_w6; clear h_w6))
        all_goals
          go_wp2_with fail
          go_roundg (len3 - (k + 1))
          case measure => have := Hg.out; omega
          case rel => exact ⟨k + 1, _, _, by omega, rfl, by go_num, (Hid.out ‹Hid (Sc w _ B B2 X rate burst (fillT rate burst t a nw) (fillA a nw) (fillT rate burst t a nw) (fillA a nw) n nw)›).pair⟩
      · have e2 : (p == 2) = false := beq_eq_false_iff_ne.2 q2
        by_cases q3 : p = 3
        · have e3 : (p == 3) = true := beq_iff_eq.2 q3
          clear q3
          go_upto_region 21 with (fail)
          have HSd := Lib.hid HS.out.drew
          go_region_held3 (fun w' => w'.cell? ⟨X, 1, none⟩ = some (.int .i64 n) ∧ w'.cell? ⟨X, 2, none⟩ = some (.int .i64 nw) ∧ w'.cell? ⟨B2, 1, none⟩ = some (.int .i64 burst)) (first | exact ⟨(Hid.out HSd).c1, (Hid.out HSd).c2, (rcells (Hid.out HSd).ref).2.1⟩ | exact ⟨(Hid.out ‹Hid (Sc w _ B B2 X rate burst _ _ _ _ n nw)›).c1, (Hid.out ‹Hid (Sc w _ B B2 X rate burst _ _ _ _ n nw)›).c2, (rcells (Hid.out ‹Hid (Sc w _ B B2 X rate burst _ _ _ _ n nw)›).ref).2.1⟩)
            (first
              | (go_at_call 13; (with_reducible refine (sc_full (Hid.out ‹Hid (Sc w _ B B2 X rate burst t a t a n nw)›)).mono ?_); rintro e w5 ⟨rfl, h_w5⟩; have H_w5 := Lib.hid h_w5; clear h_w5)
              | (go_at_call 18; (with_reducible refine (sc_rtokens (Hid.out ‹Hid (Sc w _ B B2 X rate burst (fillT rate burst t a nw) (fillA a nw) t a n nw)›)).mono ?_); rintro e w6 ⟨rfl, h_w6⟩; have H_w6 := Lib.hid h_w6; clear h_w6))
          all_goals
            go_wp2_with fail
            go_roundg (len3 - (k + 1))
            case measure => have := Hg.out; omega
            case rel => exact ⟨k + 1, _, _, by omega, rfl, by go_num, (Hid.out ‹Hid (Sc w _ B B2 X rate burst (fillT rate burst t a nw) (fillA a nw) (fillT rate burst t a nw) (fillA a nw) n nw)›).pair⟩
        · have e3 : (p == 3) = false := beq_eq_false_iff_ne.2 q3
          by_cases q4 : p = 4
          · have e4 : (p == 4) = true := beq_iff_eq.2 q4
            clear q4
            go_upto_region 23 with (fail)
            have HSd := Lib.hid HS.out.drew
            go_region_held3 (fun w' => w'.cell? ⟨X, 1, none⟩ = some (.int .i64 n) ∧ w'.cell? ⟨X, 2, none⟩ = some (.int .i64 nw)) (first | exact ⟨(Hid.out HSd).c1, (Hid.out HSd).c2⟩ | exact ⟨(Hid.out ‹Hid (Sc w _ B B2 X rate burst _ _ _ _ n nw)›).c1, (Hid.out ‹Hid (Sc w _ B B2 X rate burst _ _ _ _ n nw)›).c2⟩)
              (first
                | (go_at_call 15; (with_reducible refine (sc_when (Hid.out ‹Hid (Sc w _ B B2 X rate burst t a t a n nw)›)).mono ?_); rintro e w5 ⟨rfl, h_w5⟩; have H_w5 := Lib.hid h_w5; clear h_w5)
                | (go_at_call 19; (with_reducible refine (sc_rwhen (Hid.out ‹Hid (Sc w _ B B2 X rate burst (fillT rate burst t a nw) (fillA a nw) t a n nw)›)).mono ?_); rintro e w6 ⟨rfl, h_w6⟩; have H_w6 := Lib.hid h_w6; clear h_w6))
            all_goals
              go_wp2_with fail
              go_roundg (len3 - (k + 1))
              case measure => have := Hg.out; omega
              case rel => exact ⟨k + 1, _, _, by omega, rfl, by go_num, (Hid.out ‹Hid (Sc w _ B B2 X rate burst (fillT rate burst t a nw) (fillA a nw) (fillT rate burst t a nw) (fillA a nw) n nw)›).pair⟩
          · have e4 : (p == 4) = false := beq_eq_false_iff_ne.2 q4
            clear q2 q3 q4
            go_upto_region 17 with (fail)
            have HSd := Lib.hid HS.out.drew
            go_region_held3 (fun w' => w'.cell? ⟨X, 1, none⟩ = some (.int .i64 n) ∧ w'.cell? ⟨X, 2, none⟩ = some (.int .i64 nw)) (first | exact ⟨(Hid.out HSd).c1, (Hid.out HSd).c2⟩ | exact ⟨(Hid.out ‹Hid (Sc w _ B B2 X rate burst _ _ _ _ n nw)›).c1, (Hid.out ‹Hid (Sc w _ B B2 X rate burst _ _ _ _ n nw)›).c2⟩)
              (first
                | (go_at_call 10; (with_reducible refine (sc_take (Hid.out ‹Hid (Sc w _ B B2 X rate burst t a t a n nw)›)).mono ?_); rintro e w5 ⟨rfl, h_w5⟩; have H_w5 := Lib.hid h_w5; clear h_w5)
                | (go_at_call 20; (with_reducible refine (sc_rtake (Hid.out ‹Hid (Sc w _ B B2 X rate burst (takeT rate burst t a n nw) (takeA a n nw) t a n nw)›)).mono ?_); rintro e w6 ⟨rfl, h_w6⟩; have H_w6 := Lib.hid h_w6; clear h_w6))
            all_goals
              go_wp2_with fail
              go_roundg (len3 - (k + 1))
              case measure => have := Hg.out; omega
              case rel => exact ⟨k + 1, _, _, by omega, rfl, by go_num, (Hid.out ‹Hid (Sc w _ B B2 X rate burst (takeT rate burst t a n nw) (takeA a n nw) (takeT rate burst t a n nw) (takeA a n nw) n nw)›).pair⟩
    · go_wp2_with fail
      refine (awake_any _).mono ?_
      rintro e w4 ⟨rfl, hb⟩
      have hb2 := ho.own.below.trans (hb.mono ho.own.below.size)
      have HB := Lib.hid hb2
      clear hb hb2 ho
      go_wp2_with fail
      go_ret
      exact ⟨rfl, HB.out⟩

set_option maxHeartbeats 2000000 in
set_option maxRecDepth 100000 in
theorem bucketScript_walk (rate burst now : Int) (a3 : Option Addr) (len3 cap3 : Nat) (w : World) (h3 : IsTab w a3 len3 3) :
    Calls Try.prog 6 #[.int .i64 rate, .int .i64 burst, .int .i64 now, .slice a3 len3 cap3] w fun e w' => e = .returned (.bool true) ∧ Below w.heap.size w w' := by
  by_cases hl : len3 ≤ 200
  · by_cases hg : 0 ≤ rate ∧ rate ≤ 9007199254740992 ∧ 0 ≤ burst ∧ burst ≤ 9007199254740992 ∧ 0 ≤ now ∧ now ≤ 1099511627776
    · obtain ⟨r0, r1, b0, b1, n0, n1⟩ := hg
      exact script_good rate burst now a3 len3 cap3 w r0 r1 b0 b1 n0 n1 h3 hl
    · clear h3
      go_enter Try.func6, Try.ntmps6
      go_wp2_with fail
      refine (new_bad rate burst now _ hg).mono ?_
      rintro e w' ⟨rfl, rfl⟩
      go_wp2_with fail
      refine (rnew_bad rate burst now _ hg).mono ?_
      rintro e w' ⟨rfl, rfl⟩
      go_wp2_with fail
      refine (awake_any _).mono ?_
      rintro e w1 ⟨rfl, hb⟩
      replace hb := Lib.hid hb
      go_wp2_with fail
      go_ret
      exact ⟨rfl, hb.out⟩
  · have h : (200 : Int) < (len3 : Int) := by omega
    clear h3 hl
    go_enter Try.func6, Try.ntmps6
    go_wp2_with fail
    refine (awake_any _).mono ?_
    rintro e w1 ⟨rfl, hb⟩
    replace hb := Lib.hid hb
    go_wp2_with fail
    go_ret
    exact ⟨rfl, hb.out⟩

end Go.Proofs.Ythjoflhjiaadhaa.BktScript
