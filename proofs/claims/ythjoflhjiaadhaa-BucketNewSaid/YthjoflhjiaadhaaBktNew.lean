/-
  The walk of BucketNew: a full bucket answers as a new one, whatever is asked from then on.
-/
import Derived.Test.YthjoflhjiaadhaaBktLaws
import Derived.Test.YthjoflhjiaadhaaTab
import Derived.Deep.RegionHeld3
import Derived.Deep.AppendLies
import Derived.Deep.DeepCutAuto
import Derived.Deep.CutBlock
import Derived.Deep.LoopGhost
set_option linter.unusedVariables false
namespace Go.Proofs.Ythjoflhjiaadhaa.BktNew
open Go.RowKit Go.Proofs.Ythjoflhjiaadhaa.Num Go.Proofs.Ythjoflhjiaadhaa.Bkt Go.Proofs.Ythjoflhjiaadhaa.BktLaws Go.Proofs.Ythjoflhjiaadhaa.Tab

def nextV (now behind : Int) : Int := if behind < 0 ∨ 1099511627776 - now < behind then now else now + behind
theorem nextV_bd {now behind : Int} (h0 : 0 ≤ now) (h1 : now ≤ 1099511627776) : now ≤ nextV now behind ∧ nextV now behind ≤ 1099511627776 := by
  unfold nextV; split <;> omega

theorem next_any (now behind : Int) (w : World) (h0 : 0 ≤ now) (h1 : now ≤ 1099511627776) :
    Calls Try.prog 12 #[.int .i64 now, .int .i64 behind] w fun e w' => e = .returned (.int .i64 (nextV now behind)) ∧ w = w' := by
  rcases (show behind < 0 ∨ (0 ≤ behind ∧ 1099511627776 - now < behind) ∨ (0 ≤ behind ∧ behind ≤ 1099511627776 - now) by omega) with h | ⟨h, h'⟩ | ⟨h, h'⟩
  · have e : nextV now behind = now := by unfold nextV; rw [if_pos (.inl h)]
    rw [e]; clear e
    go_enter Try.func12, Try.ntmps12
    go_wp2
    go_ret
    exact ⟨rfl, rfl⟩
  · have e : nextV now behind = now := by unfold nextV; rw [if_pos (.inr h')]
    rw [e]; clear e
    go_enter Try.func12, Try.ntmps12
    go_wp2
    go_ret
    exact ⟨rfl, rfl⟩
  · have e : nextV now behind = now + behind := by unfold nextV; rw [if_neg (by omega)]
    rw [e]; clear e
    go_enter Try.func12, Try.ntmps12
    go_wp2
    go_ret
    exact ⟨rfl, rfl⟩

/-- A bucket behind a Take: as Own says. -/
theorem own_take {W w : World} {B : Nat} {r bu t a : Int} (h : Own W w B r bu t a) (n now : Int) :
    Calls Try.prog 10 #[.pointer (some ⟨B, 0, none⟩), .int .i64 n, .int .i64 now] w fun e w' => e = .returned (.bool (takeB r bu t a n now)) ∧ Own W w' B r bu (takeT r bu t a n now) (takeA a n now) :=
  (take_any B r bu t a n now w h.bk h.ok).mono fun e w' k => ⟨k.1, h.step ⟨k.2, h.ok.take n now⟩⟩

/-- Two buckets that the call made itself, apart. -/
structure Two (W w : World) (B B2 : Nat) (r bu t a t' a' : Int) : Prop where
  one : Own W w B r bu t a
  two : Own W w B2 r bu t' a'
  ne : B ≠ B2

theorem own_other {W w w' : World} {B B2 : Nat} {r bu t a : Int} (h : Own W w B2 r bu t a) (hg : w.grownBy w' (some B)) (hne : B ≠ B2) (hge : W.heap.size ≤ B) : Own W w' B2 r bu t a :=
  ⟨by have k := h.bk; unfold Bk at k ⊢; rw [hg.block B2 (lt_of_block k) (by simpa using fun e => hne e.symm)]; exact k, h.ok, h.below.grown hg h.below.size (by intro k hk; have e : B = k := (by simpa using hk); omega), h.ge⟩

theorem two_take_b {W w : World} {B B2 : Nat} {r bu t a t' a' : Int} (h : Two W w B B2 r bu t a t' a') (n now : Int) :
    Calls Try.prog 10 #[.pointer (some ⟨B, 0, none⟩), .int .i64 n, .int .i64 now] w fun e w' => e = .returned (.bool (takeB r bu t a n now)) ∧ Two W w' B B2 r bu (takeT r bu t a n now) (takeA a n now) t' a' :=
  (take_any B r bu t a n now w h.one.bk h.one.ok).mono fun e w' k => ⟨k.1, h.one.step ⟨k.2, h.one.ok.take n now⟩, own_other h.two k.2.2 h.ne h.one.ge, h.ne⟩
theorem two_take_c {W w : World} {B B2 : Nat} {r bu t a t' a' : Int} (h : Two W w B B2 r bu t a t' a') (n now : Int) :
    Calls Try.prog 10 #[.pointer (some ⟨B2, 0, none⟩), .int .i64 n, .int .i64 now] w fun e w' => e = .returned (.bool (takeB r bu t' a' n now)) ∧ Two W w' B B2 r bu t a (takeT r bu t' a' n now) (takeA a' n now) :=
  (take_any B2 r bu t' a' n now w h.two.bk h.two.ok).mono fun e w' k => ⟨k.1, own_other h.one k.2.2 h.ne.symm h.two.ge, h.two.step ⟨k.2, h.two.ok.take n now⟩, h.ne⟩
theorem two_tokens_b {W w : World} {B B2 : Nat} {r bu t a t' a' : Int} (h : Two W w B B2 r bu t a t' a') (now : Int) :
    Calls Try.prog 14 #[.pointer (some ⟨B, 0, none⟩), .int .i64 now] w fun e w' => e = .returned (.int .i64 (fillT r bu t a now)) ∧ Two W w' B B2 r bu (fillT r bu t a now) (fillA a now) t' a' :=
  (tokens_any B r bu t a now w h.one.bk h.one.ok).mono fun e w' k => ⟨k.1, h.one.step ⟨k.2, h.one.ok.fill now⟩, own_other h.two k.2.2 h.ne h.one.ge, h.ne⟩
theorem two_tokens_c {W w : World} {B B2 : Nat} {r bu t a t' a' : Int} (h : Two W w B B2 r bu t a t' a') (now : Int) :
    Calls Try.prog 14 #[.pointer (some ⟨B2, 0, none⟩), .int .i64 now] w fun e w' => e = .returned (.int .i64 (fillT r bu t' a' now)) ∧ Two W w' B B2 r bu t a (fillT r bu t' a' now) (fillA a' now) :=
  (tokens_any B2 r bu t' a' now w h.two.bk h.two.ok).mono fun e w' k => ⟨k.1, own_other h.one k.2.2 h.ne.symm h.two.ge, h.two.step ⟨k.2, h.two.ok.fill now⟩, h.ne⟩

theorem two_drew {W w : World} {B B2 : Nat} {r bu t a t' a' : Int} (h : Two W w B B2 r bu t a t' a') : Two W w.drew B B2 r bu t a t' a' :=
  ⟨⟨h.one.bk, h.one.ok, h.one.below.drew, h.one.ge⟩, ⟨h.two.bk, h.two.ok, h.two.below.drew, h.two.ge⟩, h.ne⟩

theorem old_cell {W w : World} (hb : Below W.heap.size W w) {p : Addr} {v : Value} (hp : W.cell? p = some v) : w.cell? p = some v :=
  (hb.cell (World.block_lt_of_cell? W p hp)).trans hp

/-- What is known of an element of a slice of Asks. -/
theorem ask_at {W : World} {a : Option Addr} {len : Nat} (h : IsTab W a len 2) (hl : 0 < len) : ∃ b off, a = some ⟨b, off, none⟩ ∧ len ≤ maxLen ∧
    ∀ i, i < len → ∃ n k : Int, W.cell? ⟨b, off + i * 2, none⟩ = some (.int .i64 n) ∧ W.cell? ⟨b, off + i * 2 + 1, none⟩ = some (.int .i64 k) ∧ -9223372036854775808 ≤ n ∧ n ≤ 9223372036854775807 ∧ -9223372036854775808 ≤ k ∧ k ≤ 9223372036854775807 := by
  rcases h with ⟨_, h⟩ | h | ⟨b, off, ha, _, hm, hc⟩
  · omega
  · omega
  · refine ⟨b, off, ha, hm, fun i hi => ?_⟩
    have h0 := hc i hi 0 (by omega)
    have h1 := hc i hi 1 (by omega)
    exact ⟨_, _, h0.1, h1.1, h0.2.1, h0.2.2, h1.2.1, h1.2.2⟩

set_option maxHeartbeats 8000000 in
theorem new_good_walk (rate burst now : Int) (a3 : Option Addr) (len3 cap3 : Nat) (a4 : Option Addr) (len4 cap4 : Nat) (w : World) (r0 : 0 ≤ rate) (r1 : rate ≤ 9007199254740992) (b0 : 0 ≤ burst) (b1 : burst ≤ 9007199254740992) (n0 : 0 ≤ now) (n1 : now ≤ 1099511627776)
    (h3 : IsTab w a3 len3 2) (h4 : IsTab w a4 len4 2) (l3 : len3 ≤ 60) (l4 : len4 ≤ 60) :
    Calls Try.prog 4 #[.int .i64 rate, .int .i64 burst, .int .i64 now, .slice a3 len3 cap3, .slice a4 len4 cap4] w fun e w' => e = .returned (.bool true) ∧ Below w.heap.size w w' := by
  have H3 := Lib.hid h3; have H4 := Lib.hid h4
  clear h3 h4
  go_enter Try.func4, Try.ntmps4
  go_wp2_with fail
  refine (awake_any _).mono ?_
  rintro e w1 ⟨rfl, hb⟩
  replace hb := Lib.hid hb
  go_wp2_with fail
  refine (new_good rate burst now _ r0 r1 b0 b1 n0 n1).mono ?_
  rintro e w2 ⟨rfl, hw2⟩
  have h1 : Own w w2 w1.heap.size rate burst burst now := by rw [hw2]; exact Own.made hb.out r0 r1 b0 b1 n0 n1
  obtain ⟨B, hB⟩ : ∃ B, B = w1.heap.size := ⟨_, rfl⟩
  rw [← hB] at h1
  rw [← hB]
  replace h1 := Lib.hid h1
  clear hw2 hB hb
  go_wp2_with fail
  go_loopg [2, 14] len3 (fun g v2 v14 wr => ∃ (k : Nat) (t a now' : Int), k ≤ len3 ∧ g = len3 - k ∧ v2 = .int .i64 now' ∧ v14 = .int .i64 k ∧ Own w wr B rate burst t a ∧ a ≤ now' ∧ 0 ≤ now' ∧ now' ≤ 1099511627776)
  case atStart => exact ⟨0, burst, now, now, Nat.zero_le _, rfl, rfl, rfl, h1.out, Int.le_refl _, n0, n1⟩
  case round =>
    clear h1
    obtain ⟨k, t, a, now', hk, hg, rfl, rfl, ho, han, hn0, hn1⟩ := hrel
    have Hg := Lib.hid hg
    clear hg
    by_cases hlt : k < len3
    · obtain ⟨b, off, rfl, hm, hc⟩ := ask_at H3.out (by omega)
      obtain ⟨n, d, c0, c1, _, _, _, _⟩ := hc k hlt
      have c0' := old_cell ho.below c0
      have c1' := old_cell ho.below c1
      have HO := Lib.hid ho
      have HC0 := Lib.hid c0
      obtain ⟨nb0, nb1⟩ := nextV_bd (behind := d) hn0 hn1
      obtain ⟨now2, hnow2⟩ : ∃ x, nextV now' d = x := ⟨_, rfl⟩
      rw [hnow2] at nb0 nb1
      have HN := Lib.hid hnow2
      clear ho c0 c1 hc hnow2
      go_wp2_with fail
      refine (next_any now' d _ hn0 hn1).mono ?_
      rintro e w' ⟨rfl, rfl⟩
      rw [HN.out]
      go_wp2_with fail
      refine (own_take HO.out n now2).mono ?_
      rintro e w3 ⟨rfl, ho⟩
      have HO2 := Lib.hid ho
      clear ho
      go_wp2_with fail
      go_roundg (len3 - (k + 1))
      case measure => have := Hg.out; omega
      case rel => exact ⟨k + 1, _, _, now2, by omega, rfl, rfl, by go_num, HO2.out, by unfold takeA fillA; split <;> (try split) <;> omega, by omega, nb1⟩
    · have ok := ho.ok
      have bb := ok.b1
      have HO := Lib.hid ho
      clear ho ok
      go_wp2_with fail
      refine (full_any B rate burst t a now' _ HO.out.bk HO.out.ok).mono ?_
      rintro e w3 ⟨rfl, hp⟩
      have ho2 := HO.out.step ⟨hp, HO.out.ok.fill now'⟩
      clear hp
      have eA : fillA a now' = now' := by unfold fillA; rw [if_neg (by omega)]
      rw [eA] at ho2
      clear eA
      by_cases hfull : fillT rate burst t a now' = burst
      · rw [hfull] at ho2
        have ef : (fillT rate burst t a now' == burst) = true := by rw [beq_iff_eq]; exact hfull
        have HO2 := Lib.hid ho2
        clear ho2 hfull HO
        go_wp2_with fail
        refine (new_good rate burst now' _ r0 r1 b0 b1 hn0 hn1).mono ?_
        rintro e w4 ⟨rfl, hw4⟩
        have ht : Two w w4 B w3.heap.size rate burst burst now' burst now' := by
          rw [hw4]
          refine ⟨HO2.out.kept ((Below.refl _ _).alloc (Nat.le_refl _) _), Own.made HO2.out.below r0 r1 b0 b1 hn0 hn1, ?_⟩
          have := lt_of_block HO2.out.bk
          omega
        obtain ⟨B2, hB2⟩ : ∃ B2, B2 = w3.heap.size := ⟨_, rfl⟩
        rw [← hB2] at ht
        rw [← hB2]
        replace ht := Lib.hid ht
        clear hw4 hB2 HO2
        go_wp2_with fail
        go_loopg [2, 17] len4 (fun g v2 v17 wr => ∃ (k : Nat) (t a now' : Int), k ≤ len4 ∧ g = len4 - k ∧ v2 = .int .i64 now' ∧ v17 = .int .i64 k ∧ Two w wr B B2 rate burst t a t a ∧ 0 ≤ now' ∧ now' ≤ 1099511627776)
        case atStart => exact ⟨0, burst, now', now', Nat.zero_le _, rfl, rfl, rfl, ht.out, hn0, hn1⟩
        case round =>
          clear ht
          obtain ⟨k, t, a, now', hk, hg, rfl, rfl, ho, hn0, hn1⟩ := hrel
          have Hg := Lib.hid hg
          clear hg
          by_cases hlt : k < len4
          · obtain ⟨b, off, rfl, hm, hc⟩ := ask_at H4.out (by omega)
            obtain ⟨n, d, c0, c1, _, _, _, _⟩ := hc k hlt
            have c1' := old_cell ho.one.below c1
            have HO := Lib.hid ho
            have HC0 := Lib.hid c0
            obtain ⟨nb0, nb1⟩ := nextV_bd (behind := d) hn0 hn1
            obtain ⟨now2, hnow2⟩ : ∃ x, nextV now' d = x := ⟨_, rfl⟩
            rw [hnow2] at nb0 nb1
            have HN := Lib.hid hnow2
            clear ho c0 c1 hc hnow2
            go_upto_region 21 with (go_at_call 12; refine (next_any now' d _ hn0 hn1).mono ?_; rintro e w' ⟨rfl, rfl⟩; rw [HN.out])
            go_cut [118] (fun v118 wc => v118 = .bool false ∧ ∃ t2 a2 : Int, Two w wc B B2 rate burst t2 a2 t2 a2)
            case first =>
              have c0w : wr.drew.cell? ⟨b, off + k * 2, none⟩ = some (.int .i64 n) := old_cell HO.out.one.below HC0.out
              have HOd := Lib.hid (two_drew HO.out)
              go_region_held3 (fun w' => w'.cell? ⟨b, off + k * 2, none⟩ = some (.int .i64 n)) (first | exact c0w | exact old_cell (Hid.out ‹Hid (Two w _ B B2 rate burst _ _ _ _)›).one.below HC0.out)
                (first
                  | (go_at_call 10; (with_reducible refine (two_take_b HOd.out n now2).mono ?_); rintro e w5 ⟨rfl, h5⟩; have HO5 := Lib.hid h5; clear h5)
                  | (go_at_call 10; (with_reducible refine (two_take_c (Hid.out ‹Hid (Two w _ B B2 rate burst (takeT rate burst t a n now2) (takeA a n now2) t a)›) n now2).mono ?_); rintro e w6 ⟨rfl, h6⟩; have HO6 := Lib.hid h6; clear h6)
                  | (go_at_call 14; (with_reducible refine (two_tokens_b (Hid.out ‹Hid (Two w _ B B2 rate burst (takeT rate burst t a n now2) (takeA a n now2) (takeT rate burst t a n now2) (takeA a n now2))›) now2).mono ?_); rintro e w7 ⟨rfl, h7⟩; have HO7 := Lib.hid h7; clear h7)
                  | (go_at_call 14; (with_reducible refine (two_tokens_c (Hid.out ‹Hid (Two w _ B B2 rate burst (fillT rate burst (takeT rate burst t a n now2) (takeA a n now2) now2) (fillA (takeA a n now2) now2) (takeT rate burst t a n now2) (takeA a n now2))›) now2).mono ?_); rintro e w8 ⟨rfl, h8⟩; have HO8 := Lib.hid h8; clear h8))
              all_goals
                go_wp2_with fail
                go_meet
                exact ⟨rfl, _, _, Hid.out ‹Hid (Two w _ B B2 rate burst (fillT rate burst (takeT rate burst t a n now2) (takeA a n now2) now2) (fillA (takeA a n now2) now2) _ _)›⟩
            case rest =>
              obtain ⟨rfl, t2, a2, ho2⟩ := hcut
              have HO2 := Lib.hid ho2
              clear ho2
              go_wp2_with fail
              go_roundg (len4 - (k + 1))
              case measure => have := Hg.out; omega
              case rel => exact ⟨k + 1, t2, a2, now2, by omega, rfl, rfl, by go_num, HO2.out, by omega, nb1⟩
          · go_wp2_with fail
            go_ret
            exact ⟨rfl, ho.one.below⟩
      · have ef : (fillT rate burst t a now' == burst) = false := by rw [beq_eq_false_iff_ne]; exact hfull
        have HO2 := Lib.hid ho2
        clear ho2 hfull HO
        go_wp2_with fail
        go_ret
        exact ⟨rfl, HO2.out.below⟩

set_option maxHeartbeats 2000000 in
theorem bucketNew_walk (rate burst now : Int) (a3 : Option Addr) (len3 cap3 : Nat) (a4 : Option Addr) (len4 cap4 : Nat) (w : World) (h3 : IsTab w a3 len3 2) (h4 : IsTab w a4 len4 2) :
    Calls Try.prog 4 #[.int .i64 rate, .int .i64 burst, .int .i64 now, .slice a3 len3 cap3, .slice a4 len4 cap4] w fun e w' => e = .returned (.bool true) ∧ Below w.heap.size w w' := by
  by_cases hg : 0 ≤ rate ∧ rate ≤ 9007199254740992 ∧ 0 ≤ burst ∧ burst ≤ 9007199254740992 ∧ 0 ≤ now ∧ now ≤ 1099511627776
  · obtain ⟨r0, r1, b0, b1, n0, n1⟩ := hg
    by_cases hl : len3 ≤ 60 ∧ len4 ≤ 60
    · exact new_good_walk rate burst now a3 len3 cap3 a4 len4 cap4 w r0 r1 b0 b1 n0 n1 h3 h4 hl.1 hl.2
    · have hw : (60 : Int) < (len3 : Int) ∨ ((len3 : Int) ≤ 60 ∧ (60 : Int) < (len4 : Int)) := by omega
      clear h3 h4 hl
      rcases hw with h | ⟨h, h'⟩
      all_goals
        go_enter Try.func4, Try.ntmps4
        go_wp2_with fail
        refine (awake_any _).mono ?_
        rintro e w1 ⟨rfl, hb⟩
        replace hb := Lib.hid hb
        go_wp2_with fail
        refine (new_good rate burst now _ r0 r1 b0 b1 n0 n1).mono ?_
        rintro e w2 ⟨rfl, hw2⟩
        have h1 : Below w.heap.size w w2 := by rw [hw2]; exact hb.out.alloc hb.out.size _
        replace h1 := Lib.hid h1
        clear hw2
        go_wp2_with fail
        go_ret
        exact ⟨rfl, h1.out⟩
  · clear h3 h4
    go_enter Try.func4, Try.ntmps4
    go_wp2_with fail
    refine (awake_any _).mono ?_
    rintro e w1 ⟨rfl, hb⟩
    replace hb := Lib.hid hb
    go_wp2_with fail
    refine (new_bad rate burst now _ hg).mono ?_
    rintro e w' ⟨rfl, rfl⟩
    go_wp2_with fail
    go_ret
    exact ⟨rfl, hb.out⟩

end Go.Proofs.Ythjoflhjiaadhaa.BktNew
