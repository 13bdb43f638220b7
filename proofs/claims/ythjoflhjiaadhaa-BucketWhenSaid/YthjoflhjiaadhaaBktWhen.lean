/-
  The walk of BucketWhen: true for every five numbers; nothing that was there is written.
-/
import Derived.Test.YthjoflhjiaadhaaBktLaws
set_option linter.unusedVariables false
namespace Go.Proofs.Ythjoflhjiaadhaa.BktWhen
open Go.RowKit Go.Proofs.Ythjoflhjiaadhaa.Num Go.Proofs.Ythjoflhjiaadhaa.Bkt Go.Proofs.Ythjoflhjiaadhaa.BktLaws

theorem ret_b {a : Bool} (h : a = true) : Ending.returned (.bool a) = .returned (.bool true) := by rw [h]
theorem takeA_now (a n : Int) (h : 0 ≤ a) (h1 : a ≤ 1099511627776) : takeA a n a = a := by
  unfold takeA fillA; split <;> (try split) <;> omega

/-- What When told, and what it means. -/
def Way (rate burst T now n d : Int) : Prop :=
  (n ≤ T ∧ 0 ≤ d ∧ d ≤ 0 ∧ n < 0) ∨
  (n ≤ T ∧ 0 ≤ d ∧ d ≤ 0 ∧ 0 ≤ n) ∨
  (T < n ∧ -1 ≤ d ∧ d ≤ -1 ∧ burst < n) ∨
  (T < n ∧ -1 ≤ d ∧ d ≤ -1 ∧ n ≤ burst ∧ rate ≤ 0) ∨
  (T < n ∧ -1 ≤ d ∧ d ≤ -1 ∧ n ≤ burst ∧ 1 ≤ rate ∧ 1073741824 ≤ burst ∧ rate < 8192) ∨
  (T < n ∧ 549755813888 < d ∧ d ≤ 1099511627776 ∧ n ≤ burst ∧ 1 ≤ rate) ∨
  (T < n ∧ 1 ≤ d ∧ d ≤ 549755813888 ∧ n ≤ burst ∧ 1 ≤ rate)

theorem way_of {rate burst T now n : Int} (ok : Ok rate burst T now) : Way rate burst T now n (whenV rate burst T n) := by
  have h1 := ok.t0; have h2 := ok.tb; have h3 := ok.b1; have h4 := ok.r0
  unfold Way
  by_cases hn : n ≤ T
  · have e : whenV rate burst T n = 0 := by unfold whenV; rw [if_pos hn]
    rw [e]
    by_cases h : n < 0
    · exact .inl (by omega)
    · exact .inr (.inl (by omega))
  · rcases when_ways (bu := burst) h4 (show T < n by omega) with ⟨h, e⟩ | ⟨⟨hb, hr⟩, d, d1, lo, hi, e⟩
    · rw [e]
      by_cases hb : burst < n
      · exact .inr (.inr (.inl (by omega)))
      · exact .inr (.inr (.inr (.inl (by omega))))
    · by_cases hd : 1099511627776 < d
      · rw [e, if_pos hd]
        have hp : rate * 1099511627776 ≤ rate * (d - 1) := Int.mul_le_mul_of_nonneg_left (by omega) h4
        exact .inr (.inr (.inr (.inr (.inl (by omega)))))
      · rw [e, if_neg hd]
        by_cases h5 : 549755813888 < d
        · exact .inr (.inr (.inr (.inr (.inr (.inl (by omega))))))
        · exact .inr (.inr (.inr (.inr (.inr (.inr (by omega))))))

/-- A tick too early, and in time. -/
theorem in_time {rate burst T now n : Int} (ok : Ok rate burst T now) (hn : T < n) (d : Int) (hd : d = whenV rate burst T n) (h1 : 1 ≤ d) (h2 : d ≤ 549755813888) (hnow : now ≤ 1073741824) :
    fillT rate burst T now (now + d - 1) < n ∧ takeB rate burst (fillT rate burst T now (now + d - 1)) (now + d - 1) n (now + d) = true := by
  have t0 := ok.t0; have tb := ok.tb; have bb := ok.b1; have r0 := ok.r0; have r1 := ok.r1; have a0 := ok.a0
  rcases when_ways (bu := burst) r0 hn with ⟨h, e⟩ | ⟨⟨hb, hr⟩, d', d1, lo, hi, e⟩
  · omega
  · have hd2 := hd.trans e
    have : d = d' := by
      by_cases hbig : 1099511627776 < d'
      · rw [if_pos hbig] at hd2; omega
      · rw [if_neg hbig] at hd2; exact hd2
    subst this
    have p0 : 0 ≤ rate * (d - 1) := Int.mul_nonneg r0 (by omega)
    have hmul : rate * d = rate * (d - 1) + rate := by rw [Int.mul_sub, Int.mul_one]; omega
    have e1 : fillT rate burst T now (now + d - 1) = T + rate * (d - 1) := by
      rw [show now + d - 1 = now + (d - 1) by omega, fill_later ok (by omega) (by omega) (by omega)]
      unfold addI
      rw [cutI_id t0 (by omega), cutI_id p0 (by omega), cutI_id (show 0 ≤ T + rate * (d - 1) by omega) (by omega)]
      omega
    have ok2 : Ok rate burst (T + rate * (d - 1)) (now + d - 1) := ⟨r0, r1, ok.b0, bb, by omega, by omega, by omega, by omega⟩
    have e2 : fillT rate burst (T + rate * (d - 1)) (now + d - 1) (now + d) = min (addI (T + rate * (d - 1)) rate) burst := by
      have h := fill_later ok2 (show (0 : Int) ≤ 1 by omega) (by omega) (by omega)
      rw [Int.mul_one, show now + d - 1 + 1 = now + d by omega] at h
      exact h
    have e3 : n ≤ addI (T + rate * (d - 1)) rate := by
      unfold addI
      rw [cutI_id (show 0 ≤ T + rate * (d - 1) by omega) (by omega), cutI_id r0 r1]
      unfold cutI; split <;> (try split) <;> omega
    refine ⟨by omega, ?_⟩
    rw [e1]
    unfold takeB
    rw [e2, decide_eq_true (show 0 ≤ n by omega), decide_eq_true (show n ≤ min (addI (T + rate * (d - 1)) rate) burst by omega)]
    rfl

set_option maxHeartbeats 8000000 in
theorem when_good (rate burst now first n : Int) (w : World) (r0 : 0 ≤ rate) (r1 : rate ≤ 9007199254740992) (b0 : 0 ≤ burst) (b1 : burst ≤ 9007199254740992) (n0 : 0 ≤ now) (n1 : now ≤ 1073741824) (wf0 : -9223372036854775808 ≤ n) (wf1 : n ≤ 9223372036854775807) :
    Calls Try.prog 5 #[.int .i64 rate, .int .i64 burst, .int .i64 now, .int .i64 first, .int .i64 n] w fun e w' => e = .returned (.bool true) ∧ Below w.heap.size w w' := by
  have ok0 := new_ok r0 r1 b0 b1 n0 (show now ≤ 1099511627776 by omega)
  have okT := ok0.take first now
  rw [takeA_now now first n0 (by omega)] at okT
  obtain ⟨T, hT⟩ : ∃ T, takeT rate burst burst now first now = T := ⟨_, rfl⟩
  rw [hT] at okT
  have hway := way_of (n := n) okT
  have htime := in_time (n := n) okT
  obtain ⟨d, hd⟩ : ∃ d, whenV rate burst T n = d := ⟨_, rfl⟩
  rw [hd] at hway
  have T0 := okT.t0; have T1 := okT.tb
  have HT := Lib.hid hT; have HD := Lib.hid hd; have OKT := Lib.hid okT; have HTIME := Lib.hid htime; have HWAY := Lib.hid hway
  clear hT hd okT htime hway ok0
  go_enter Try.func5, Try.ntmps5
  go_wp2_with fail
  refine (awake_any _).mono ?_
  rintro e w1 ⟨rfl, hb⟩
  replace hb := Lib.hid hb
  go_wp2_with fail
  refine (new_good rate burst now _ r0 r1 b0 b1 n0 (by omega)).mono ?_
  rintro e w2 ⟨rfl, hw2⟩
  have h1 : Own w w2 w1.heap.size rate burst burst now := by rw [hw2]; exact Own.made hb.out r0 r1 b0 b1 n0 (by omega)
  replace h1 := Lib.hid h1
  clear hw2
  go_wp2_with fail
  refine (take_at _ T now h1.out.bk h1.out.ok rfl HT.out (takeA_now now first n0 (by omega))).mono ?_
  rintro e w3 ⟨rfl, hp⟩
  have h2 := Lib.hid (h1.out.step hp)
  clear hp h1
  go_wp2_with fail
  refine (when_at d T now h2.out.bk h2.out.ok (fill_now h2.out.ok) (by unfold fillA; split <;> omega) HD.out).mono ?_
  rintro e w4 ⟨rfl, hp⟩
  have h3 := Lib.hid (h2.out.step hp)
  clear hp h2
  rcases HWAY.out with ⟨g1, g2, g3, g4⟩ | ⟨g1, g2, g3, g4⟩ | ⟨g1, g2, g3, g4⟩ | ⟨g1, g2, g3, g4, g5⟩ | ⟨g1, g2, g3, g4, g5, g6, g7⟩ | ⟨g1, g2, g3, g4, g5⟩ | ⟨g1, g2, g3, g4, g5⟩
  · -- n < 0
    go_wp2_with fail
    go_ret
    exact ⟨rfl, h3.out.below⟩
  · -- they are there
    have tk : takeB rate burst T now n (now + d) = true := by
      have e := fill_now h3.out.ok
      rw [show now + d = now by omega]
      unfold takeB
      rw [e, decide_eq_true g4, decide_eq_true g1]; rfl
    have TK := Lib.hid tk
    clear tk
    by_cases c1 : 0 < n
    · by_cases c2 : 0 < rate
      · by_cases c3 : burst < 1073741824
        all_goals
          go_wp2_with fail
          refine (take_at true _ _ h3.out.bk h3.out.ok TK.out rfl rfl).mono ?_
          rintro e w5 ⟨rfl, hp⟩
          have h4 := Lib.hid (h3.out.step hp)
          clear hp
          go_wp2_with fail
          go_ret
          exact ⟨rfl, h4.out.below⟩
      · go_wp2_with fail
        refine (take_at true _ _ h3.out.bk h3.out.ok TK.out rfl rfl).mono ?_
        rintro e w5 ⟨rfl, hp⟩
        have h4 := Lib.hid (h3.out.step hp)
        clear hp
        go_wp2_with fail
        go_ret
        exact ⟨rfl, h4.out.below⟩
    · go_wp2_with fail
      refine (take_at true _ _ h3.out.bk h3.out.ok TK.out rfl rfl).mono ?_
      rintro e w5 ⟨rfl, hp⟩
      have h4 := Lib.hid (h3.out.step hp)
      clear hp
      go_wp2_with fail
      go_ret
      exact ⟨rfl, h4.out.below⟩
  · go_wp2_with fail
    go_ret
    exact ⟨rfl, h3.out.below⟩
  · have g6 : rate < 8192 := by omega
    go_wp2_with fail
    go_ret
    exact ⟨rfl, h3.out.below⟩
  · go_wp2_with fail
    go_ret
    exact ⟨rfl, h3.out.below⟩
  · by_cases c3 : burst < 1073741824
    all_goals
      go_wp2_with fail
      go_ret
      exact ⟨rfl, h3.out.below⟩
  · obtain ⟨k1, k2⟩ := HTIME.out g1 d HD.out.symm g2 g3 n1
    obtain ⟨T2, hT2⟩ : ∃ T2, fillT rate burst T now (now + d - 1) = T2 := ⟨_, rfl⟩
    rw [hT2] at k1 k2
    have hA2 : fillA now (now + d - 1) = now + d - 1 := by unfold fillA; rw [if_neg (by omega)]
    have K2 := Lib.hid k2; have HT2 := Lib.hid hT2; have HA2 := Lib.hid hA2
    clear k2 hT2 hA2
    by_cases c3 : burst < 1073741824
    all_goals
      go_wp2_with fail
      refine (tokens_at T2 (now + d - 1) h3.out.bk h3.out.ok HT2.out HA2.out).mono ?_
      rintro e w5 ⟨rfl, hp⟩
      have h4 := Lib.hid (h3.out.step hp)
      clear hp
      go_wp2_with fail
      refine (take_at true _ _ h4.out.bk h4.out.ok K2.out rfl rfl).mono ?_
      rintro e w6 ⟨rfl, hp⟩
      have h5 := Lib.hid (h4.out.step hp)
      clear hp
      go_wp2_with fail
      go_ret
      exact ⟨rfl, h5.out.below⟩

set_option maxHeartbeats 2000000 in
theorem bucketWhen_walk (rate burst now first n : Int) (w : World) (wf0 : -9223372036854775808 ≤ n) (wf1 : n ≤ 9223372036854775807) :
    Calls Try.prog 5 #[.int .i64 rate, .int .i64 burst, .int .i64 now, .int .i64 first, .int .i64 n] w fun e w' => e = .returned (.bool true) ∧ Below w.heap.size w w' := by
  by_cases hn : 0 ≤ now ∧ now ≤ 1073741824
  · obtain ⟨n0, n1⟩ := hn
    by_cases hg : 0 ≤ rate ∧ rate ≤ 9007199254740992 ∧ 0 ≤ burst ∧ burst ≤ 9007199254740992
    · exact when_good rate burst now first n w hg.1 hg.2.1 hg.2.2.1 hg.2.2.2 n0 n1 wf0 wf1
    · go_enter Try.func5, Try.ntmps5
      go_wp2_with fail
      refine (awake_any _).mono ?_
      rintro e w1 ⟨rfl, hb⟩
      replace hb := Lib.hid hb
      go_wp2_with fail
      refine (new_bad rate burst now _ (by omega)).mono ?_
      rintro e w' ⟨rfl, rfl⟩
      go_wp2_with fail
      go_ret
      exact ⟨rfl, hb.out⟩
  · rcases (show now < 0 ∨ (0 ≤ now ∧ 1073741824 < now) by omega) with h | ⟨h, h'⟩
    all_goals
      clear hn
      go_enter Try.func5, Try.ntmps5
      go_wp2_with fail
      refine (awake_any _).mono ?_
      rintro e w1 ⟨rfl, hb⟩
      replace hb := Lib.hid hb
      go_wp2_with fail
      go_ret
      exact ⟨rfl, hb.out⟩

end Go.Proofs.Ythjoflhjiaadhaa.BktWhen
