/-
  The walk of bits.Div64: the quotient and the remainder of a number of two words, for every divisor greater than its upper word; the world is as it was.
-/
import Derived.Test.YthjoflhjiaadhaaBits
import Derived.Deep.CutBlock
import Derived.Deep.DeepCutAuto
import Derived.Deep.LoopGhost
import Derived.Laws.ShiftsVarLaws
set_option linter.unusedVariables false
namespace Go.Proofs.Ythjoflhjiaadhaa.Div
open Go.RowKit Go.Proofs.Ythjoflhjiaadhaa.Bits Go.Proofs.Ythjoflhjiaadhaa.Num

set_option maxHeartbeats 4000000 in
set_option maxRecDepth 100000 in
theorem div64_steps (hi lo y : Int) (w : World) (h0 : 0 < hi) (h1 : hi < y) (h2 : y ≤ 18446744073709551615) (h3 : 0 ≤ lo) (h4 : lo ≤ 18446744073709551615)
    (b1 : (y == 0) = false) (b2 : decide (y ≤ hi) = false) (b3 : (hi == 0) = false) (s : Int) (hs0 : 0 ≤ s) (hs1 : s ≤ 63)
    (lz : ∀ w, Calls Try.prog 35 #[.int .u64 y] w fun e w' => e = .returned (.int .i64 s) ∧ w = w')
    (Y Y1 Y0 U L D1 D0 Q1 T Q0 Z : Int) (eY : IntKind.u64.wrap (y * 2 ^ s.toNat) = Y) (bY0 : 0 ≤ Y) (eY1 : Y / 4294967296 = Y1) (bY1 : 2147483648 ≤ Y1) (bY1' : Y1 < 4294967296) (eY0 : bits .and .u64 Y 4294967295 = Y0)
    (eU : bits .or .u64 (IntKind.u64.wrap (hi * 2 ^ s.toNat)) (lo / 2 ^ (64 - s).toNat) = U) (bU : 0 ≤ U) (bU1 : U ≤ 18446744073709551615) (eL : IntKind.u64.wrap (lo * 2 ^ s.toNat) = L) (bL : 0 ≤ L) (bL1 : L ≤ 18446744073709551615)
    (eD1 : L / 4294967296 = D1) (eD0 : bits .and .u64 L 4294967295 = D0) (bD0 : 0 ≤ D0) (bD01 : D0 < 4294967296) (bD1 : 0 ≤ D1) (bD11 : D1 < 4294967296)
    (M : Int) (eM : IntKind.u64.wrap (U / Y1 * Y1) = M) (bM : 0 ≤ M) (bM1 : M ≤ U)
    (S1 : DigSpec Y1 Y0 U D1 Q1) (d1 : Dig Y1 U Q1 (U / Y1) (U - M))
    (bQ1 : 0 ≤ Q1) (bQ11 : Q1 < 4294967296)
    (eT : IntKind.u64.wrap (IntKind.u64.wrap (IntKind.u64.wrap (U * 4294967296) + D1) - IntKind.u64.wrap (Q1 * Y)) = T) (bT : 0 ≤ T) (bT1 : T ≤ 18446744073709551615)
    (M' : Int) (eM' : IntKind.u64.wrap (T / Y1 * Y1) = M') (bM' : 0 ≤ M') (bM1' : M' ≤ T)
    (S0 : DigSpec Y1 Y0 T D0 Q0) (d0 : Dig Y1 T Q0 (T / Y1) (T - M'))
    (bQ0 : 0 ≤ Q0) (bQ01 : Q0 < 4294967296)
    (eZ : IntKind.u64.wrap (IntKind.u64.wrap (IntKind.u64.wrap (T * 4294967296) + D0) - IntKind.u64.wrap (Q0 * Y)) = Z) (bZ : 0 ≤ Z) (bZ1 : Z ≤ 18446744073709551615) :
    Calls Try.prog 34 #[.int .u64 hi, .int .u64 lo, .int .u64 y] w fun e w' => e = .returned (.tuple #[.int .u64 (Q1 * 4294967296 + Q0), .int .u64 (Z / 2 ^ s.toNat)]) ∧ w = w' := by
  have LZ := Lib.hid lz; clear lz
  have HS1 := Lib.hid S1; have HS0 := Lib.hid S0; have Hd1 := Lib.hid d1; have Hd0 := Lib.hid d0
  have y0 := S1.y0; have y0' := S1.y0'
  clear S1 S0 d1 d0
  go_enter Try.func34, Try.ntmps34
  go_upto_block 0 with (go_at_call 35; refine (LZ.out _).mono ?_; rintro e w' ⟨rfl, rfl⟩)
  go_cut [15, 16] (fun q r wc => ∃ x : Int, q = .int .u64 Q1 ∧ r = .int .u64 x ∧ w = wc)
  case first =>
    go_wp2_with fail
    go_loopg [15, 16] (U / Y1).toNat (fun k v15 v16 wr => ∃ q r : Int, v15 = .int .u64 q ∧ v16 = .int .u64 r ∧ Dig Y1 U Q1 q r ∧ k = q.toNat ∧ w = wr)
    case atStart => exact ⟨_, _, rfl, rfl, Hd1.out, rfl, rfl⟩
    case round =>
      obtain ⟨q, r, rfl, rfl, hd, hgk, rfl⟩ := hrel
      have q0 : 0 ≤ q := Int.le_trans bQ1 hd.ge
      have q1 := hd.le; have r0 := hd.r0; have r1 := hd.r1
      have hmb := mul_bd q0 q1 y0 y0'
      obtain ⟨m, hm⟩ : ∃ m, m = q * Y0 := ⟨_, rfl⟩
      rw [← hm] at hmb
      have mb0 := hmb.1; have mb1 := hmb.2
      have em : IntKind.u64.wrap (q * Y0) = m := by rw [← hm, IntKind.wrap_u64]; omega
      have Hm := Lib.hid hm; have Hd := Lib.hid hd; have Hg := Lib.hid hgk
      clear hm hd hgk hmb
      by_cases ht : 4294967296 ≤ q ∨ 4294967296 * r + D1 < m
      · have hl := Hd.out.less HS1.out (by rw [← Hm.out]; exact ht)
        have qg : 1 ≤ q := by omega
        rcases (show 4294967296 ≤ q ∨ (q < 4294967296 ∧ 4294967296 * r + D1 < m) by omega) with hq | ⟨hq, hp⟩
        all_goals
          by_cases hr : r + Y1 < 4294967296
          · go_wp2_with fail
            go_roundg (q - 1).toNat
            case measure => have := Hg.out; omega
            case rel => exact ⟨q - 1, r + Y1, rfl, rfl, Hd.out.step HS1.out (by rw [← Hm.out]; exact ht) hr, rfl, rfl⟩
          · have hk : q - 1 = Q1 := Hd.out.break HS1.out bD1 (by rw [← Hm.out]; exact ht) (by omega)
            have Hk := Lib.hid hk; clear hk
            go_wp2_with fail
            go_meet
            exact ⟨r + Y1, by rw [← Hk.out], rfl, rfl⟩
      · have hk : q = Q1 := Hd.out.stop HS1.out (by rw [← Hm.out]; omega)
        have hq : q < 4294967296 := by omega
        have hp : m ≤ 4294967296 * r + D1 := by omega
        have Hk := Lib.hid hk; clear hk
        go_wp2_with fail
        go_meet
        exact ⟨r, by rw [← Hk.out], rfl, rfl⟩
  case rest =>
    obtain ⟨x, rfl, rfl, rfl⟩ := hcut
    go_upto_block 2 with (fail)
    go_cut [18, 16] (fun q r wc => ∃ x : Int, q = .int .u64 Q0 ∧ r = .int .u64 x ∧ w = wc)
    case first =>
      go_wp2_with fail
      go_loopg [18, 16] (T / Y1).toNat (fun k v15 v16 wr => ∃ q r : Int, v15 = .int .u64 q ∧ v16 = .int .u64 r ∧ Dig Y1 T Q0 q r ∧ k = q.toNat ∧ w = wr)
      case atStart => exact ⟨_, _, rfl, rfl, Hd0.out, rfl, rfl⟩
      case round =>
        obtain ⟨q, r, rfl, rfl, hd, hgk, rfl⟩ := hrel
        have q0 : 0 ≤ q := Int.le_trans bQ0 hd.ge
        have q1 := hd.le; have r0 := hd.r0; have r1 := hd.r1
        have hmb := mul_bd q0 q1 y0 y0'
        obtain ⟨m, hm⟩ : ∃ m, m = q * Y0 := ⟨_, rfl⟩
        rw [← hm] at hmb
        have mb0 := hmb.1; have mb1 := hmb.2
        have em : IntKind.u64.wrap (q * Y0) = m := by rw [← hm, IntKind.wrap_u64]; omega
        have Hm := Lib.hid hm; have Hd := Lib.hid hd; have Hg := Lib.hid hgk
        clear hm hd hgk hmb
        by_cases ht : 4294967296 ≤ q ∨ 4294967296 * r + D0 < m
        · have hl := Hd.out.less HS0.out (by rw [← Hm.out]; exact ht)
          have qg : 1 ≤ q := by omega
          rcases (show 4294967296 ≤ q ∨ (q < 4294967296 ∧ 4294967296 * r + D0 < m) by omega) with hq | ⟨hq, hp⟩
          all_goals
            by_cases hr : r + Y1 < 4294967296
            · go_wp2_with fail
              go_roundg (q - 1).toNat
              case measure => have := Hg.out; omega
              case rel => exact ⟨q - 1, r + Y1, rfl, rfl, Hd.out.step HS0.out (by rw [← Hm.out]; exact ht) hr, rfl, rfl⟩
            · have hk : q - 1 = Q0 := Hd.out.break HS0.out bD0 (by rw [← Hm.out]; exact ht) (by omega)
              have Hk := Lib.hid hk; clear hk
              go_wp2_with fail
              go_meet
              exact ⟨r + Y1, by rw [← Hk.out], rfl, rfl⟩
        · have hk : q = Q0 := Hd.out.stop HS0.out (by rw [← Hm.out]; omega)
          have hq : q < 4294967296 := by omega
          have hp : m ≤ 4294967296 * r + D0 := by omega
          have Hk := Lib.hid hk; clear hk
          go_wp2_with fail
          go_meet
          exact ⟨r, by rw [← Hk.out], rfl, rfl⟩
    case rest =>
      obtain ⟨x, rfl, rfl, rfl⟩ := hcut
      go_wp2
      go_ret2
      exact ⟨rfl, rfl⟩

/-! ### What the shifts come to -/
theorem bitLen_lo {x : Nat} (h0 : 0 < x) (h : x < 2 ^ 64) : 1 ≤ Lib.bitLen x ∧ Lib.bitLen x ≤ 64 ∧ 2 ^ (Lib.bitLen x - 1) ≤ x ∧ x < 2 ^ Lib.bitLen x := by
  have hle : Lib.bitLen x ≤ 64 := Lib.bitLen_le x 64 (by omega) h
  have hpos : ∀ z : Nat, 0 < z → z < 2 ^ 64 → 1 ≤ Lib.bitLen z := fun z hz hz' => by rw [Lib.bitLen_half z (by omega) hz']; omega
  have h1 := hpos x h0 h
  refine ⟨h1, hle, ?_, ?_⟩
  · refine Nat.le_of_not_lt fun hlt => ?_
    have := Lib.bitLen_le x (Lib.bitLen x - 1) (by omega) hlt
    omega
  · refine Nat.lt_of_not_le fun hge => ?_
    have h2 := Lib.bitLen_shift (Lib.bitLen x) x hge h
    have h3 : 1 ≤ x / 2 ^ Lib.bitLen x := (Nat.le_div_iff_mul_le (Nat.two_pow_pos _)).2 (by omega)
    have h4 := hpos (x / 2 ^ Lib.bitLen x) h3 (Nat.lt_of_le_of_lt (Nat.div_le_self _ _) h)
    omega

/-- The divisor, shifted: its first bit is the word's first. -/
theorem norm_y {x s : Nat} (h0 : 0 < x) (h : x < 2 ^ 64) (hs : s = 64 - Lib.bitLen x) : 9223372036854775808 ≤ x * 2 ^ s ∧ x * 2 ^ s < 18446744073709551616 := by
  obtain ⟨h1, h2, h3, h4⟩ := bitLen_lo h0 h
  constructor
  · have : 2 ^ (Lib.bitLen x - 1) * 2 ^ s ≤ x * 2 ^ s := Nat.mul_le_mul_right _ h3
    rw [← Nat.pow_add, show Lib.bitLen x - 1 + s = 63 by omega] at this
    omega
  · have : x * 2 ^ s < 2 ^ Lib.bitLen x * 2 ^ s := Nat.mul_lt_mul_of_pos_right h4 (Nat.two_pow_pos _)
    rw [← Nat.pow_add, show Lib.bitLen x + s = 64 by omega] at this
    omega

/-- The dividend, shifted: its upper word, and its lower one. -/
theorem norm_hi {hi lo s : Nat} (hs : s ≤ 63) (hh : hi * 2 ^ s < 18446744073709551616) (hl : lo < 18446744073709551616) :
    (hi * 2 ^ s ||| lo / 2 ^ (64 - s)) = (hi * 18446744073709551616 + lo) * 2 ^ s / 18446744073709551616 ∧
    (hi * 18446744073709551616 + lo) * 2 ^ s = (hi * 2 ^ s ||| lo / 2 ^ (64 - s)) * 18446744073709551616 + lo * 2 ^ s % 18446744073709551616 := by
  have hp : 2 ^ (64 - s) * 2 ^ s = 18446744073709551616 := by rw [← Nat.pow_add, show 64 - s + s = 64 by omega]
  have hlt : lo / 2 ^ (64 - s) < 2 ^ s := (Nat.div_lt_iff_lt_mul (Nat.two_pow_pos _)).2 (by rw [Nat.mul_comm]; omega)
  have hor : (hi * 2 ^ s ||| lo / 2 ^ (64 - s)) = hi * 2 ^ s + lo / 2 ^ (64 - s) := by
    rw [Nat.mul_comm hi, ← Nat.two_pow_add_eq_or_of_lt hlt]
  have hd : lo * 2 ^ s / 18446744073709551616 = lo / 2 ^ (64 - s) := by
    rw [← hp]; exact Nat.mul_div_mul_right _ _ (Nat.two_pow_pos _)
  have e1 := Nat.div_add_mod (lo * 2 ^ s) 18446744073709551616
  rw [hd] at e1
  have e2 : (hi * 18446744073709551616 + lo) * 2 ^ s = hi * 2 ^ s * 18446744073709551616 + lo * 2 ^ s := by rw [Nat.add_mul, Nat.mul_right_comm]
  rw [hor, e2]
  omega

theorem or_u64 {a b : Nat} (ha : a < 18446744073709551616) (hb : b < 18446744073709551616) : bits .or .u64 (a : Int) (b : Int) = ((a ||| b : Nat) : Int) := bits_or_u64_nat a b ha hb

theorem cast_two_pow (n : Nat) : ((2 ^ n : Nat) : Int) = 2 ^ n := by rw [Int.natCast_pow]; rfl

/-- The end: what the digits say of the quotient and the remainder. -/
theorem quot_rem {N y P q z : Int} (hy : 0 < y) (hP : 0 < P) (h : N * P = q * (y * P) + z) (z0 : 0 ≤ z) (z1 : z < y * P) : N / y = q ∧ z / P = N % y := by
  have hz : z = (N - q * y) * P := by
    have : q * (y * P) = q * y * P := by rw [Int.mul_assoc]
    rw [Int.sub_mul]; omega
  have a0 : 0 ≤ N - q * y := by
    refine Int.not_lt.1 fun hlt => ?_
    have : (N - q * y) * P < 0 := Int.mul_neg_of_neg_of_pos hlt hP
    omega
  have a1 : N - q * y < y := by
    refine Int.not_le.1 fun hle => ?_
    have : y * P ≤ (N - q * y) * P := Int.mul_le_mul_of_nonneg_right hle (Int.le_of_lt hP)
    omega
  have hq : N / y = q := div_eq_of hy (by omega) (by rw [Int.add_mul]; omega)
  refine ⟨hq, ?_⟩
  rw [hz, Int.mul_ediv_cancel _ (by omega), Int.emod_def, hq, Int.mul_comm y]

theorem div64_big (hi lo y : Nat) (w : World) (h0 : 0 < hi) (h1 : hi < y) (h2 : y < 18446744073709551616) (h4 : lo < 18446744073709551616) :
    Calls Try.prog 34 #[.int .u64 hi, .int .u64 lo, .int .u64 y] w fun e w' =>
      e = .returned (.tuple #[.int .u64 (((hi : Int) * 18446744073709551616 + lo) / y), .int .u64 (((hi : Int) * 18446744073709551616 + lo) % y)]) ∧ w = w' := by
  obtain ⟨b1, b64, _, _⟩ := bitLen_lo (x := y) (by omega) h2
  obtain ⟨s, hs⟩ : ∃ s, s = 64 - Lib.bitLen y := ⟨_, rfl⟩
  obtain ⟨n1, n2⟩ := norm_y (by omega) h2 hs
  have hP : (0 : Int) < 2 ^ s := Int.pow_pos (by omega)
  have hPN : 0 < 2 ^ s := Nat.two_pow_pos s
  have hh : hi * 2 ^ s < 18446744073709551616 := Nat.lt_of_le_of_lt (Nat.mul_le_mul_right _ (Nat.le_of_lt h1)) n2
  obtain ⟨u1, u2⟩ := norm_hi (by omega : s ≤ 63) hh h4
  have hlq : lo / 2 ^ (64 - s) < 18446744073709551616 := Nat.lt_of_le_of_lt (Nat.div_le_self _ _) h4
  -- the numbers
  obtain ⟨Y, hY⟩ : ∃ Y : Nat, Y = y * 2 ^ s := ⟨_, rfl⟩
  obtain ⟨U, hU⟩ : ∃ U : Nat, U = hi * 2 ^ s ||| lo / 2 ^ (64 - s) := ⟨_, rfl⟩
  obtain ⟨L, hL⟩ : ∃ L : Nat, L = lo * 2 ^ s % 18446744073709551616 := ⟨_, rfl⟩
  rw [← hY] at n1 n2
  rw [← hU, ← hL] at u2
  rw [← hU] at u1
  have hLlt : L < 18446744073709551616 := by rw [hL]; exact Nat.mod_lt _ (by omega)
  have hUY : U < Y := by
    have a : (hi * 18446744073709551616 + lo) * 2 ^ s < Y * 18446744073709551616 := by
      rw [hY, Nat.mul_right_comm]
      exact Nat.mul_lt_mul_of_pos_right (by omega) hPN
    omega
  have hYI : ((y : Int) * 2 ^ ((s : Int)).toNat) = (Y : Int) := by rw [hY, Int.toNat_natCast, Int.natCast_mul, cast_two_pow]
  have hHI : ((hi : Int) * 2 ^ ((s : Int)).toNat) = ((hi * 2 ^ s : Nat) : Int) := by rw [Int.toNat_natCast, Int.natCast_mul, cast_two_pow]
  have hLI : ((lo : Int) * 2 ^ ((s : Int)).toNat) = ((lo * 2 ^ s : Nat) : Int) := by rw [Int.toNat_natCast, Int.natCast_mul, cast_two_pow]
  have hLQ : ((lo : Int) / 2 ^ (64 - (s : Int)).toNat) = ((lo / 2 ^ (64 - s) : Nat) : Int) := by
    rw [show (64 - (s : Int)).toNat = 64 - s by omega, Int.natCast_ediv, cast_two_pow]
  have eY : (Y : Int) = (Y : Int) / 4294967296 * 4294967296 + (Y : Int) % 4294967296 := by omega
  have eL : (L : Int) = (L : Int) / 4294967296 * 4294967296 + (L : Int) % 4294967296 := by omega
  -- the digits
  have bD1 : 0 ≤ (L : Int) / 4294967296 := by omega
  have bD1' : (L : Int) / 4294967296 < 4294967296 := by omega
  have S1 := digSpec_of (Y1 := (Y : Int) / 4294967296) (Y0 := (Y : Int) % 4294967296) (U := U) (D := (L : Int) / 4294967296) (by omega) (by omega) (by omega) (by omega) (by omega) (by omega) bD1 bD1'
  rw [← eY] at S1
  have hl1 := left_mod (U := (U : Int)) (D := (L : Int) / 4294967296) (Y := (Y : Int)) (by omega) (by omega)
  have t0 := Int.emod_nonneg ((U : Int) * 4294967296 + (L : Int) / 4294967296) (show (Y : Int) ≠ 0 by omega)
  have t1 := Int.emod_lt_of_pos ((U : Int) * 4294967296 + (L : Int) / 4294967296) (show 0 < (Y : Int) by omega)
  obtain ⟨T, hT⟩ : ∃ T : Int, T = ((U : Int) * 4294967296 + (L : Int) / 4294967296) % (Y : Int) := ⟨_, rfl⟩
  obtain ⟨Q1, hQ1⟩ : ∃ Q : Int, Q = ((U : Int) * 4294967296 + (L : Int) / 4294967296) / (Y : Int) := ⟨_, rfl⟩
  rw [← hQ1] at S1
  rw [← hT] at t0 t1 hl1
  rw [← hQ1] at hl1
  have S0 := digSpec_of (Y1 := (Y : Int) / 4294967296) (Y0 := (Y : Int) % 4294967296) (U := T) (D := (L : Int) % 4294967296) (by omega) (by omega) (by omega) (by omega) (by omega) (by omega) (by omega) (by omega)
  rw [← eY] at S0
  have hl0 := left_mod (U := T) (D := (L : Int) % 4294967296) (Y := (Y : Int)) (by omega) (by omega)
  have z0 := Int.emod_nonneg (T * 4294967296 + (L : Int) % 4294967296) (show (Y : Int) ≠ 0 by omega)
  have z1 := Int.emod_lt_of_pos (T * 4294967296 + (L : Int) % 4294967296) (show 0 < (Y : Int) by omega)
  obtain ⟨Z, hZ⟩ : ∃ Z : Int, Z = (T * 4294967296 + (L : Int) % 4294967296) % (Y : Int) := ⟨_, rfl⟩
  obtain ⟨Q0, hQ0⟩ : ∃ Q : Int, Q = (T * 4294967296 + (L : Int) % 4294967296) / (Y : Int) := ⟨_, rfl⟩
  rw [← hQ0] at S0
  rw [← hZ] at z0 z1 hl0
  rw [← hQ0] at hl0
  have hdig := digits (by omega) eL hQ1 hT hQ0 hZ
  have hN : ((hi : Int) * 18446744073709551616 + lo) * 2 ^ s = (Q1 * 4294967296 + Q0) * ((y : Int) * 2 ^ s) + Z := by
    have e1 : ((hi : Int) * 18446744073709551616 + lo) * 2 ^ s = (U : Int) * 18446744073709551616 + L := by
      have := congrArg (fun n : Nat => (n : Int)) u2
      simp only [Int.natCast_mul, Int.natCast_add, cast_two_pow] at this
      exact this
    rw [e1, hdig, ← hYI, Int.toNat_natCast]
  have hYP : (y : Int) * 2 ^ s = (Y : Int) := by rw [← hYI, Int.toNat_natCast]
  obtain ⟨r1, r2⟩ := quot_rem (by omega) hP hN z0 (by omega)
  rw [r1, ← r2]
  have st1 := Dig.start S1 (by omega) (by omega) (by omega)
  have st0 := Dig.start S0 t0 (by omega) (by omega)
  have m1 : 0 ≤ (U : Int) / ((Y : Int) / 4294967296) * ((Y : Int) / 4294967296) ∧ (U : Int) / ((Y : Int) / 4294967296) * ((Y : Int) / 4294967296) ≤ U :=
    ⟨Int.mul_nonneg (Int.ediv_nonneg (by omega) (by omega)) (by omega), Int.ediv_mul_le _ (by omega)⟩
  have m0 : 0 ≤ T / ((Y : Int) / 4294967296) * ((Y : Int) / 4294967296) ∧ T / ((Y : Int) / 4294967296) * ((Y : Int) / 4294967296) ≤ T :=
    ⟨Int.mul_nonneg (Int.ediv_nonneg (by omega) (by omega)) (by omega), Int.ediv_mul_le _ (by omega)⟩
  obtain ⟨M1, hM1⟩ : ∃ M : Int, M = (U : Int) / ((Y : Int) / 4294967296) * ((Y : Int) / 4294967296) := ⟨_, rfl⟩
  obtain ⟨M0, hM0⟩ : ∃ M : Int, M = T / ((Y : Int) / 4294967296) * ((Y : Int) / 4294967296) := ⟨_, rfl⟩
  rw [← hM1] at m1 st1
  rw [← hM0] at m0 st0
  have key := div64_steps (hi : Int) (lo : Int) (y : Int) w (by omega) (by omega) (by omega) (by omega) (by omega) (beq_eq_false_iff_ne.2 (by omega)) (decide_eq_false (by omega)) (beq_eq_false_iff_ne.2 (by omega)) (s : Int) (by omega) (by omega)
    (fun w => (lead64_any (y : Int) w (by omega) (by omega)).mono (by rintro e w' ⟨rfl, rfl⟩; exact ⟨by rw [Int.toNat_natCast, hs, Int.natCast_sub b64]; rfl, rfl⟩))
    (Y : Int) ((Y : Int) / 4294967296) ((Y : Int) % 4294967296) (U : Int) (L : Int) ((L : Int) / 4294967296) ((L : Int) % 4294967296) Q1 T Q0 Z
    (by rw [hYI, wrapN _ n2]) (by omega) rfl (by omega) (by omega) (by rw [maskN _ n2]; omega)
    (by rw [hHI, wrapN _ hh, hLQ, or_u64 hh hlq, ← hU]) (by omega) (by omega) (by rw [hLI, wrapM, ← hL]) (by omega) (by omega) rfl (by rw [maskN _ hLlt]; omega) (by omega) (by omega) (by omega) (by omega)
    M1 (by rw [← hM1, IntKind.wrap_u64]; omega) m1.1 m1.2 S1 st1 S1.q0 S1.q1 (by simp only [IntKind.wrap_u64]; exact hl1) t0 (by omega)
    M0 (by rw [← hM0, IntKind.wrap_u64]; omega) m0.1 m0.2 S0 st0 S0.q0 S0.q1 (by simp only [IntKind.wrap_u64]; exact hl0) z0 (by omega)
  rw [Int.toNat_natCast] at key
  exact key

theorem div64_small (lo y : Int) (w : World) (h1 : 0 < y) (h2 : y ≤ 18446744073709551615) (h3 : 0 ≤ lo) (h4 : lo ≤ 18446744073709551615) :
    Calls Try.prog 34 #[.int .u64 0, .int .u64 lo, .int .u64 y] w fun e w' => e = .returned (.tuple #[.int .u64 (lo / y), .int .u64 (lo % y)]) ∧ ∃ n, w' = w.drewN n := by
  have b1 : (y == 0) = false := beq_eq_false_iff_ne.2 (by omega)
  have b2 : decide (y ≤ 0) = false := decide_eq_false (by omega)
  go_enter Try.func34, Try.ntmps34
  go_wp2
  go_quiet (fail)
  go_wp2
  go_ret2
  exact ⟨rfl, _, rfl⟩

/-- Div64: the quotient and the remainder, for every divisor greater than the upper word. -/
theorem div64_any (hi lo y : Int) (w : World) (h0 : 0 ≤ hi) (h1 : hi < y) (h2 : y ≤ 18446744073709551615) (h3 : 0 ≤ lo) (h4 : lo ≤ 18446744073709551615) :
    Calls Try.prog 34 #[.int .u64 hi, .int .u64 lo, .int .u64 y] w fun e w' =>
      e = .returned (.tuple #[.int .u64 ((hi * 18446744073709551616 + lo) / y), .int .u64 ((hi * 18446744073709551616 + lo) % y)]) ∧ ∃ n, w' = w.drewN n := by
  by_cases h : hi = 0
  · subst h
    refine (div64_small lo y w h1 h2 h3 h4).mono ?_
    rintro e w' ⟨rfl, hn⟩
    exact ⟨by rw [Int.zero_mul, Int.zero_add], hn⟩
  · obtain ⟨a, rfl⟩ := Int.eq_ofNat_of_zero_le h0
    obtain ⟨b, rfl⟩ := Int.eq_ofNat_of_zero_le h3
    obtain ⟨c, rfl⟩ := Int.eq_ofNat_of_zero_le (show 0 ≤ y by omega)
    refine (div64_big a b c w (by omega) (by omega) (by omega) (by omega)).mono ?_
    rintro e w' ⟨rfl, rfl⟩
    exact ⟨rfl, 0, rfl⟩

end Go.Proofs.Ythjoflhjiaadhaa.Div
