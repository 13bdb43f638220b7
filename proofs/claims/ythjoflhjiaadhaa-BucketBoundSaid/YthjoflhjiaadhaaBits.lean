/-
  The walks of math/bits: Mul64, Len64, LeadingZeros64: each returns what its documentation says; the world is as it was.
-/
import Derived.Test.YthjoflhjiaadhaaProg
import Derived.Test.YthjoflhjiaadhaaNum
import Derived.WalkKit
import Derived.WalkSpells
import Derived.WalkLawsBesides
import Derived.BigQuiet
import Derived.Deep.QuietTactic
import Derived.Lib.Mul64
import Derived.Lib.BitFns
import Derived.Laws.Bits64b
import Derived.Lib.Hide
namespace Go.Proofs.Ythjoflhjiaadhaa.Bits
open Go.RowKit

theorem maskN (a : Nat) (ha : a < 18446744073709551616) : bits .and .u64 (a : Int) 4294967295 = ((a % 4294967296 : Nat) : Int) := by
  have h := bits_and_u64_nat a 4294967295 ha (by omega)
  have e : a &&& 4294967295 = a % 4294967296 := Nat.and_two_pow_sub_one_eq_mod a 32
  rw [e] at h
  exact h
theorem divN (a : Nat) : (a : Int) / 4294967296 = ((a / 4294967296 : Nat) : Int) := by omega
theorem mulN (a b : Nat) : (a : Int) * (b : Int) = ((a * b : Nat) : Int) := (Int.natCast_mul a b).symm
theorem addN (a b : Nat) : (a : Int) + (b : Int) = ((a + b : Nat) : Int) := (Int.natCast_add a b).symm
theorem wrapN (a : Nat) (ha : a < 18446744073709551616) : IntKind.u64.wrap (a : Int) = (a : Int) := by rw [IntKind.wrap_u64]; omega
theorem wrapM (a : Nat) : IntKind.u64.wrap (a : Int) = ((a % 18446744073709551616 : Nat) : Int) := by rw [IntKind.wrap_u64]; omega

set_option maxHeartbeats 1000000 in
theorem mul64_nat (x y : Nat) (hx : x < 18446744073709551616) (hy : y < 18446744073709551616) (w : World) :
    Calls Try.prog 33 #[.int .u64 x, .int .u64 y] w fun e w' => e = .returned (.tuple #[.int .u64 ((x * y / 18446744073709551616 : Nat) : Int), .int .u64 ((x * y % 18446744073709551616 : Nat) : Int)]) ∧ w = w' := by
  obtain ⟨bd, bt, bw, hhi⟩ := Lib.mul64_hi x y hx hy
  have ba := Lib.half_mul_le (a := x / 4294967296) (b := y / 4294967296) (by omega) (by omega)
  have bb := Lib.half_mul_le (a := x / 4294967296) (b := y % 4294967296) (by omega) (by omega)
  have bc := Lib.half_mul_le (a := x % 4294967296) (b := y / 4294967296) (by omega) (by omega)
  have ba' : x / 4294967296 * (y / 4294967296) < 18446744073709551616 := by omega
  have bb' : x / 4294967296 * (y % 4294967296) < 18446744073709551616 := by omega
  have bc' : x % 4294967296 * (y / 4294967296) < 18446744073709551616 := by omega
  have bh1 : x / 4294967296 * (y / 4294967296) + (x / 4294967296 * (y % 4294967296) + x % 4294967296 * (y % 4294967296) / 4294967296) / 4294967296 < 18446744073709551616 := by omega
  have bh : x / 4294967296 * (y / 4294967296) + (x / 4294967296 * (y % 4294967296) + x % 4294967296 * (y % 4294967296) / 4294967296) / 4294967296 + ((x / 4294967296 * (y % 4294967296) + x % 4294967296 * (y % 4294967296) / 4294967296) % 4294967296 + x % 4294967296 * (y / 4294967296)) / 4294967296 < 18446744073709551616 := by omega
  go_enter Try.func33, Try.ntmps33
  go_wp2
  simp only [maskN x hx, maskN y hy, divN, mulN, addN, wrapN _ bd, wrapN _ bb', wrapN _ bt, maskN _ bt, wrapN _ bc', wrapN _ bw, wrapN _ ba', wrapN _ bh1, wrapN _ bh, wrapM (x * y)]
  rw [hhi]
  go_ret2
  exact ⟨rfl, rfl⟩

theorem mul64_any (x y : Int) (w : World) (h0 : 0 ≤ x) (h1 : x < 18446744073709551616) (h2 : 0 ≤ y) (h3 : y < 18446744073709551616) :
    Calls Try.prog 33 #[.int .u64 x, .int .u64 y] w fun e w' => e = .returned (.tuple #[.int .u64 (x * y / 18446744073709551616), .int .u64 (x * y % 18446744073709551616)]) ∧ w = w' := by
  obtain ⟨a, rfl⟩ := Int.eq_ofNat_of_zero_le h0
  obtain ⟨b, rfl⟩ := Int.eq_ofNat_of_zero_le h2
  refine (mul64_nat a b (by omega) (by omega) w).mono ?_
  rintro e w' ⟨rfl, rfl⟩
  exact ⟨by simp [Int.natCast_mul], rfl⟩

theorem l8 (i : Nat) (h : i < Lib.len8tab.size) : (Lib.len8tab[i]).toNat = Lib.bitLen i := by
  have e := Lib.len8_eq ⟨i, by rw [Lib.len8tab_size] at h; exact h⟩
  unfold Lib.len8 at e
  rw [Int.toNat_natCast, getElem?_pos Lib.len8tab i h] at e
  simp only [Option.getD_some] at e
  omega
theorem len_fin (x : Int) (k i : Nat) (n : Int) (hk : Lib.bitLen x.toNat = k + Lib.bitLen i) (hi : i < 256) (hn : n = k) (h64 : k ≤ 56) : wrap64 (n + wrap64 ↑(Lib.bitLen i)) = ↑(Lib.bitLen x.toNat) := by
  have l := Lib.bitLen_le8 ⟨i, hi⟩
  simp only at l
  unfold wrap64; omega
theorem len_fin0 (x : Int) (hi : x.toNat < 256) : wrap64 (wrap64 ↑(Lib.bitLen x.toNat)) = ↑(Lib.bitLen x.toNat) := by
  have l := Lib.bitLen_le8 ⟨x.toNat, hi⟩
  simp only at l
  unfold wrap64; omega
theorem sh_of {x i k : Nat} (h : Lib.bitLen x = k + Lib.bitLen i) {j : Nat} (e : j = i) : Lib.bitLen x = k + Lib.bitLen j := by rw [e]; exact h

set_option maxHeartbeats 4000000 in
set_option maxRecDepth 100000 in
theorem len64_any (x : Int) (w : World) (h0 : 0 ≤ x) (h1 : x ≤ 18446744073709551615) :
    Calls Try.prog 36 #[.int .u64 x] w fun e w' => e = .returned (.int .i64 (Lib.bitLen x.toNat)) ∧ w = w' := by
  have hs := Lib.len8tab_size
  go_enter Try.func36, Try.ntmps36
  go_wp2
  all_goals (go_ret; refine ⟨congrArg Ending.returned (congrArg (Value.int IntKind.i64) ?_), rfl⟩; simp only [l8])
  · exact len_fin x 56 _ _ (sh_of (Lib.bitLen_shift56 x.toNat (by omega) (by omega)) (by omega)) (by omega) rfl (by omega)
  · exact len_fin x 48 _ _ (sh_of (Lib.bitLen_shift48 x.toNat (by omega) (by omega)) (by omega)) (by omega) rfl (by omega)
  · exact len_fin x 40 _ _ (sh_of (Lib.bitLen_shift40 x.toNat (by omega) (by omega)) (by omega)) (by omega) rfl (by omega)
  · exact len_fin x 32 _ _ (sh_of (Lib.bitLen_shift32 x.toNat (by omega) (by omega)) (by omega)) (by omega) rfl (by omega)
  · exact len_fin x 24 _ _ (sh_of (Lib.bitLen_shift24 x.toNat (by omega) (by omega)) (by omega)) (by omega) rfl (by omega)
  · exact len_fin x 16 _ _ (sh_of (Lib.bitLen_shift16 x.toNat (by omega) (by omega)) (by omega)) (by omega) rfl (by omega)
  · exact len_fin x 8 _ _ (sh_of (Lib.bitLen_shift8 x.toNat (by omega) (by omega)) (by omega)) (by omega) rfl (by omega)
  · exact len_fin0 x (by omega)

theorem lead64_any (x : Int) (w : World) (h0 : 0 ≤ x) (h1 : x ≤ 18446744073709551615) :
    Calls Try.prog 35 #[.int .u64 x] w fun e w' => e = .returned (.int .i64 (64 - (Lib.bitLen x.toNat : Int))) ∧ w = w' := by
  have hb := Lib.bitLen_le x.toNat 64 (by omega) (by omega)
  go_enter Try.func35, Try.ntmps35
  go_wp2_with (go_at_call 36; refine (len64_any _ _ h0 h1).mono ?_; rintro e w' ⟨rfl, rfl⟩)
  go_ret
  exact ⟨rfl, rfl⟩

end Go.Proofs.Ythjoflhjiaadhaa.Bits
