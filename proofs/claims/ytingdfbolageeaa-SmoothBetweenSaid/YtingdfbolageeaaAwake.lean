/-
  The walks of awake, SmoothMeans, SmoothWaits.
-/
import Derived.Test.YtingdfbolageeaaBest
import Derived.Below
set_option linter.unusedVariables false
namespace Go.Proofs.Ytingdfbolageeaa.Awake
open Go.RowKit Go.Proofs.Ytingdfbolageeaa.Fl Go.Proofs.Ytingdfbolageeaa.Val Go.Proofs.Ytingdfbolageeaa.Rnd Go.Proofs.Ytingdfbolageeaa.Mn Go.Proofs.Ytingdfbolageeaa.Bef Go.Proofs.Ytingdfbolageeaa.Best Go.Proofs.Ytingdfbolageeaa.WaitW

theorem below_drewN {B : Nat} {a w : World} (h : Below B a w) (n : Nat) : Below B a (w.drewN n) := ⟨h.os, h.tape, h.output, h.size, h.block⟩

theorem cells4 (w : World) (T : TypeId) (a b c d : Nat) : ∀ j, j < 4 → (w.alloc (Obj.cells #[.float .f64 a, .float .f64 b, .float .f64 c, .float .f64 d] T)).cell? ⟨w.heap.size, 0 + j, none⟩ = some (.float .f64 (at' [a, b, c, d] j)) := by
  intro j hj
  match j, hj with
  | 0, _ => simp [World.cell?_alloc_new, at']
  | 1, _ => simp [World.cell?_alloc_new, at']
  | 2, _ => simp [World.cell?_alloc_new, at']
  | 3, _ => simp [World.cell?_alloc_new, at']

set_option maxHeartbeats 2000000 in
theorem awake_any (w : World) : Calls Try.prog 10 #[] w fun e w' => e = .returned (.bool true) ∧ Below w.heap.size w w' := by
  have e1 : meanF 4621819117588971520 4626322717216342016 4598175219545276416 = 4623226492472524800 := by decide +kernel
  have o1 : (FloatKind.f64.format.order 4623226492472524800 4623226492472524800 == some .eq) = true := by decide +kernel
  have e2 : beforeF 4607182418800017408 NAN = true := by decide +kernel
  have e3 : bestK [NAN, 4613937818241073152, NZERO, 0] 4 = 2 := by decide +kernel
  have e4 : waitF 4617315517961601024 4607632778762754458 = 10 := by decide +kernel
  replace e1 := Lib.hid e1; replace e2 := Lib.hid e2; replace e3 := Lib.hid e3; replace e4 := Lib.hid e4
  go_enter Try.func10, Try.ntmps10
  go_wp2_with fail
  refine (mean_walk _ _ _ _).mono ?_; rintro e w1 ⟨rfl, n1, hw1⟩; rw [e1.out]
  have b1 : Below w.heap.size w w1 := by rw [hw1]; exact below_drewN (Below.refl _ _) _
  clear hw1; replace b1 := Lib.hid b1
  go_wp2_with fail
  refine (nan_walk _).mono ?_; rintro e w2 ⟨rfl, rfl⟩
  go_wp2_with fail
  refine (before_walk _ _ _).mono ?_; rintro e w2 ⟨rfl, rfl⟩; rw [e2.out]
  go_wp2_with fail
  refine (nan_walk _).mono ?_; rintro e w2 ⟨rfl, rfl⟩
  go_wp2_with fail
  refine (zero_walk _).mono ?_; rintro e w2 ⟨rfl, rfl⟩
  go_wp2_with fail
  refine (best_pos _ 0 4 4 [NAN, 4613937818241073152, NZERO, 0] _ (by decide) ?_).mono ?_
  · exact cells4 _ _ _ _ _ _
  rintro e w2 ⟨rfl, hw2⟩
  rw [e3.out]
  have b2 : Below w.heap.size w w2 := by rw [← hw2]; exact b1.out.alloc b1.out.size _
  clear hw2; replace b2 := Lib.hid b2
  go_wp2_with fail
  refine (wait_walk _ _ _).mono ?_; rintro e w3 ⟨rfl, n3, rfl⟩; rw [e4.out]
  go_wp2_with fail
  go_ret
  exact ⟨rfl, below_drewN b2.out _⟩

theorem absF_eq (d : Nat) : absF d = rg d := by
  unfold absF
  have h : bits .andNot .u64 (d : Int) 9223372036854775808 = ((d % 2 ^ 63 : Nat) : Int) := by
    show IntKind.u64.wrap ((BitVec.ofInt 64 (d : Int) &&& ~~~BitVec.ofInt 64 ((9223372036854775808 : Nat) : Int)).toNat : Int) = _
    rw [BitVec.toNat_and, BitVec.toNat_not, BitVec.ofInt_natCast, BitVec.ofInt_natCast, BitVec.toNat_ofNat, BitVec.toNat_ofNat, IntKind.wrap_u64]
    rw [show 2 ^ 64 - 1 - 9223372036854775808 % 2 ^ 64 = 2 ^ 63 - 1 by omega, Nat.and_two_pow_sub_one_eq_mod]
    omega
  rw [h, Int.toNat_natCast]; rfl
theorem absF_isN (d : Nat) : isN (absF d) = isN d := by
  rw [absF_eq, isN_rg, isN_rg]
  unfold rg
  rw [Nat.mod_mod]
theorem absF_E (d : Nat) : E (absF d) = (rv (rg d) : Int) := by
  rw [absF_eq]
  have h : rg d < 2 ^ 63 := Nat.mod_lt _ (by omega)
  have h1 : rg (rg d) = rg d := by show rg d % 2 ^ 63 = rg d; omega
  have h2 : sg (rg d) = false := by
    show (rg d / 2 ^ 63 % 2 == 1) = false
    rw [show rg d / 2 ^ 63 = 0 by omega]; rfl
  unfold E
  rw [h1, h2]; rfl

theorem same_refl (a : Nat) : sameF a a = true := by unfold sameF; simp
theorem same_nan {a b : Nat} (ha : isN a = true) (hb : isN b = true) : sameF a b = true := by unfold sameF; simp [ha, hb]
/-- Two spreads are the same. -/
theorem spread_same {old mean now part r1 r2 : Nat} (h1 : SpreadIs old mean now part r1) (h2 : SpreadIs old mean now part r2) : sameF r1 r2 = true := by
  obtain ⟨d1, i1, rfl⟩ := h1
  obtain ⟨d2, i2, rfl⟩ := h2
  rcases i1 with i1 | ⟨i1, n1⟩
  · rcases i2 with i2 | ⟨i2, n2⟩
    · rw [i1] at i2; injection i2 with e; subst e; exact same_refl _
    · rw [i1] at i2; cases i2
  · rcases i2 with i2 | ⟨i2, n2⟩
    · rw [i1] at i2; cases i2
    · have a1 : ∀ d, isN d = true → isN (absF d) = true := by
        intro d h; rw [absF_isN]; exact h
      unfold meanF
      by_cases ho : isN old = true
      · rw [if_pos ho, if_pos ho]; exact same_nan (a1 _ n1) (a1 _ n2)
      · rw [if_neg ho, if_neg ho, if_pos (a1 _ n1), if_pos (a1 _ n2)]; exact same_refl _

theorem smoothMeans_walk (old mean now part : Nat) (w : World) : Calls Try.prog 7 #[.float .f64 old, .float .f64 mean, .float .f64 now, .float .f64 part] w fun e w' => e = .returned (.bool true) ∧ Below w.heap.size w w' := by
  go_enter Try.func7, Try.ntmps7
  go_wp2_with fail
  refine (mean_walk _ _ _ _).mono ?_; rintro e w1 ⟨rfl, n1, rfl⟩
  go_wp2_with fail
  refine (rmean_walk _ _ _ _).mono ?_; rintro e w1 ⟨rfl, n2, rfl⟩
  go_wp2_with fail
  refine (same_walk _ _ _).mono ?_; rintro e w1 ⟨rfl, rfl⟩; rw [same_refl]
  go_wp2_with fail
  refine (spread_walk _ _ _ _ _).mono ?_; rintro e w1 ⟨⟨r1, rfl, h1⟩, n3, rfl⟩
  replace h1 := Lib.hid h1
  go_wp2_with fail
  refine (rspread_walk _ _ _ _ _).mono ?_; rintro e w1 ⟨⟨r2, rfl, h2⟩, n4, rfl⟩
  replace h2 := Lib.hid h2
  go_wp2_with fail
  refine (same_walk _ _ _).mono ?_; rintro e w1 ⟨rfl, rfl⟩; rw [spread_same h1.out h2.out]
  go_wp2_with fail
  refine (awake_any _).mono ?_; rintro e w1 ⟨rfl, hb⟩; replace hb := Lib.hid hb
  go_wp2_with fail
  go_ret
  exact ⟨rfl, (below_drewN (Below.refl _ w) _).trans hb.out⟩

theorem smoothWaits_walk (mean spread : Nat) (w : World) : Calls Try.prog 5 #[.float .f64 mean, .float .f64 spread] w fun e w' => e = .returned (.bool true) ∧ Below w.heap.size w w' := by
  have hb : (waitF mean spread == waitF mean spread) = true := by simp
  go_enter Try.func5, Try.ntmps5
  go_wp2_with fail
  refine (wait_walk _ _ _).mono ?_; rintro e w1 ⟨rfl, n1, rfl⟩
  go_wp2_with fail
  refine (rwait_walk _ _ _).mono ?_; rintro e w1 ⟨rfl, n2, rfl⟩
  go_wp2_with fail
  refine (awake_any _).mono ?_; rintro e w1 ⟨rfl, hb⟩; replace hb := Lib.hid hb
  go_wp2_with fail
  go_ret
  exact ⟨rfl, (below_drewN (Below.refl _ w) _).trans hb.out⟩

end Go.Proofs.Ytingdfbolageeaa.Awake
