/-
  The walk of SmoothKnown: the chapter's examples.
-/
import Derived.Test.YtingdfbolageeaaAwake
set_option linter.unusedVariables false
namespace Go.Proofs.Ytingdfbolageeaa.Known
open Go.RowKit Go.Proofs.Ytingdfbolageeaa.Fl Go.Proofs.Ytingdfbolageeaa.Val Go.Proofs.Ytingdfbolageeaa.Rnd Go.Proofs.Ytingdfbolageeaa.Mn Go.Proofs.Ytingdfbolageeaa.Bef Go.Proofs.Ytingdfbolageeaa.Best Go.Proofs.Ytingdfbolageeaa.WaitW Go.Proofs.Ytingdfbolageeaa.Awake

theorem cells2 (w : World) (T : TypeId) (a b : Nat) : ∀ j, j < 2 → (w.alloc (Obj.cells #[.float .f64 a, .float .f64 b] T)).cell? ⟨w.heap.size, 0 + j, none⟩ = some (.float .f64 (at' [a, b] j)) := by
  intro j hj
  match j, hj with
  | 0, _ => simp [World.cell?_alloc_new, at']
  | 1, _ => simp [World.cell?_alloc_new, at']

theorem spread_is {old mean now part r D R : Nat} (h : SpreadIs old mean now part r) (hD : floatBits .sub .f64 now mean = some D) (hR : meanF old (absF D) part = R) : r = R := by
  obtain ⟨d, hd, rfl⟩ := h
  rcases hd with hd | ⟨hd, _⟩
  · rw [hd] at hD; injection hD with e; subst e; exact hR
  · rw [hd] at hD; cases hD

set_option maxHeartbeats 4000000 in
set_option maxRecDepth 100000 in
theorem known_any (w : World) : Calls Try.prog 8 #[] w fun e w' => e = .returned (.bool true) ∧ Below w.heap.size w w' := by
  have e1 : meanF NAN 4619567317775286272 4602678819172646912 = 4619567317775286272 := by decide +kernel
  have e2 : meanF 4619567317775286272 NAN 4602678819172646912 = 4619567317775286272 := by decide +kernel
  have e3 : meanF INFB INFB 4602678819172646912 = INFB := by decide +kernel
  have s1 : ∀ r, SpreadIs 4607182418800017408 4621819117588971520 4616189618054758400 4602678819172646912 r → r = 4615063718147915776 := fun r h =>
    spread_is h (D := 13841813454723219456) (by decide +kernel) (by decide +kernel)
  have s2 : ∀ r, SpreadIs NAN 4621819117588971520 4624070917402656768 4602678819172646912 r → r = 4616189618054758400 := fun r h =>
    spread_is h (D := 4616189618054758400) (by decide +kernel) (by decide +kernel)
  have o1 : (FloatKind.f64.format.order 4619567317775286272 4619567317775286272 == some .eq) = true := by decide +kernel
  have o2 : (FloatKind.f64.format.order INFB INFB == some .eq) = true := by decide +kernel
  have o3 : (FloatKind.f64.format.order 4615063718147915776 4615063718147915776 == some .eq) = true := by decide +kernel
  have o4 : (FloatKind.f64.format.order 4616189618054758400 4616189618054758400 == some .eq) = true := by decide +kernel
  replace e1 := Lib.hid e1; replace e2 := Lib.hid e2; replace e3 := Lib.hid e3; replace s1 := Lib.hid s1; replace s2 := Lib.hid s2
  have hneg : ∀ w, (Op.unary .neg (.float .f64 INFB)).run Try.prog w = .ok (.float .f64 18442240474082181120) w := fun w => by
    have e : Op.unary .neg (.float .f64 INFB) = pure (.float .f64 (Op.negFloat .f64 INFB)) := rfl
    have e2 : Op.negFloat .f64 INFB = 18442240474082181120 := by decide +kernel
    rw [e, e2]; rfl
  go_enter Try.func8, Try.ntmps8
  go_wp2_with fail
  refine (nan_walk _).mono ?_; rintro e w1 ⟨rfl, rfl⟩
  go_wp2_with fail
  refine (mean_walk _ _ _ _).mono ?_; rintro e w1 ⟨rfl, n1, rfl⟩; rw [e1.out]
  go_wp2_with fail
  refine (nan_walk _).mono ?_; rintro e w1 ⟨rfl, rfl⟩
  go_wp2_with fail
  refine (mean_walk _ _ _ _).mono ?_; rintro e w1 ⟨rfl, n2, rfl⟩; rw [e2.out]
  go_wp2_with fail
  refine (inf_walk _).mono ?_; rintro e w1 ⟨rfl, rfl⟩
  go_wp2_with fail
  refine (inf_walk _).mono ?_; rintro e w1 ⟨rfl, rfl⟩
  go_wp2_with fail
  refine (mean_walk _ _ _ _).mono ?_; rintro e w1 ⟨rfl, n3, rfl⟩; rw [e3.out]
  go_wp2_with fail
  refine (inf_walk _).mono ?_; rintro e w1 ⟨rfl, rfl⟩
  go_wp2_with fail
  refine (spread_walk _ _ _ _ _).mono ?_; rintro e w1 ⟨⟨r, rfl, hr⟩, n4, rfl⟩; obtain rfl := s1.out _ hr; clear hr
  go_wp2_with fail
  refine (nan_walk _).mono ?_; rintro e w1 ⟨rfl, rfl⟩
  go_wp2_with fail
  refine (spread_walk _ _ _ _ _).mono ?_; rintro e w1 ⟨⟨r, rfl, hr⟩, n4, rfl⟩; obtain rfl := s2.out _ hr; clear hr
  clear e1 e2 e3 s1 s2
  have e1 : beforeF NZERO 0 = false := by decide +kernel
  have e2 : beforeF NAN NAN = false := by decide +kernel
  have e3 : beforeF 18442240474082181120 0 = true := by decide +kernel
  have e4 : bestK [NAN, NAN] 2 = 0 := by decide +kernel
  replace e1 := Lib.hid e1; replace e2 := Lib.hid e2; replace e3 := Lib.hid e3; replace e4 := Lib.hid e4
  go_wp2_with fail
  refine (zero_walk _).mono ?_; rintro e w1 ⟨rfl, rfl⟩
  go_wp2_with fail
  refine (before_walk _ _ _).mono ?_; rintro e w2 ⟨rfl, rfl⟩; rw [e1.out]
  go_wp2_with fail
  refine (nan_walk _).mono ?_; rintro e w1 ⟨rfl, rfl⟩
  go_wp2_with fail
  refine (nan_walk _).mono ?_; rintro e w1 ⟨rfl, rfl⟩
  go_wp2_with fail
  refine (before_walk _ _ _).mono ?_; rintro e w2 ⟨rfl, rfl⟩; rw [e2.out]
  go_wp2_with fail
  refine (inf_walk _).mono ?_; rintro e w1 ⟨rfl, rfl⟩
  go_wp2_with fail
  refine (before_walk _ _ _).mono ?_; rintro e w2 ⟨rfl, rfl⟩; rw [e3.out]
  go_wp2_with fail
  refine (nan_walk _).mono ?_; rintro e w1 ⟨rfl, rfl⟩
  go_wp2_with fail
  refine (nan_walk _).mono ?_; rintro e w1 ⟨rfl, rfl⟩
  go_wp2_with fail
  refine (best_pos _ 0 2 2 [NAN, NAN] _ (by decide) ?_).mono ?_
  · exact cells2 _ _ _ _
  rintro e w2 ⟨rfl, hw2⟩
  rw [e4.out]
  have b2 : Below w.heap.size w w2 := by rw [← hw2]; exact (below_drewN (Below.refl _ w) _).alloc (Nat.le_refl _) _
  clear hw2; replace b2 := Lib.hid b2
  go_wp2_with fail
  refine (best_nil _ _ _).mono ?_; rintro e w3 ⟨rfl, rfl⟩
  clear e1 e2 e3 e4
  have e1 : waitF 18442240474082181120 0 = 2 := by decide +kernel
  have e2 : waitF NAN 0 = 60 := by decide +kernel
  have e3 : waitF 4633711435354996736 0 = 60 := by decide +kernel
  replace e1 := Lib.hid e1; replace e2 := Lib.hid e2; replace e3 := Lib.hid e3
  go_wp2_with fail
  refine (awake_any _).mono ?_; rintro e w3 ⟨rfl, b3⟩
  have b3 : Below w.heap.size w w3 := b2.out.trans (b3.mono b2.out.size)
  clear b2; replace b3 := Lib.hid b3
  go_wp2_with fail
  refine (inf_walk _).mono ?_; rintro e w1 ⟨rfl, rfl⟩
  go_wp2_with fail
  refine (wait_walk _ _ _).mono ?_; rintro e w4 ⟨rfl, n4, rfl⟩; rw [e1.out]
  go_wp2_with fail
  refine (nan_walk _).mono ?_; rintro e w1 ⟨rfl, rfl⟩
  go_wp2_with fail
  refine (wait_walk _ _ _).mono ?_; rintro e w4 ⟨rfl, n5, rfl⟩; rw [e2.out]
  go_wp2_with fail
  refine (wait_walk _ _ _).mono ?_; rintro e w4 ⟨rfl, n6, rfl⟩; rw [e3.out]
  go_wp2_with fail
  go_ret
  exact ⟨rfl, below_drewN b3.out _⟩

end Go.Proofs.Ytingdfbolageeaa.Known
