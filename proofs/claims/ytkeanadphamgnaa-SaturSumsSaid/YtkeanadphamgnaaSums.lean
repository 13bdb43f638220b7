/-
  The walks of the two Sums, over a slice of any length, and of SaturKnown: the chapter's examples.
-/
import Derived.Test.YtkeanadphamgnaaLaws
set_option linter.unusedVariables false
namespace Go.Proofs.Ytkeanadphamgnaa.Sums
open Go.RowKit Go.Proofs.Ytkeanadphamgnaa.Num Go.Proofs.Ytkeanadphamgnaa.Sat

theorem sumI_snoc (l : List Int) (x : Int) : sumI (l ++ [x]) = addI (sumI l) x := by unfold sumI; rw [List.foldl_append]; rfl
theorem take_snoc (zs : List Int) (k : Nat) (h : k < zs.length) : zs.take (k + 1) = zs.take k ++ [zs.getD k 0] := by
  rw [List.take_succ_eq_append_getElem h, List.getD_eq_getElem?_getD, List.getElem?_eq_getElem h]; rfl
theorem sumI_take (zs : List Int) (k : Nat) (h : k < zs.length) : addI (sumI (zs.take k)) (zs.getD k 0) = sumI (zs.take (k + 1)) := by
  rw [take_snoc zs k h, sumI_snoc]

set_option maxHeartbeats 1000000 in
theorem sum_nil (ao : Option Addr) (cap : Nat) (w : World) :
    Calls Try.prog 22 #[.slice ao 0 cap] w fun e w' => e = .returned (.int .i64 0) ∧ w = w' := by
  go_enter Try.func22, Try.ntmps22
  go_wp2_with fail
  refine wp_loop_rounds 1 ?_
  rw [rounds_succ]
  go_wp2_with fail
  go_ret
  exact ⟨rfl, rfl⟩

set_option maxHeartbeats 1000000 in
theorem sum_pos (b off len cap : Nat) (zs : List Int) (w : World) (hz : len ≤ zs.length) (hl : len ≤ 9223372036854775807) (hc : ∀ j, j < len → w.cell? ⟨b, off + j, none⟩ = some (.int .i64 (zs.getD j 0))) :
    Calls Try.prog 22 #[.slice (some ⟨b, off, none⟩) len cap] w fun e w' => e = .returned (.int .i64 (sumI (zs.take len))) ∧ w = w' := by
  go_enter Try.func22, Try.ntmps22
  go_wp2_with fail
  go_loopg [3, 5, 8] len (fun g v3 _ v8 wr => ∃ k : Nat, k ≤ len ∧ g = len - k ∧ v8 = .int .i64 k ∧ v3 = .int .i64 (sumI (zs.take k)) ∧ w = wr)
  case atStart => exact ⟨0, Nat.zero_le _, rfl, rfl, rfl, rfl⟩
  case round =>
    obtain ⟨k, hk, hg, rfl, rfl, rfl⟩ := hrel
    by_cases hlt : k < len
    · have hcell := hc k hlt
      have hs := Lib.hid (sumI_take zs k (by omega))
      have Hg := Lib.hid hg; clear hg hc
      go_wp2_with (go_at_call 11; refine (add_any _ _ _).mono ?_; rintro e w' ⟨rfl, rfl⟩)
      go_roundg (len - (k + 1))
      case measure => have := Hg.out; omega
      case rel => exact ⟨k + 1, by omega, rfl, by go_num, by rw [← hs.out]; simp, rfl⟩
    · have hk2 : k = len := by omega
      have Hk := Lib.hid hk2; clear hk2 hg hc
      go_wp2_with fail
      go_ret
      exact ⟨ret_i64 (by rw [Hk.out]), rfl⟩

set_option maxHeartbeats 1000000 in
theorem rsum_nil (ao : Option Addr) (cap : Nat) (w : World) :
    Calls Try.prog 23 #[.slice ao 0 cap] w fun e w' => e = .returned (.int .i64 0) ∧ w = w' := by
  go_enter Try.func23, Try.ntmps23
  go_wp2_with fail
  refine wp_loop_rounds 1 ?_
  rw [rounds_succ]
  go_wp2_with fail
  go_ret
  exact ⟨rfl, rfl⟩

set_option maxHeartbeats 1000000 in
theorem rsum_pos (b off len cap : Nat) (zs : List Int) (w : World) (hz : len ≤ zs.length) (hl : len ≤ 9223372036854775807) (hc : ∀ j, j < len → w.cell? ⟨b, off + j, none⟩ = some (.int .i64 (zs.getD j 0))) :
    Calls Try.prog 23 #[.slice (some ⟨b, off, none⟩) len cap] w fun e w' => e = .returned (.int .i64 (sumI (zs.take len))) ∧ w = w' := by
  go_enter Try.func23, Try.ntmps23
  go_wp2_with fail
  go_loopg [3, 4] len (fun g v3 v8 wr => ∃ k : Nat, k ≤ len ∧ g = len - k ∧ v8 = .int .i64 k ∧ v3 = .int .i64 (sumI (zs.take k)) ∧ w = wr)
  case atStart => exact ⟨0, Nat.zero_le _, rfl, rfl, rfl, rfl⟩
  case round =>
    obtain ⟨k, hk, hg, rfl, rfl, rfl⟩ := hrel
    by_cases hlt : k < len
    · have hcell := hc k hlt
      have hs := Lib.hid (sumI_take zs k (by omega))
      have Hg := Lib.hid hg; clear hg hc
      go_wp2_with (go_at_call 12; refine (Ref01.add_any _ _ _).mono ?_; rintro e w' ⟨rfl, rfl⟩)
      go_roundg (len - (k + 1))
      case measure => have := Hg.out; omega
      case rel => exact ⟨k + 1, by omega, rfl, by go_num, by rw [← hs.out]; simp, rfl⟩
    · have hk2 : k = len := by omega
      have Hk := Lib.hid hk2; clear hk2 hg hc
      go_wp2_with fail
      go_ret
      exact ⟨ret_i64 (by rw [Hk.out]), rfl⟩

theorem cells4 (w : World) (T : TypeId) : ∀ j, j < 4 → (w.alloc (Obj.cells #[.int .i64 1, .int .i64 2, .int .i64 (-9), .int .i64 3] T)).cell? ⟨w.heap.size, 0 + j, none⟩ = some (.int .i64 ([1, 2, -9, 3].getD j 0)) := by
  intro j hj
  match j, hj with
  | 0, _ => simp [World.cell?_alloc_new]
  | 1, _ => simp [World.cell?_alloc_new]
  | 2, _ => simp [World.cell?_alloc_new]
  | 3, _ => simp [World.cell?_alloc_new]

set_option maxHeartbeats 1000000 in
theorem saturKnown_any (w : World) :
    Calls Try.prog 7 #[] w fun e w' => e = .returned (.bool true) ∧ Grown w w' := by
  have e1 : cutI (-5) = 0 := by decide
  have e2 : cutI 9007199254740993 = 9007199254740992 := by decide
  have e3 : mulI 1073741824 1073741824 = 9007199254740992 := by decide
  have e4 : divI 7 0 = 9007199254740992 := by decide
  have e5 : divI 0 0 = 0 := by decide
  have e6 : scaleI 9007199254740992 3 4 = 6755399441055744 := by decide
  have e7 : scaleI 5 3 0 = 9007199254740992 := by decide
  have e8 : sumI ([1, 2, -9, 3].take 4) = 6 := by decide
  have E8 := Lib.hid e8; clear e8
  go_enter Try.func7, Try.ntmps7
  go_wp2_with (first
    | (go_at_call 9; refine (cut_any _ _).mono ?_; rintro e w' ⟨rfl, rfl⟩; first | rw [e1] | rw [e2])
    | (go_at_call 15; refine (mul_any _ _ _).mono ?_; rintro e w' ⟨rfl, m, rfl⟩; rw [e3])
    | (go_at_call 17; refine (div_any _ _ _).mono ?_; rintro e w' ⟨rfl, m, rfl⟩; first | rw [e4] | rw [e5])
    | (go_at_call 20; refine (scale_any _ _ _ _).mono ?_; rintro e w' ⟨rfl, m, rfl⟩; first | rw [e6] | rw [e7])
    | (go_at_call 19; refine (Laws.awake_any _).mono ?_; rintro e w' ⟨rfl, m, rfl⟩))
  refine (sum_pos _ 0 4 4 [1, 2, -9, 3] _ (by decide) (by omega) ?_).mono ?_
  · exact cells4 (w.drewN _) _
  rintro e w' ⟨rfl, rfl⟩
  rw [E8.out]
  go_wp2_with fail
  go_ret
  exact ⟨rfl, (show Grown w (w.drewN _) from Grown.refl w).alloc _ _⟩

end Go.Proofs.Ytkeanadphamgnaa.Sums
