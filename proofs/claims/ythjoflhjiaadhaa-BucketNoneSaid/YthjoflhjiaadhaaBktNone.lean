/-
  The walk of BucketNone: a bucket that is none, or that New did not make, tells nothing.
-/
import Derived.Test.YthjoflhjiaadhaaBktLaws
set_option linter.unusedVariables false
namespace Go.Proofs.Ythjoflhjiaadhaa.BktNone
open Go.RowKit Go.Proofs.Ythjoflhjiaadhaa.Num Go.Proofs.Ythjoflhjiaadhaa.Bkt Go.Proofs.Ythjoflhjiaadhaa.BktLaws

theorem take_no (p : Value) (n now : Int) (w : World) (hp : Calls Try.prog 23 #[p] w fun e w' => e = .returned (.bool true) ∧ w = w') :
    Calls Try.prog 10 #[p, .int .i64 n, .int .i64 now] w fun e w' => e = .returned (.bool false) ∧ w = w' := by
  have HP := Lib.hid hp
  clear hp
  go_enter Try.func10, Try.ntmps10
  go_wp2_with (go_at_call 23; refine HP.out.mono ?_; rintro e w' ⟨rfl, rfl⟩)
  go_ret
  exact ⟨rfl, rfl⟩
theorem tokens_no (p : Value) (now : Int) (w : World) (hp : Calls Try.prog 23 #[p] w fun e w' => e = .returned (.bool true) ∧ w = w') :
    Calls Try.prog 14 #[p, .int .i64 now] w fun e w' => e = .returned (.int .i64 0) ∧ w = w' := by
  have HP := Lib.hid hp
  clear hp
  go_enter Try.func14, Try.ntmps14
  go_wp2_with (go_at_call 23; refine HP.out.mono ?_; rintro e w' ⟨rfl, rfl⟩)
  go_ret
  exact ⟨rfl, rfl⟩
theorem full_no (p : Value) (now : Int) (w : World) (hp : Calls Try.prog 23 #[p] w fun e w' => e = .returned (.bool true) ∧ w = w') :
    Calls Try.prog 13 #[p, .int .i64 now] w fun e w' => e = .returned (.bool false) ∧ w = w' := by
  have HP := Lib.hid hp
  clear hp
  go_enter Try.func13, Try.ntmps13
  go_wp2_with (go_at_call 23; refine HP.out.mono ?_; rintro e w' ⟨rfl, rfl⟩)
  go_ret
  exact ⟨rfl, rfl⟩
theorem when_no (p : Value) (n now : Int) (w : World) (hp : Calls Try.prog 23 #[p] w fun e w' => e = .returned (.bool true) ∧ w = w') :
    Calls Try.prog 15 #[p, .int .i64 n, .int .i64 now] w fun e w' => e = .returned (.int .i64 0) ∧ w = w' := by
  have HP := Lib.hid hp
  clear hp
  go_enter Try.func15, Try.ntmps15
  go_wp2_with (go_at_call 23; refine HP.out.mono ?_; rintro e w' ⟨rfl, rfl⟩)
  go_ret
  exact ⟨rfl, rfl⟩

set_option maxHeartbeats 4000000 in
theorem bucketNone_walk (n now : Int) (w : World) :
    Calls Try.prog 7 #[.int .i64 n, .int .i64 now] w fun e w' => e = .returned (.bool true) ∧ Below w.heap.size w w' := by
  go_enter Try.func7, Try.ntmps7
  go_wp2_with fail
  have c0 : ((w.alloc (.cells #[.bool false, .int .i64 0, .int .i64 0, .int .i64 0, .int .i64 0] 50)).alloc (.cells #[.pointer none, .pointer (some ⟨w.heap.size, 0, none⟩)] 24)).cell? ⟨w.heap.size + 1, 0, none⟩ = some (.pointer none) := by simp [go_sem]
  have c1 : ((w.alloc (.cells #[.bool false, .int .i64 0, .int .i64 0, .int .i64 0, .int .i64 0] 50)).alloc (.cells #[.pointer none, .pointer (some ⟨w.heap.size, 0, none⟩)] 24)).cell? ⟨w.heap.size + 1, 1, none⟩ = some (.pointer (some ⟨w.heap.size, 0, none⟩)) := by simp [go_sem]
  have c2 : ((w.alloc (.cells #[.bool false, .int .i64 0, .int .i64 0, .int .i64 0, .int .i64 0] 50)).alloc (.cells #[.pointer none, .pointer (some ⟨w.heap.size, 0, none⟩)] 24)).cell? ⟨w.heap.size, 0, none⟩ = some (.bool false) := by simp [go_sem]
  have hb : Below w.heap.size w ((w.alloc (.cells #[.bool false, .int .i64 0, .int .i64 0, .int .i64 0, .int .i64 0] 50)).alloc (.cells #[.pointer none, .pointer (some ⟨w.heap.size, 0, none⟩)] 24)) :=
    ((Below.refl _ w).alloc (Nat.le_refl _) _).alloc (by simp) _
  generalize (w.alloc (.cells #[.bool false, .int .i64 0, .int .i64 0, .int .i64 0, .int .i64 0] 50)).alloc (.cells #[.pointer none, .pointer (some ⟨w.heap.size, 0, none⟩)] 24) = W at *
  have HB := Lib.hid hb
  have HN := Lib.hid (none_nil W)
  have HU := Lib.hid (none_unmade w.heap.size W c2)
  clear hb c2
  refine wp_loop_rounds 3 ?_
  rw [rounds_succ]
  go_wp2_with fail
  refine (take_no _ n now W HN.out).mono ?_
  rintro e w' ⟨rfl, rfl⟩
  go_wp2_with fail
  refine (tokens_no _ now W HN.out).mono ?_
  rintro e w' ⟨rfl, rfl⟩
  go_wp2_with fail
  refine (full_no _ now W HN.out).mono ?_
  rintro e w' ⟨rfl, rfl⟩
  go_wp2_with fail
  refine (when_no _ n now W HN.out).mono ?_
  rintro e w' ⟨rfl, rfl⟩
  go_wp2_with fail
  rw [rounds_succ]
  go_wp2_with fail
  refine (take_no _ n now W HU.out).mono ?_
  rintro e w' ⟨rfl, rfl⟩
  go_wp2_with fail
  refine (tokens_no _ now W HU.out).mono ?_
  rintro e w' ⟨rfl, rfl⟩
  go_wp2_with fail
  refine (full_no _ now W HU.out).mono ?_
  rintro e w' ⟨rfl, rfl⟩
  go_wp2_with fail
  refine (when_no _ n now W HU.out).mono ?_
  rintro e w' ⟨rfl, rfl⟩
  go_wp2_with fail
  rw [rounds_succ]
  go_wp2_with fail
  refine (awake_any _).mono ?_
  rintro e w1 ⟨rfl, hb⟩
  have HB2 := Lib.hid hb
  clear hb
  go_wp2_with fail
  go_ret
  exact ⟨rfl, HB.out.trans (HB2.out.mono HB.out.size)⟩

end Go.Proofs.Ythjoflhjiaadhaa.BktNone
