/-
  The walk of event: one kind at a time.
-/
import Derived.Test.YthdobpfojdcagaaFields
import Derived.Deep.RegionHeld3
set_option linter.unusedVariables false
namespace Go.Proofs.Ythdobpfojdcagaa.Event
open Go.RowKit Go.Proofs.Ythdobpfojdcagaa.Ev Go.Proofs.Ythdobpfojdcagaa.Next Go.Proofs.Ythdobpfojdcagaa.Fields

/-- The reader's function, as a value. -/
abbrev nextV (A B : Nat) : Value := .func (.func 35) #[] #[.pointer (some ⟨A, 0, none⟩), .pointer (some ⟨B, 0, none⟩)]

set_option maxHeartbeats 2000000 in
theorem event_shut (A B : Nat) (a0 : Option Addr) (len cap p : Nat) (bs : List Int) (w : World) (hA : One w A (.int .i64 p) 3) (hR : Rd w A B a0 len cap bs) (hp : p ≤ len) (hk : num bs p 1 % 10 = 9) :
    Calls Try.prog 27 #[nextV A B] w fun e w' => e = .returned (.agg #[.int .i64 10, .int .i64 0, .int .i64 0, .int .i64 0, .int .i64 0, .int .i64 0, .slice none 0 0]) ∧ One w' A (.int .i64 (min (p + 1) len : Nat)) 3 ∧ Chg (· = A) w w' := by
  have HA := Lib.hid hA; have HR := Lib.hid hR; have HK := Lib.hid hk
  clear hA hR hk
  go_enter Try.func27, Try.ntmps27
  go_wp2_with fail
  obtain ⟨W0, hW0⟩ : ∃ x, x = w.alloc (.cells #[.int .i64 0, .int .i64 0, .int .i64 0, .int .i64 0, .int .i64 0, .int .i64 0, .slice none 0 0] 34) := ⟨_, rfl⟩
  rw [← hW0]
  have C0 : Chg (fun _ => False) w W0 := by rw [hW0]; exact (Chg.refl _ w).alloc _
  have S0 : W0.heap.size = w.heap.size + 1 := by rw [hW0]; simp
  have A0 := HA.out.kept C0 (fun h => h)
  have R0 := HR.out.kept C0 (fun _ _ h => h.elim)
  have Z0 : W0.heap[w.heap.size]? = some (.cells #[.int .i64 0, .int .i64 0, .int .i64 0, .int .i64 0, .int .i64 0, .int .i64 0, .slice none 0 0] 34) := by
    rw [hW0]; show (w.heap.push _)[w.heap.size]? = _; rw [Array.getElem?_push, if_pos rfl]
  have hAlt := HA.out.lt
  replace Z0 := Lib.hid Z0
  clear hW0
  replace C0 := Lib.hid C0; replace A0 := Lib.hid A0; replace R0 := Lib.hid R0
  refine (next_any A B a0 len cap p 1 bs W0 A0.out R0.out hp (by omega)).mono ?_
  rintro e W1 ⟨rfl, A1, C1⟩
  have R1 := R0.out.kept C1 (fun _ _ h => h)
  have hN := (num_bd R0.out.bytes.2.1 p 1).1
  obtain ⟨N, eN⟩ : ∃ N, num bs p 1 = N := ⟨_, rfl⟩
  rw [eN] at hN HK ⊢
  have HK' := HK.out
  replace A1 := Lib.hid A1; replace C1 := Lib.hid C1; replace R1 := Lib.hid R1; replace eN := Lib.hid eN
  go_wp2_with fail
  obtain ⟨W2, hW2⟩ : ∃ x, x = W1.alloc (.cells #[.int .i64 10, .int .i64 0, .int .i64 0, .int .i64 0, .int .i64 0, .int .i64 0, .slice none 0 0] 34) := ⟨_, rfl⟩
  rw [← hW2]
  have C2 : Chg (fun _ => False) W1 W2 := by rw [hW2]; exact (Chg.refl _ W1).alloc _
  have S2 : W2.heap.size = W1.heap.size + 1 := by rw [hW2]; simp
  have E2 : W2.heap[W1.heap.size]? = some (.cells #[.int .i64 10, .int .i64 0, .int .i64 0, .int .i64 0, .int .i64 0, .int .i64 0, .slice none 0 0] 34) := by
    rw [hW2]; show (W1.heap.push _)[W1.heap.size]? = _; rw [Array.getElem?_push, if_pos rfl]
  clear hW2
  have cE : W2.drew.cell? ⟨W1.heap.size, 0, none⟩ = some (.int .i64 10) := cell_of_row W2 W1.heap.size 0 _ _ _ E2
  replace C2 := Lib.hid C2; replace E2 := Lib.hid E2
  go_region_held3 (fun w' => w'.cell? ⟨W1.heap.size, 0, none⟩ = some (.int .i64 10)) (first | exact cE | exact ((Hid.out ‹Hid (Flds W2.drew _)›).chg.cell (p := ⟨W1.heap.size, 0, none⟩) (by show W1.heap.size < W2.heap.size; omega) (fun h => h)).trans cE)
    (first | (go_at_call 37; (with_reducible refine (fields_fd _).mono ?_); rintro e w5 ⟨rfl, h5⟩; have L5 := run_look 10 9 (.slice none 0 0) h5.map rfl; rw [show W2.drew.heap.size = W1.heap.size + 1 from S2] at L5; have H5 := Lib.hid h5; clear h5))
  have E5 : w5.heap[W1.heap.size]? = some (.cells #[.int .i64 10, .int .i64 0, .int .i64 0, .int .i64 0, .int .i64 0, .int .i64 0, .slice none 0 0] 34) := by
    rw [H5.out.chg.block W1.heap.size (by show W1.heap.size < W2.heap.size; omega) (fun h => h)]; exact E2.out
  have Z1 : W1.heap[w.heap.size]? = some (.cells #[.int .i64 0, .int .i64 0, .int .i64 0, .int .i64 0, .int .i64 0, .int .i64 0, .slice none 0 0] 34) := by
    rw [C1.out.block w.heap.size (by omega) (by omega)]; exact Z0.out
  have hlt1 := lt_of_block Z1
  have Z5 : w5.heap[w.heap.size]? = some (.cells #[.int .i64 0, .int .i64 0, .int .i64 0, .int .i64 0, .int .i64 0, .int .i64 0, .slice none 0 0] 34) := by
    rw [H5.out.chg.block w.heap.size (by show w.heap.size < W2.heap.size; omega) (fun h => h)]
    show W2.heap[w.heap.size]? = _
    rw [C2.out.block w.heap.size hlt1 (fun h => h)]; exact Z1
  clear cE
  have e0 := cell_of_row w5 W1.heap.size 0 _ _ _ E5
  have e1 := cell_of_row w5 W1.heap.size 1 _ _ _ E5
  have e2 := cell_of_row w5 W1.heap.size 2 _ _ _ E5
  have e3 := cell_of_row w5 W1.heap.size 3 _ _ _ E5
  have e4 := cell_of_row w5 W1.heap.size 4 _ _ _ E5
  have e5 := cell_of_row w5 W1.heap.size 5 _ _ _ E5
  have e6 := cell_of_row w5 W1.heap.size 6 _ _ _ E5
  have z0 := cell_of_row w5 w.heap.size 0 _ _ _ Z5
  have z1 := cell_of_row w5 w.heap.size 1 _ _ _ Z5
  have z2 := cell_of_row w5 w.heap.size 2 _ _ _ Z5
  have z3 := cell_of_row w5 w.heap.size 3 _ _ _ Z5
  have z4 := cell_of_row w5 w.heap.size 4 _ _ _ Z5
  have z5 := cell_of_row w5 w.heap.size 5 _ _ _ Z5
  have z6 := cell_of_row w5 w.heap.size 6 _ _ _ Z5
  have f0 := frozen_of_row w5 w.heap.size 0 _ _ Z5
  have f1 := frozen_of_row w5 w.heap.size 1 _ _ Z5
  have f2 := frozen_of_row w5 w.heap.size 2 _ _ Z5
  have f3 := frozen_of_row w5 w.heap.size 3 _ _ Z5
  have f4 := frozen_of_row w5 w.heap.size 4 _ _ Z5
  have f5 := frozen_of_row w5 w.heap.size 5 _ _ Z5
  have f6 := frozen_of_row w5 w.heap.size 6 _ _ Z5
  replace E5 := Lib.hid E5; replace Z5 := Lib.hid Z5; replace Z1 := Lib.hid Z1
  go_wp2_with fail
  refine wp_loop_rounds 1 ?_
  rw [rounds_succ]
  go_wp2_with fail
  have K5 : Chg (· = A) w w5 :=
    (((C0.out.weak (fun _ _ h => h.elim)).trans (C1.out)).trans (C2.out.weak (fun _ _ h => h.elim))).trans (show Chg (· = A) W2 w5 from ((Chg.refl _ W2).drewN 1 |>.trans (H5.out.chg.weak (fun _ _ h => h.elim))))
  have O5 : One w5 A (.int .i64 (min (p + 1) len : Nat)) 3 := (A1.out.kept C2.out (fun h => h)).kept (S := fun _ => False) (show Chg _ W2 w5 from ((Chg.refl _ W2).drewN 1).trans H5.out.chg) (fun h => h)
  refine bodyPost_ret (results_cell_row rfl _ _ w.heap.size 34 _ (0, 0) _ rfl (set7 Z5.out) Try.underlying34 rfl (by kernel_rfl)) rfl ⟨rfl, ?_, chg7 K5 (.inr (Nat.le_refl _))⟩
  exact O5.kept (S := fun b => b = w.heap.size) (chg7 (Chg.refl _ w5) (.inl rfl)) (by omega)

end Go.Proofs.Ythdobpfojdcagaa.Event
