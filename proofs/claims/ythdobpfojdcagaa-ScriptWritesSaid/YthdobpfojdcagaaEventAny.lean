/-
  The walk of event, of every kind.
-/
import Derived.Test.YthdobpfojdcagaaLi
import Derived.Deep.Onto
import Derived.Deep.AppendLies
import Derived.OpenShut
import Derived.Deep.RegionHeld3
import Derived.Deep.RegionLaw
set_option linter.unusedVariables false
namespace Go.Proofs.Ythdobpfojdcagaa.EventAny
open Go.RowKit Go.Proofs.Ythdobpfojdcagaa.Ev Go.Proofs.Ythdobpfojdcagaa.Next Go.Proofs.Ythdobpfojdcagaa.Fields Go.Proofs.Ythdobpfojdcagaa.Event Go.Proofs.Ythdobpfojdcagaa.Fold Go.Proofs.Ythdobpfojdcagaa.U8 Go.Proofs.Ythdobpfojdcagaa.Li

/-- The next byte. -/
theorem next_byte (A B : Nat) (a0 : Option Addr) (len cap q : Nat) (bs : List Int) (w : World) (hA : One w A (.int .i64 (min q len : Nat)) 3) (hR : Rd w A B a0 len cap bs) :
    Calls Try.prog 35 #[.int .i64 1, .pointer (some ⟨A, 0, none⟩), .pointer (some ⟨B, 0, none⟩)] w fun e w' => e = .returned (.int .i64 (byte bs q)) ∧ One w' A (.int .i64 (min (q + 1) len : Nat)) 3 ∧ Chg (· = A) w w' := by
  refine (next_any A B a0 len cap (min q len) 1 bs w hA hR (by omega) (by omega)).mono ?_
  rintro e w' ⟨rfl, o, c⟩
  have e7 : num bs (min q len) 1 = byte bs q := by
    rw [← hR.bytes.1, num_min]
    show num bs q 0 * 256 + byte bs (q + 0) = _
    show (0 : Int) * 256 + byte bs q = _
    omega
  rw [show min (min q len + 1) len = min (q + 1) len by omega] at o
  exact ⟨by rw [e7], o, c⟩

theorem run_length (bs : List Int) (p n : Nat) : (run bs p n).length = n := by simp [run]
theorem run_succ (bs : List Int) (p n : Nat) : run bs p (n + 1) = run bs p n ++ [byte bs (p + n)] := by simp [run, List.range_succ]
theorem one_u8 {y : Int} (h0 : 0 ≤ y) (h1 : y ≤ 255) : ∀ u ∈ [Value.int .u8 y], IsU8 u := fun u hu => by
  simp only [List.mem_singleton] at hu; exact ⟨y, h0, h1, hu⟩
theorem room1 {n i : Nat} (h : n = i) (hi : i ≤ 4096) : n + 1 ≤ maxLen := by unfold maxLen; omega
theorem room2 {n i : Nat} (h : n = i) (hi : i ≤ 4096) : (n + 1) * 1 ≤ 140737488355328 := by omega
theorem room3 {b : Nat} {S : Nat → Prop} {w w' : World} (h : b ≤ w.heap.size) (c : Chg S w w') (o : Obj) : b ≤ (w'.alloc o).heap.size := by
  have := c.size; simp; omega

theorem Try.info5 : (Try.prog.info? 5).map (fun i => (i.zero, i.size, i.bytes)) = some (some (.int .u8 0), 1, 1) := by kernel_rfl

set_option maxHeartbeats 4000000 in
theorem event_other (A B : Nat) (a0 : Option Addr) (len cap p : Nat) (bs : List Int) (w : World) (hA : One w A (.int .i64 p) 3) (hR : Rd w A B a0 len cap bs) (hp : p < len) (hk : num bs p 1 % 10 ≠ 9) :
    Calls Try.prog 27 #[nextV A B] w fun e w' => ∃ vb, e = .returned (.agg (evCells (evAt bs p) vb)) ∧ w'.ownsRow w.heap.size 5 1 vb (evAt bs p).b.length ((evAt bs p).b.map (Value.int .u8)) ∧ U8Row w' vb ∧
      One w' A (.int .i64 (min (p + evLen bs p) len : Nat)) 3 ∧ Chg (· = A) w w' := by
  have HA := Lib.hid hA; have HR := Lib.hid hR
  have hp1 : p ≤ len := by omega
  clear hA hR
  go_enter Try.func27, Try.ntmps27
  go_wp2_with fail
  obtain ⟨W0, hW0⟩ : ∃ x, x = w.alloc (.cells #[.int .i64 0, .int .i64 0, .int .i64 0, .int .i64 0, .int .i64 0, .int .i64 0, .slice none 0 0] 34) := ⟨_, rfl⟩
  rw [← hW0]
  have C0 : Chg (fun _ => False) w W0 := by rw [hW0]; exact (Chg.refl _ w).alloc _
  have S0 : W0.heap.size = w.heap.size + 1 := by rw [hW0]; simp
  have A0 := HA.out.kept C0 (fun h => h)
  have R0 := HR.out.kept C0 (fun _ _ h => h.elim)
  have Z0 : W0.heap[w.heap.size]? = some (.cells #[.int .i64 0, .int .i64 0, .int .i64 0, .int .i64 0, .int .i64 0, .int .i64 0, .slice none 0 0] 34) := by
    rw [hW0]; show (w.heap.push _)[w.heap.size]? = _; rw [Array.getElem?_push, if_pos rfl]
  have hAlt := HA.out.lt
  replace Z0 := Lib.hid Z0
  clear hW0
  replace C0 := Lib.hid C0; replace A0 := Lib.hid A0; replace R0 := Lib.hid R0
  refine (next_any A B a0 len cap p 1 bs W0 A0.out R0.out hp1 (by omega)).mono ?_
  rintro e W1 ⟨rfl, A1, C1⟩
  have R1 := R0.out.kept C1 (fun _ _ h => h)
  have hN := (num_bd R0.out.bytes.2.1 p 1).1
  obtain ⟨N, eN⟩ : ∃ N, num bs p 1 = N := ⟨_, rfl⟩
  rw [eN] at hN hk ⊢
  obtain ⟨M, eM⟩ : ∃ M, N % 10 + 1 = M := ⟨_, rfl⟩
  have hM : M = 1 ∨ M = 2 ∨ M = 3 ∨ M = 4 ∨ M = 5 ∨ M = 6 ∨ M = 7 ∨ M = 8 ∨ M = 9 ∨ M = 10 := by omega
  have HM := Lib.hid hM; clear hM
  replace A1 := Lib.hid A1; replace C1 := Lib.hid C1; replace R1 := Lib.hid R1; replace eN := Lib.hid eN
  go_wp2_with fail
  obtain ⟨W2, hW2⟩ : ∃ x, x = W1.alloc (.cells #[.int .i64 M, .int .i64 0, .int .i64 0, .int .i64 0, .int .i64 0, .int .i64 0, .slice none 0 0] 34) := ⟨_, rfl⟩
  rw [← hW2]
  have C2 : Chg (fun _ => False) W1 W2 := by rw [hW2]; exact (Chg.refl _ W1).alloc _
  have S2 : W2.heap.size = W1.heap.size + 1 := by rw [hW2]; simp
  have E2 : W2.heap[W1.heap.size]? = some (.cells #[.int .i64 M, .int .i64 0, .int .i64 0, .int .i64 0, .int .i64 0, .int .i64 0, .slice none 0 0] 34) := by
    rw [hW2]; show (W1.heap.push _)[W1.heap.size]? = _; rw [Array.getElem?_push, if_pos rfl]
  clear hW2
  have cE : W2.drew.cell? ⟨W1.heap.size, 0, none⟩ = some (.int .i64 M) := cell_of_row W2 W1.heap.size 0 _ _ _ E2
  obtain ⟨i, v, hf, hv⟩ := names_at (W1.heap.size + 1) M HM.out
  replace C2 := Lib.hid C2; replace E2 := Lib.hid E2; replace hf := Lib.hid hf; replace eM := Lib.hid eM
  have hM10 : nms M ≠ [] := by
    rcases HM.out with h | h | h | h | h | h | h | h | h | h <;> first | (exfalso; have := eM.out; omega) | (rw [h]; decide)
  rcases hv with ⟨rfl, hnm⟩ | ⟨j, hj, rfl, hnm⟩
  · exact absurd hnm hM10
  clear hM10
  replace hnm := Lib.hid hnm
  go_region_held3 (fun w' => w'.cell? ⟨W1.heap.size, 0, none⟩ = some (.int .i64 M)) (first | exact cE | exact ((Hid.out ‹Hid (Flds W2.drew _)›).chg.cell (p := ⟨W1.heap.size, 0, none⟩) (by show W1.heap.size < W2.heap.size; omega) (fun h => h)).trans cE)
    (first | (go_at_call 37; (with_reducible refine (fields_fd _).mono ?_); rintro e w5 ⟨rfl, h5⟩; have m5 := h5.map; rw [show W2.drew.heap.size = W1.heap.size + 1 from S2] at m5; have L5 := run_look M i _ m5 hf.out; clear m5; have H5 := Lib.hid h5; clear h5))
  clear L5
  have E5 : w5.heap[W1.heap.size]? = some (.cells (evCells (zero M) (.slice none 0 0)) 34) := by
    rw [H5.out.chg.block W1.heap.size (by show W1.heap.size < W2.heap.size; omega) (fun h => h)]; exact E2.out
  have Z1 : W1.heap[w.heap.size]? = some (.cells #[.int .i64 0, .int .i64 0, .int .i64 0, .int .i64 0, .int .i64 0, .int .i64 0, .slice none 0 0] 34) := by
    rw [C1.out.block w.heap.size (by omega) (by omega)]; exact Z0.out
  have hlt1 := lt_of_block Z1
  have Z5 : w5.heap[w.heap.size]? = some (.cells #[.int .i64 0, .int .i64 0, .int .i64 0, .int .i64 0, .int .i64 0, .int .i64 0, .slice none 0 0] 34) := by
    rw [H5.out.chg.block w.heap.size (by show w.heap.size < W2.heap.size; omega) (fun h => h)]
    show W2.heap[w.heap.size]? = _
    rw [C2.out.block w.heap.size hlt1 (fun h => h)]; exact Z1
  have K5 : Chg (· = A) w w5 :=
    (((C0.out.weak (fun _ _ h => h.elim)).trans (C1.out)).trans (C2.out.weak (fun _ _ h => h.elim))).trans (show Chg (· = A) W2 w5 from ((Chg.refl _ W2).drewN 1 |>.trans (H5.out.chg.weak (fun _ _ h => h.elim))))
  have O5 : One w5 A (.int .i64 (min (p + 1) len : Nat)) 3 := (A1.out.kept C2.out (fun h => h)).kept (S := fun _ => False) (show Chg _ W2 w5 from ((Chg.refl _ W2).drewN 1).trans H5.out.chg) (fun h => h)
  have S5 : w5.heap.size = W1.heap.size + 1 + 10 := by rw [H5.out.size]; show W2.heap.size + 10 = _; omega
  have hAw : A < w.heap.size := hAlt
  have hEA : W1.heap.size ≠ A := by omega
  have LI0 : LI w5 w5 W1.heap.size A w5.heap.size len (zero M, p + 1) (.slice none 0 0) := ⟨E5, World.ownsRow_nil _ _ _ _, U8Row.nil _, O5, Chg.refl _ _⟩
  have N5 : ∀ y, y < (nms M).length → w5.cell? ⟨W1.heap.size + 1 + (j + 1), 0 + y, none⟩ = some (.string (nmB ((nms M).getD y .n))) := by
    intro y hy
    have hr := H5.out.rows j hj
    rw [show W2.drew.heap.size = W1.heap.size + 1 from S2, hnm.out] at hr
    rw [cell_of_row w5 _ _ _ _ _ hr]
    simp [List.getD_eq_getElem?_getD, List.getElem?_eq_getElem hy]
  replace E5 := Lib.hid E5; replace Z5 := Lib.hid Z5; replace Z1 := Lib.hid Z1; replace K5 := Lib.hid K5; replace O5 := Lib.hid O5; replace N5 := Lib.hid N5; replace LI0 := Lib.hid LI0; replace S5 := Lib.hid S5
  clear cE
  have hL3 : (nms M).length ≤ 3 := by unfold nms; repeat' split
                                      all_goals decide
  obtain ⟨L, hL⟩ : ∃ L, (nms M).length = L := ⟨_, rfl⟩
  rw [hL] at hL3 ⊢
  replace hL := Lib.hid hL
  go_wp2_with fail
  go_loopg [5, 6, 7, 8, 19] L (fun g _ _ _ _ v19 wr => ∃ (y : Nat) (vb : Value), y ≤ L ∧ g = L - y ∧ v19 = .int .i64 y ∧ LI w5 wr W1.heap.size A w5.heap.size len (((nms M).take y).foldl (Fold.step bs) (zero M, p + 1)) vb)
  case atStart => exact ⟨0, _, Nat.zero_le _, rfl, rfl, LI0.out⟩
  case round =>
    obtain ⟨y, vb, hy, hg, rfl, hli⟩ := hrel
    have Hg := Lib.hid hg; clear hg
    by_cases hlt : y < L
    · have hx : ((nms M).take (y + 1)).foldl (Fold.step bs) (zero M, p + 1) = Fold.step bs (((nms M).take y).foldl (Fold.step bs) (zero M, p + 1)) ((nms M).getD y .n) := by
        have hy2 : y < (nms M).length := by rw [hL.out]; exact hlt
        rw [List.take_succ_eq_append_getElem hy2, List.foldl_append, List.getD_eq_getElem?_getD, List.getElem?_eq_getElem hy2]; rfl
      have c1 := (hli.chg.cell (p := ⟨W1.heap.size + 1 + (j + 1), 0 + y, none⟩) (by rw [S5.out]; show W1.heap.size + 1 + (j + 1) < _; omega) (by show ¬ (W1.heap.size + 1 + (j + 1) = A ∨ W1.heap.size + 1 + (j + 1) = W1.heap.size); omega)).trans (N5.out y (by rw [hL.out]; exact hlt))
      obtain ⟨x, ex⟩ : ∃ x, ((nms M).take y).foldl (Fold.step bs) (zero M, p + 1) = x := ⟨_, rfl⟩
      rw [ex] at hx hli
      have hR : Rd wr A B a0 len cap bs := HR.out.kept (Chg_after K5.out hli.chg (fun i hi e => by rcases e with e | e; exact e; exfalso; omega)) (fun _ _ h => h)
      have hO := hli.at'
      replace hR := Lib.hid hR; replace hO := Lib.hid hO
      replace hx := Lib.hid hx; replace ex := Lib.hid ex; replace hli := Lib.hid hli
      rw [Nat.zero_add] at c1
      rcases enm : (nms M).getD y .n with _ | _ | _ | _ | _ | _
      · rw [enm] at c1
        unfold nmB at c1
        replace enm := Lib.hid enm
        go_wp2_with fail
        refine (number_who _ _).mono ?_; rintro e wn ⟨rfl, rfl⟩
        go_wp2_with fail
        refine (next_any A B a0 len cap (min x.2 len) 4 bs _ hO.out hR.out (by omega) (by omega)).mono ?_; rintro e w6 ⟨rfl, o6, k6⟩
        rw [show min (min x.2 len + 4) len = min (x.2 + 4) len by omega] at o6
        have e6 : num bs (min x.2 len) 4 = num bs x.2 4 := by rw [← hR.out.bytes.1]; exact num_min bs x.2 4
        rw [e6]
        have l6 := hli.out.next (x.2 + 4) o6 k6 hEA (by rw [S5.out]; omega)
        have d6 := cell_of_row w6 W1.heap.size 2 _ _ _ l6.cells
        have f6 := frozen_of_row w6 W1.heap.size 2 _ _ l6.cells
        simp only [evCells] at d6
        have n6 := (num_bd hR.out.bytes.2.1 x.2 4).1
        replace l6 := Lib.hid l6
        clear o6 k6 e6
        go_wp2_with fail
        go_roundg (L - (y + 1))
        case measure => have := Hg.out; omega
        case rel => exact ⟨y + 1, vb, by omega, rfl, by go_num, by rw [hx.out, enm.out]; exact l6.out.set 2 (.int .i64 (num bs x.2 4)) _ rfl rfl hEA (by rw [S5.out]; omega)⟩
      · rw [enm] at c1
        unfold nmB at c1
        replace enm := Lib.hid enm
        go_wp2_with fail
        refine (number_port _ _).mono ?_; rintro e wn ⟨rfl, rfl⟩
        go_wp2_with fail
        refine (next_any A B a0 len cap (min x.2 len) 2 bs _ hO.out hR.out (by omega) (by omega)).mono ?_; rintro e w6 ⟨rfl, o6, k6⟩
        rw [show min (min x.2 len + 2) len = min (x.2 + 2) len by omega] at o6
        have e6 : num bs (min x.2 len) 2 = num bs x.2 2 := by rw [← hR.out.bytes.1]; exact num_min bs x.2 2
        rw [e6]
        have l6 := hli.out.next (x.2 + 2) o6 k6 hEA (by rw [S5.out]; omega)
        have d6 := cell_of_row w6 W1.heap.size 3 _ _ _ l6.cells
        have f6 := frozen_of_row w6 W1.heap.size 3 _ _ l6.cells
        simp only [evCells] at d6
        have n6 := (num_bd hR.out.bytes.2.1 x.2 2).1
        replace l6 := Lib.hid l6
        clear o6 k6 e6
        go_wp2_with fail
        go_roundg (L - (y + 1))
        case measure => have := Hg.out; omega
        case rel => exact ⟨y + 1, vb, by omega, rfl, by go_num, by rw [hx.out, enm.out]; exact l6.out.set 3 (.int .i64 (num bs x.2 2)) _ rfl rfl hEA (by rw [S5.out]; omega)⟩
      · rw [enm] at c1
        unfold nmB at c1
        replace enm := Lib.hid enm
        go_wp2_with fail
        refine (number_conn _ _).mono ?_; rintro e wn ⟨rfl, rfl⟩
        go_wp2_with fail
        refine (next_any A B a0 len cap (min x.2 len) 2 bs _ hO.out hR.out (by omega) (by omega)).mono ?_; rintro e w6 ⟨rfl, o6, k6⟩
        rw [show min (min x.2 len + 2) len = min (x.2 + 2) len by omega] at o6
        have e6 : num bs (min x.2 len) 2 = num bs x.2 2 := by rw [← hR.out.bytes.1]; exact num_min bs x.2 2
        rw [e6]
        have l6 := hli.out.next (x.2 + 2) o6 k6 hEA (by rw [S5.out]; omega)
        have d6 := cell_of_row w6 W1.heap.size 4 _ _ _ l6.cells
        have f6 := frozen_of_row w6 W1.heap.size 4 _ _ l6.cells
        simp only [evCells] at d6
        have n6 := (num_bd hR.out.bytes.2.1 x.2 2).1
        replace l6 := Lib.hid l6
        clear o6 k6 e6
        go_wp2_with fail
        go_roundg (L - (y + 1))
        case measure => have := Hg.out; omega
        case rel => exact ⟨y + 1, vb, by omega, rfl, by go_num, by rw [hx.out, enm.out]; exact l6.out.set 4 (.int .i64 (num bs x.2 2)) _ rfl rfl hEA (by rw [S5.out]; omega)⟩
      · rw [enm] at c1
        unfold nmB at c1
        replace enm := Lib.hid enm
        go_wp2_with fail
        refine (number_n _ _).mono ?_; rintro e wn ⟨rfl, rfl⟩
        go_wp2_with fail
        refine (next_any A B a0 len cap (min x.2 len) 2 bs _ hO.out hR.out (by omega) (by omega)).mono ?_; rintro e w6 ⟨rfl, o6, k6⟩
        rw [show min (min x.2 len + 2) len = min (x.2 + 2) len by omega] at o6
        have e6 : num bs (min x.2 len) 2 = num bs x.2 2 := by rw [← hR.out.bytes.1]; exact num_min bs x.2 2
        rw [e6]
        have l6 := hli.out.next (x.2 + 2) o6 k6 hEA (by rw [S5.out]; omega)
        have d6 := cell_of_row w6 W1.heap.size 5 _ _ _ l6.cells
        have f6 := frozen_of_row w6 W1.heap.size 5 _ _ l6.cells
        simp only [evCells] at d6
        have n6 := (num_bd hR.out.bytes.2.1 x.2 2).1
        replace l6 := Lib.hid l6
        clear o6 k6 e6
        go_wp2_with fail
        go_roundg (L - (y + 1))
        case measure => have := Hg.out; omega
        case rel => exact ⟨y + 1, vb, by omega, rfl, by go_num, by rw [hx.out, enm.out]; exact l6.out.set 5 (.int .i64 (num bs x.2 2)) _ rfl rfl hEA (by rw [S5.out]; omega)⟩
      · rw [enm] at c1
        unfold nmB at c1
        replace enm := Lib.hid enm
        go_wp2_with fail
        refine (number_sort _ _).mono ?_; rintro e wn ⟨rfl, rfl⟩
        go_wp2_with fail
        refine (next_any A B a0 len cap (min x.2 len) 1 bs _ hO.out hR.out (by omega) (by omega)).mono ?_; rintro e w6 ⟨rfl, o6, k6⟩
        rw [show min (min x.2 len + 1) len = min (x.2 + 1) len by omega] at o6
        have e6 : num bs (min x.2 len) 1 = num bs x.2 1 := by rw [← hR.out.bytes.1]; exact num_min bs x.2 1
        rw [e6]
        have l6 := hli.out.next (x.2 + 1) o6 k6 hEA (by rw [S5.out]; omega)
        have d6 := cell_of_row w6 W1.heap.size 1 _ _ _ l6.cells
        have f6 := frozen_of_row w6 W1.heap.size 1 _ _ l6.cells
        simp only [evCells] at d6
        have n6 := (num_bd hR.out.bytes.2.1 x.2 1).1
        replace l6 := Lib.hid l6
        clear o6 k6 e6
        go_wp2_with fail
        go_roundg (L - (y + 1))
        case measure => have := Hg.out; omega
        case rel => exact ⟨y + 1, vb, by omega, rfl, by go_num, by rw [hx.out, enm.out]; exact l6.out.set 1 (.int .i64 (num bs x.2 1 % 4)) _ rfl rfl hEA (by rw [S5.out]; omega)⟩
      · rw [enm] at c1
        unfold nmB at c1
        have hb0 : x.1.b = [] := by rw [← ex.out]; exact bytes_last bs M y (p + 1) HM.out (by rw [hL.out]; exact hlt) enm
        replace hb0 := Lib.hid hb0
        replace enm := Lib.hid enm
        go_wp2_with fail
        refine (number_b _ _).mono ?_; rintro e wn ⟨rfl, rfl⟩
        go_wp2_with fail
        refine (next_any A B a0 len cap (min x.2 len) 2 bs _ hO.out hR.out (by omega) (by omega)).mono ?_; rintro e w6 ⟨rfl, o6, k6⟩
        rw [show min (min x.2 len + 2) len = min (x.2 + 2) len by omega] at o6
        have e6 : num bs (min x.2 len) 2 = num bs x.2 2 := by rw [← hR.out.bytes.1]; exact num_min bs x.2 2
        rw [e6]
        have l6 := hli.out.next (x.2 + 2) o6 k6 hEA (by rw [S5.out]; omega)
        have R6 := hR.out.kept k6 (fun _ _ h => h)
        have n6 := (num_bd hR.out.bytes.2.1 x.2 2).1
        have c6 : num bs x.2 2 % 4097 = (cnt bs x.2 : Int) := by unfold cnt; omega
        have b6 : cnt bs x.2 ≤ 4096 := by omega
        obtain ⟨C, hC⟩ : ∃ C, cnt bs x.2 = C := ⟨_, rfl⟩
        rw [hC] at c6 b6
        replace l6 := Lib.hid l6; replace R6 := Lib.hid R6; replace hC := Lib.hid hC
        clear o6 k6 e6
        replace c6 := Lib.hid c6
        go_wp2_with fail
        rw [c6.out]
        go_loopg [39] C (fun g v39 wq => ∃ (i : Nat) (vb' : Value), i ≤ C ∧ g = C - i ∧ v39 = .int .i64 i ∧ LI w5 wq W1.heap.size A w5.heap.size len ({ x.1 with b := run bs (x.2 + 2) i }, x.2 + 2 + i) vb')
        case atStart =>
          refine ⟨0, vb, Nat.zero_le _, rfl, rfl, ?_⟩
          have e : ({ x.1 with b := run bs (x.2 + 2) 0 } : Ev) = x.1 := by
            have h0 := hb0.out
            obtain ⟨⟨k, s', who, port, conn, n, b⟩, q⟩ := x
            simp only at h0; subst h0; rfl
          rw [e]; exact l6.out
        case round =>
          obtain ⟨i, vb', hi, hg2, rfl, hlq⟩ := hrel
          have Hg2 := Lib.hid hg2; clear hg2
          by_cases hiC : i < C
          · obtain ⟨ao, ln, cp, rfl⟩ : ∃ ao ln cp, vb' = Value.slice ao ln cp := by
              rcases hlq.own.2 with ⟨h, _⟩ | ⟨g', cap', cur, h, _⟩
              · exact ⟨_, _, _, h⟩
              · exact ⟨_, _, _, h⟩
            obtain ⟨i0, hi0, hz0, hz1, hz2⟩ := info_parts Try.info5
            have hRq : Rd wr A B a0 len cap bs := HR.out.kept (Chg_after K5.out hlq.chg (fun i hi e => by rcases e with e | e; exact e; exfalso; omega)) (fun _ _ h => h)
            have dE : wr.drew.cell? ⟨W1.heap.size, 6, none⟩ = some (.slice ao ln cp) := cell_of_row wr W1.heap.size 6 _ _ _ hlq.cells
            have dO : One wr.drew A (.int .i64 (min (x.2 + 2 + i) len : Nat)) 3 := hlq.at'
            have dR : Rd wr.drew A B a0 len cap bs := hRq.kept ((Chg.refl (fun _ => False) wr).drewN 1) (fun _ _ h => h.elim)
            have yb := byte_bd hRq.bytes.2.1 (x.2 + 2 + i)
            obtain ⟨Y, hY⟩ : ∃ Y, byte bs (x.2 + 2 + i) = Y := ⟨_, rfl⟩
            have NB := next_byte A B a0 len cap (x.2 + 2 + i) bs _ dO dR
            rw [hY] at yb NB
            replace NB := Lib.hid NB
            obtain ⟨y0, y1⟩ := yb
            replace hlq := Lib.hid hlq; replace dO := Lib.hid dO; replace dR := Lib.hid dR; replace hY := Lib.hid hY; replace hi0 := Lib.hid hi0; replace hz0 := Lib.hid hz0; replace hz1 := Lib.hid hz1; replace hz2 := Lib.hid hz2
            replace hRq := Lib.hid hRq
            have hi63 : i ≤ 4096 := by omega
            have hwY : IntKind.u8.wrap Y = Y := by rw [IntKind.wrap_u8]; omega
            have hEs : W1.heap.size < w5.heap.size := by rw [S5.out]; omega
            have hAs : A < w5.heap.size := by omega
            have hbs : w5.heap.size ≤ wr.heap.size := hlq.out.chg.size
            have hlenR : (run bs (x.2 + 2) i).length = i := run_length _ _ _
            replace hlenR := Lib.hid hlenR
            go_wp2_with fail
            go_region_law (first
              | (refine step_append_u8 _ (by rfl) _ _ _ (by rfl) w5.heap.size i0 Try.underlying22 hi0.out hz0.out hz1.out hz2.out (.slice ao ln cp) _ _ (by rfl) OW.out UW.out _ 1 1 [.int .u8 Y] (by rfl) (by rfl) (cell_one_new _ _ _) (by simp [Value.oneCell']) U1.out (by omega) B1.out B2.out B3.out _ (by rfl) ?_; intro g cap9 w9 hown hgrow hat hlt hu8; have r9 := L8.out.far ((Chg.refl (fun _ => False) _).alloc (.cells #[.int .u8 Y] 5)) hgrow hEs; have d9 := cell_of_row w9 W1.heap.size 6 _ _ _ r9; have f9 := frozen_of_row w9 W1.heap.size 6 _ _ r9; simp only [evCells] at d9; clear r9; have HO9 := Lib.hid hown; have HG9 := Lib.hid hgrow; have HU9 := Lib.hid hu8; clear hown hgrow hu8 hat)
              | (go_simp; go_at_call 35; (with_reducible refine NB.out.mono ?_); rintro e w8 ⟨rfl, o8, k8⟩; have k8' : Chg (· = A) wr w8 := ((Chg.refl (· = A) wr).drewN 1).trans k8; have l8 := hlq.out.next (x.2 + 2 + i + 1) o8 k8' hEA hAs; have d8 := cell_of_row w8 W1.heap.size 6 _ _ _ l8.cells; simp only [evCells] at d8; have d8a : (w8.alloc (.cells #[.int .u8 Y] 5)).cell? ⟨W1.heap.size, 6, none⟩ = some (.slice ao ln cp) := (World.cell?_alloc_lt w8 (.cells #[.int .u8 Y] 5) ⟨W1.heap.size, 6, none⟩ (lt_of_block l8.cells)).trans d8; have L8 := Lib.hid l8; have H8 := Lib.hid k8'; clear l8 k8 k8' o8; have OW := Lib.hid (L8.out.own.alloc (.cells #[.int .u8 Y] 5)); have UW := Lib.hid (L8.out.all.kept L8.out.own ((Chg.refl (fun _ => False) w8).alloc (.cells #[.int .u8 Y] 5)) (fun _ _ h => h)); have U1 := Lib.hid (one_u8 y0 y1); have B1 := Lib.hid (room1 hlenR.out hi63); have B2 := Lib.hid (room2 hlenR.out hi63); have B3 := Lib.hid (room3 hbs H8.out (.cells #[.int .u8 Y] 5)); go_wp2_with fail))
            all_goals
              have LA := Lib.hid (L8.out.append ((Chg.refl (fun _ => False) w8).alloc (.cells #[.int .u8 Y] 5)) HG9.out (y := Y) (by simpa using HO9.out) HU9.out rfl hEs hAs hEA)
              clear d8 d8a d9 f9
              go_wp2_with fail
              go_roundg (C - (i + 1))
              case measure => have := Hg2.out; omega
              case rel => exact ⟨i + 1, _, by omega, rfl, by go_num, by have h := LA.out; rw [← hY.out, ← run_succ] at h; exact h⟩
          · have hiE : i = C := by omega
            subst hiE
            have hst : Fold.step bs x .b = ({ x.1 with b := run bs (x.2 + 2) i }, x.2 + 2 + i) := by unfold Fold.step; rw [hC.out]
            replace hst := Lib.hid hst; replace hlq := Lib.hid hlq
            go_wp2_with fail
            go_roundg (L - (y + 1))
            case measure => have := Hg.out; omega
            case rel => exact ⟨y + 1, _, by omega, rfl, by go_num, by rw [hx.out, enm.out, hst.out]; exact hlq.out⟩
    · have hyL : y = L := by omega
      have ex : ((nms M).take y).foldl (Fold.step bs) (zero M, p + 1) = (evAt bs p, p + evLen bs p) := by
        rw [List.take_of_length_le (by rw [hL.out]; omega)]
        have h := fold_ev bs p HR.out.bytes.2.1
        rw [eN.out, eM.out] at h
        exact h
      rw [ex] at hli
      obtain ⟨ev, hev⟩ : ∃ ev, evAt bs p = ev := ⟨_, rfl⟩
      obtain ⟨q, hq⟩ : ∃ q, evLen bs p = q := ⟨_, rfl⟩
      rw [hev, hq] at hli
      obtain ⟨ao, ln, cp, rfl⟩ : ∃ ao ln cp, vb = Value.slice ao ln cp := by
        rcases hli.own.2 with ⟨h, _⟩ | ⟨g', cap', cur, h, _⟩
        · exact ⟨_, _, _, h⟩
        · exact ⟨_, _, _, h⟩
      have EB := hli.cells
      have ZB : wr.heap[w.heap.size]? = some (.cells #[.int .i64 0, .int .i64 0, .int .i64 0, .int .i64 0, .int .i64 0, .int .i64 0, .slice none 0 0] 34) := by
        rw [hli.chg.block w.heap.size (lt_of_block Z5.out) (by omega)]; exact Z5.out
      have e0 := cell_of_row wr W1.heap.size 0 _ _ _ EB
      have e1 := cell_of_row wr W1.heap.size 1 _ _ _ EB
      have e2 := cell_of_row wr W1.heap.size 2 _ _ _ EB
      have e3 := cell_of_row wr W1.heap.size 3 _ _ _ EB
      have e4 := cell_of_row wr W1.heap.size 4 _ _ _ EB
      have e5 := cell_of_row wr W1.heap.size 5 _ _ _ EB
      have e6 := cell_of_row wr W1.heap.size 6 _ _ _ EB
      have z0 := cell_of_row wr w.heap.size 0 _ _ _ ZB
      have z1 := cell_of_row wr w.heap.size 1 _ _ _ ZB
      have z2 := cell_of_row wr w.heap.size 2 _ _ _ ZB
      have z3 := cell_of_row wr w.heap.size 3 _ _ _ ZB
      have z4 := cell_of_row wr w.heap.size 4 _ _ _ ZB
      have z5 := cell_of_row wr w.heap.size 5 _ _ _ ZB
      have z6 := cell_of_row wr w.heap.size 6 _ _ _ ZB
      have f0 := frozen_of_row wr w.heap.size 0 _ _ ZB
      have f1 := frozen_of_row wr w.heap.size 1 _ _ ZB
      have f2 := frozen_of_row wr w.heap.size 2 _ _ ZB
      have f3 := frozen_of_row wr w.heap.size 3 _ _ ZB
      have f4 := frozen_of_row wr w.heap.size 4 _ _ ZB
      have f5 := frozen_of_row wr w.heap.size 5 _ _ ZB
      have f6 := frozen_of_row wr w.heap.size 6 _ _ ZB
      simp only [evCells] at e0 e1 e2 e3 e4 e5 e6
      replace EB := Lib.hid EB; replace ZB := Lib.hid ZB; replace hli := Lib.hid hli; replace hev := Lib.hid hev; replace hq := Lib.hid hq; replace ex := Lib.hid ex
      subst hyL
      go_wp2_with fail
      have KR : Chg (· = A) w wr := Chg_after K5.out hli.out.chg (fun i hi e => by rcases e with e | e; exact e; exfalso; omega)
      refine bodyPost_ret (results_cell_row rfl _ _ w.heap.size 34 _ (0, 0) _ rfl (set7 ZB.out) Try.underlying34 rfl (by kernel_rfl)) rfl ⟨_, by rw [hev.out]; rfl, ?_, ?_, ?_, chg7 KR (.inr (Nat.le_refl _))⟩
      · rw [hev.out]
        refine (owns_kept (S := fun b => b = w.heap.size) hli.out.own (chg7 (Chg.refl _ wr) (.inl rfl)) (fun b hb e => ?_)).mono (by rw [S5.out]; omega)
        rw [S5.out] at hb; omega
      · exact hli.out.all.kept (S := fun b => b = w.heap.size) hli.out.own (chg7 (Chg.refl _ wr) (.inl rfl)) (fun b hb e => by rw [S5.out] at hb; omega)
      · rw [hq.out]
        exact hli.out.at'.kept (S := fun b => b = w.heap.size) (chg7 (Chg.refl _ wr) (.inl rfl)) (by omega)

theorem event_any (A B : Nat) (a0 : Option Addr) (len cap p : Nat) (bs : List Int) (w : World) (hA : One w A (.int .i64 p) 3) (hR : Rd w A B a0 len cap bs) (hp : p < len) :
    Calls Try.prog 27 #[nextV A B] w fun e w' => ∃ vb, e = .returned (.agg (evCells (evAt bs p) vb)) ∧ w'.ownsRow w.heap.size 5 1 vb (evAt bs p).b.length ((evAt bs p).b.map (Value.int .u8)) ∧ U8Row w' vb ∧
      One w' A (.int .i64 (min (p + evLen bs p) len : Nat)) 3 ∧ Chg (· = A) w w' := by
  by_cases hk : num bs p 1 % 10 = 9
  · have e1 : evAt bs p = ⟨10, 0, 0, 0, 0, 0, []⟩ := by unfold evAt; rw [hk]; rfl
    have e2 : evLen bs p = 1 := by unfold evLen; rw [hk]; rfl
    refine (event_shut A B a0 len cap p bs w hA hR (by omega) hk).mono ?_
    rintro e w' ⟨rfl, h1, h2⟩
    rw [e1, e2]
    exact ⟨.slice none 0 0, rfl, World.ownsRow_nil _ _ _ _, U8Row.nil _, h1, h2⟩
  · exact event_other A B a0 len cap p bs w hA hR hp hk

end Go.Proofs.Ythdobpfojdcagaa.EventAny
