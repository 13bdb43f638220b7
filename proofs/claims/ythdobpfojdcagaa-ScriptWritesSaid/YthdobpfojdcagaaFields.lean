/-
  The walk of fields: a new map, and what stands in it.
-/
import Derived.Test.YthdobpfojdcagaaNext
import Derived.Carry
import Derived.MapKept
set_option linter.unusedVariables false
namespace Go.Proofs.Ythdobpfojdcagaa.Fields
open Go.RowKit Go.Proofs.Ythdobpfojdcagaa.Ev Go.Proofs.Ythdobpfojdcagaa.Next

def putW (w : World) (r : Nat) (o : Obj) : World := { w with heap := w.heap.setIfInBounds r o }
theorem put_map {w : World} {r : Nat} {o o' : Obj} (h : w.heap[r]? = some o) : (putW w r o').heap[r]? = some o' := (MapKept.heap_set (o' := o') h).1
theorem put_chg (w : World) (r : Nat) (o : Obj) : Chg (· = r) w (putW w r o) :=
  ⟨rfl, rfl, rfl, by simp [putW], fun k hk hs => by
    show (w.heap.setIfInBounds r o)[k]? = _
    rw [Array.getElem?_setIfInBounds_ne (fun e => hs e.symm)]⟩
theorem put_size (w : World) (r : Nat) (o : Obj) : (putW w r o).heap.size = w.heap.size := by simp [putW]

theorem run_put {w : World} {r : Nat} {es : Array MapEntry} {clock : Nat} (k : Int) (v : Value) (hb : w.heap[r]? = some (.map es clock)) (hf : Instr.findNow (.int .i64) (.int .i64 k) es.toList 0 = some none) :
    (Instr.mapUpdate 57 (.map (some r)) (.int .i64 k) v).run Try.prog w = .ok () (putW w r (.map (es.push { key := .int .i64 k, val := v, born := clock }) (clock + 1))) := by
  have h1 := MapKept.run_getObj_map (P := Try.prog) hb
  have h2 := fun o => MapKept.run_setObj_map (P := Try.prog) o hb
  have h3 := MapKept.run_findKey (P := Try.prog) (w := w) Try.underlying3 hf
  have h4 := MapKept.run_checkKey (P := Try.prog) (w := w) (k := .int .i64 k) Try.underlying3 rfl false 9999
  simp only [Instr.mapUpdate, Sem.run_bind, run_underlying Try.underlying57, Result.andThen, h1, h2, h3, h4]
  rfl

/-- What stands behind the map that is being made. -/
structure Fs (w0 w : World) (es : Array MapEntry) (clock n : Nat) : Prop where
  map : w.heap[w0.heap.size]? = some (.map es clock)
  size : w.heap.size = w0.heap.size + (n + 1)
  chg : Chg (fun _ => False) w0 w

theorem Fs.zero (w : World) : Fs w (w.alloc (.map #[] 0)) #[] 0 0 :=
  ⟨by show (w.heap.push _)[w.heap.size]? = _; rw [Array.getElem?_push, if_pos rfl], by simp, (Chg.refl _ w).alloc _⟩
/-- One more: a row of names, and the entry. -/
theorem Fs.step {w0 w : World} {es : Array MapEntry} {clock n : Nat} (h : Fs w0 w es clock n) (k : Int) (cs : Array Value) (v : Value) (hf : Instr.findNow (.int .i64) (.int .i64 k) es.toList 0 = some none) :
    ∃ w1, (Instr.mapUpdate 57 (.map (some w0.heap.size)) (.int .i64 k) v).run Try.prog (w.alloc (.cells cs 9)) = .ok () w1 ∧
      Fs w0 w1 (es.push { key := .int .i64 k, val := v, born := clock }) (clock + 1) (n + 1) ∧ w1.heap[w0.heap.size + (n + 1)]? = some (.cells cs 9) ∧ Chg (fun b => b = w0.heap.size) w w1 := by
  have hlt := lt_of_block h.map
  have hm : (w.alloc (.cells cs 9)).heap[w0.heap.size]? = some (.map es clock) := by rw [Below.heap_alloc _ _ _ hlt]; exact h.map
  refine ⟨_, run_put k v hm hf, ⟨put_map hm, ?_, ?_⟩, ?_, ?_⟩
  · rw [put_size]; simp [h.size]; omega
  · refine ⟨h.chg.os, h.chg.tape, h.chg.output, ?_, fun b hb hs => ?_⟩
    · rw [put_size]; have := h.chg.size; simp; omega
    · rw [(put_chg _ w0.heap.size _).block b (by have := h.chg.size; simp; omega) (by omega), Below.heap_alloc _ _ _ (by have := h.chg.size; omega)]
      exact h.chg.block b hb hs
  · rw [(put_chg _ w0.heap.size _).block _ (by simp [h.size]) (by omega)]
    show (w.heap.push _)[_]? = _
    rw [← h.size, Array.getElem?_push, if_pos rfl]
  · exact ((Chg.refl _ w).alloc _).trans ⟨rfl, rfl, rfl, by rw [put_size]; exact Nat.le_refl _, fun b hb hs => (put_chg _ _ _).block b hb hs⟩
/-- The last one: without names. -/
theorem Fs.last {w0 w : World} {es : Array MapEntry} {clock n : Nat} (h : Fs w0 w es clock n) (k : Int) (v : Value) (hf : Instr.findNow (.int .i64) (.int .i64 k) es.toList 0 = some none) :
    ∃ w1, (Instr.mapUpdate 57 (.map (some w0.heap.size)) (.int .i64 k) v).run Try.prog w = .ok () w1 ∧
      Fs w0 w1 (es.push { key := .int .i64 k, val := v, born := clock }) (clock + 1) n ∧ Chg (fun b => b = w0.heap.size) w w1 := by
  refine ⟨_, run_put k v h.map hf, ⟨put_map h.map, by rw [put_size]; exact h.size, ?_⟩, put_chg _ _ _⟩
  refine ⟨h.chg.os, h.chg.tape, h.chg.output, by rw [put_size]; exact h.chg.size, fun b hb hs => ?_⟩
  rw [(put_chg _ w0.heap.size _).block b (by have := h.chg.size; omega) (by omega)]
  exact h.chg.block b hb hs

/-- The names' rows, as they stand behind block h. -/
def names (i : Nat) : Array Value := match i with
  | 0 => #[.string ⟨#[119, 104, 111]⟩, .string ⟨#[112, 111, 114, 116]⟩, .string ⟨#[98]⟩]
  | 1 => #[.string ⟨#[119, 104, 111]⟩, .string ⟨#[112, 111, 114, 116]⟩, .string ⟨#[98]⟩]
  | 2 => #[.string ⟨#[115, 111, 114, 116]⟩, .string ⟨#[119, 104, 111]⟩]
  | 3 => #[.string ⟨#[99, 111, 110, 110]⟩, .string ⟨#[98]⟩]
  | 4 => #[.string ⟨#[99, 111, 110, 110]⟩]
  | 5 => #[.string ⟨#[99, 111, 110, 110]⟩, .string ⟨#[110]⟩]
  | 6 => #[.string ⟨#[110]⟩]
  | 7 => #[.string ⟨#[110]⟩]
  | 8 => #[.string ⟨#[110]⟩, .string ⟨#[98]⟩]
  | _ => #[]
/-- The entries of the map at block h. -/
def entries (h : Nat) : Array MapEntry := #[{ key := .int .i64 1, val := .slice (some ⟨h + 1, 0, none⟩) 3 3, born := 0 }, { key := .int .i64 8, val := .slice (some ⟨h + 2, 0, none⟩) 3 3, born := 1 }, { key := .int .i64 2, val := .slice (some ⟨h + 3, 0, none⟩) 2 2, born := 2 }, { key := .int .i64 3, val := .slice (some ⟨h + 4, 0, none⟩) 2 2, born := 3 }, { key := .int .i64 4, val := .slice (some ⟨h + 5, 0, none⟩) 1 1, born := 4 }, { key := .int .i64 5, val := .slice (some ⟨h + 6, 0, none⟩) 2 2, born := 5 }, { key := .int .i64 6, val := .slice (some ⟨h + 7, 0, none⟩) 1 1, born := 6 }, { key := .int .i64 7, val := .slice (some ⟨h + 8, 0, none⟩) 1 1, born := 7 }, { key := .int .i64 9, val := .slice (some ⟨h + 9, 0, none⟩) 2 2, born := 8 }, { key := .int .i64 10, val := .slice none 0 0, born := 9 }]

set_option maxHeartbeats 4000000 in
theorem fields_any (w : World) :
    Calls Try.prog 37 #[] w fun e w' => e = .returned (.map (some w.heap.size)) ∧ w'.heap[w.heap.size]? = some (.map (entries w.heap.size) 10) ∧ (∀ i, i < 9 → w'.heap[w.heap.size + (i + 1)]? = some (.cells (names i) 9)) ∧ Chg (fun _ => False) w w' ∧ w'.heap.size = w.heap.size + 10 := by
  have hmk := fun t w => run_makeMap (P := Try.prog) t w
  have F0 := Fs.zero w
  obtain ⟨W0, hW0⟩ : ∃ x, x = w.alloc (.map #[] 0) := ⟨_, rfl⟩
  rw [← hW0] at F0
  have H0 := Lib.hid hW0.symm
  obtain ⟨W1, I1, F1, R1, C1⟩ := F0.step 1 (#[.string ⟨#[119, 104, 111]⟩, .string ⟨#[112, 111, 114, 116]⟩, .string ⟨#[98]⟩]) (.slice (some ⟨w.heap.size + 1, 0, none⟩) 3 3) rfl
  have S0 := F0.size
  obtain ⟨W2, I2, F2, R2, C2⟩ := F1.step 8 (#[.string ⟨#[119, 104, 111]⟩, .string ⟨#[112, 111, 114, 116]⟩, .string ⟨#[98]⟩]) (.slice (some ⟨w.heap.size + 2, 0, none⟩) 3 3) rfl
  have S1 := F1.size
  obtain ⟨W3, I3, F3, R3, C3⟩ := F2.step 2 (#[.string ⟨#[115, 111, 114, 116]⟩, .string ⟨#[119, 104, 111]⟩]) (.slice (some ⟨w.heap.size + 3, 0, none⟩) 2 2) rfl
  have S2 := F2.size
  obtain ⟨W4, I4, F4, R4, C4⟩ := F3.step 3 (#[.string ⟨#[99, 111, 110, 110]⟩, .string ⟨#[98]⟩]) (.slice (some ⟨w.heap.size + 4, 0, none⟩) 2 2) rfl
  have S3 := F3.size
  obtain ⟨W5, I5, F5, R5, C5⟩ := F4.step 4 (#[.string ⟨#[99, 111, 110, 110]⟩]) (.slice (some ⟨w.heap.size + 5, 0, none⟩) 1 1) rfl
  have S4 := F4.size
  obtain ⟨W6, I6, F6, R6, C6⟩ := F5.step 5 (#[.string ⟨#[99, 111, 110, 110]⟩, .string ⟨#[110]⟩]) (.slice (some ⟨w.heap.size + 6, 0, none⟩) 2 2) rfl
  have S5 := F5.size
  obtain ⟨W7, I7, F7, R7, C7⟩ := F6.step 6 (#[.string ⟨#[110]⟩]) (.slice (some ⟨w.heap.size + 7, 0, none⟩) 1 1) rfl
  have S6 := F6.size
  obtain ⟨W8, I8, F8, R8, C8⟩ := F7.step 7 (#[.string ⟨#[110]⟩]) (.slice (some ⟨w.heap.size + 8, 0, none⟩) 1 1) rfl
  have S7 := F7.size
  obtain ⟨W9, I9, F9, R9, C9⟩ := F8.step 9 (#[.string ⟨#[110]⟩, .string ⟨#[98]⟩]) (.slice (some ⟨w.heap.size + 9, 0, none⟩) 2 2) rfl
  have S8 := F8.size
  have S9 := F9.size
  obtain ⟨W10, I10, F10, C10⟩ := F9.last 10 (.slice none 0 0) rfl
  replace F0 := Lib.hid F0
  replace F1 := Lib.hid F1; replace C1 := Lib.hid C1
  replace F2 := Lib.hid F2; replace C2 := Lib.hid C2
  replace F3 := Lib.hid F3; replace C3 := Lib.hid C3
  replace F4 := Lib.hid F4; replace C4 := Lib.hid C4
  replace F5 := Lib.hid F5; replace C5 := Lib.hid C5
  replace F6 := Lib.hid F6; replace C6 := Lib.hid C6
  replace F7 := Lib.hid F7; replace C7 := Lib.hid C7
  replace F8 := Lib.hid F8; replace C8 := Lib.hid C8
  replace F9 := Lib.hid F9; replace C9 := Lib.hid C9
  replace F10 := Lib.hid F10; replace C10 := Lib.hid C10
  replace R1 := Lib.hid R1
  replace R2 := Lib.hid R2
  replace R3 := Lib.hid R3
  replace R4 := Lib.hid R4
  replace R5 := Lib.hid R5
  replace R6 := Lib.hid R6
  replace R7 := Lib.hid R7
  replace R8 := Lib.hid R8
  replace R9 := Lib.hid R9
  rw [hW0] at I1
  go_enter Try.func37, Try.ntmps37
  go_wp2_with fail
  go_ret
  have D9 := C10.out
  have D8 := C9.out.trans D9
  have D7 := C8.out.trans D8
  have D6 := C7.out.trans D7
  have D5 := C6.out.trans D6
  have D4 := C5.out.trans D5
  have D3 := C4.out.trans D4
  have D2 := C3.out.trans D3
  have D1 := C2.out.trans D2
  refine ⟨rfl, F10.out.map, ?_, F10.out.chg, F10.out.size⟩
  intro i hi
  match i, hi with
  | 0, _ => exact (D1.block _ (by rw [F1.out.size]; omega) (by omega)).trans R1.out
  | 1, _ => exact (D2.block _ (by rw [F2.out.size]; omega) (by omega)).trans R2.out
  | 2, _ => exact (D3.block _ (by rw [F3.out.size]; omega) (by omega)).trans R3.out
  | 3, _ => exact (D4.block _ (by rw [F4.out.size]; omega) (by omega)).trans R4.out
  | 4, _ => exact (D5.block _ (by rw [F5.out.size]; omega) (by omega)).trans R5.out
  | 5, _ => exact (D6.block _ (by rw [F6.out.size]; omega) (by omega)).trans R6.out
  | 6, _ => exact (D7.block _ (by rw [F7.out.size]; omega) (by omega)).trans R7.out
  | 7, _ => exact (D8.block _ (by rw [F8.out.size]; omega) (by omega)).trans R8.out
  | 8, _ => exact (D9.block _ (by rw [F9.out.size]; omega) (by omega)).trans R9.out

/-- What fields leaves. -/
structure Flds (w w' : World) : Prop where
  map : w'.heap[w.heap.size]? = some (.map (entries w.heap.size) 10)
  rows : ∀ i, i < 9 → w'.heap[w.heap.size + (i + 1)]? = some (.cells (names i) 9)
  chg : Chg (fun _ => False) w w'
  size : w'.heap.size = w.heap.size + 10
theorem fields_fd (w : World) : Calls Try.prog 37 #[] w fun e w' => e = .returned (.map (some w.heap.size)) ∧ Flds w w' :=
  (fields_any w).mono fun _ _ ⟨h1, h2, h3, h4, h5⟩ => ⟨h1, h2, h3, h4, h5⟩

/-- What the map says of a kind. -/
theorem run_look {w : World} {h : Nat} (k : Int) (i : Nat) (v : Value) (hb : w.heap[h]? = some (.map (entries h) 10)) (hf : Instr.findNow (.int .i64) (.int .i64 k) (entries h).toList 0 = some (some (i, v))) :
    (Instr.lookup 57 (.map (some h)) (.int .i64 k) false).run Try.prog w = .ok v w := by
  have h1 := MapKept.run_getObj_map (P := Try.prog) hb
  have h3 := MapKept.run_findKey (P := Try.prog) (w := w) Try.underlying3 hf
  have h4 := fun e => MapKept.run_checkKey (P := Try.prog) (w := w) (k := .int .i64 k) Try.underlying3 rfl e 9999
  simp only [Instr.lookup, Sem.run_bind, run_underlying Try.underlying57, Result.andThen, h1, h3, h4, Sem.run_pure]
  rfl

end Go.Proofs.Ythdobpfojdcagaa.Fields
