/-
  The walk of ScriptKnown.
-/
import Derived.Test.YthdobpfojdcagaaBytes
import Derived.Test.YthdobpfojdcagaaReads
set_option linter.unusedVariables false
namespace Go.Proofs.Ythdobpfojdcagaa.KnownW
open Go.RowKit Go.Proofs.Ythdobpfojdcagaa.Ev Go.Proofs.Ythdobpfojdcagaa.Fold Go.Proofs.Ythdobpfojdcagaa.Lay0 Go.Proofs.Ythdobpfojdcagaa.Bytes0 Go.Proofs.Ythdobpfojdcagaa.Next Go.Proofs.Ythdobpfojdcagaa.Li Go.Proofs.Ythdobpfojdcagaa.Events Go.Proofs.Ythdobpfojdcagaa.Same Go.Proofs.Ythdobpfojdcagaa.SameEv Go.Proofs.Ythdobpfojdcagaa.Is Go.Proofs.Ythdobpfojdcagaa.RBytes Go.Proofs.Ythdobpfojdcagaa.Lay Go.Proofs.Ythdobpfojdcagaa.Bytes Go.Proofs.Ythdobpfojdcagaa.Reads

theorem isEvs_bd {P : Nat → Prop} {w : World} {a : Option Addr} {len cap : Nat} {es : List Ev} (h : IsEvs P w a len cap es) : ∀ e ∈ es, ∀ y ∈ e.b, 0 ≤ y ∧ y ≤ 255 := by
  intro e he
  obtain ⟨i, hi, hie⟩ := List.getElem_of_mem he
  rcases h.cells with h0 | ⟨g, off, _, _, _, hc⟩
  · have := h.len_eq; omega
  · obtain ⟨a1, cp, k⟩ := hc i e (by rw [List.getElem?_eq_getElem hi, hie])
    exact k.isb.bytes.2.1
theorem outOf_bd {es : List Ev} (h : ∀ e ∈ es, ∀ y ∈ e.b, 0 ≤ y ∧ y ≤ 255) : ∀ y ∈ outOf es, 0 ≤ y ∧ y ≤ 255 := by
  intro y hy
  unfold outOf at hy
  split at hy
  · rw [List.mem_flatMap] at hy
    obtain ⟨e, he, hy⟩ := hy
    exact layE_bd (h e he) y hy
  · cases hy

theorem bytes_is {P : Nat → Prop} (a0 : Option Addr) (len cap : Nat) (es : List Ev) (w : World) (h : IsEvs P w a0 len cap es) (ok : ∀ e ∈ es, EvOk e) :
    Calls Try.prog 17 #[.slice a0 len cap] w fun e w' => ∃ a c, e = .returned (.tuple #[.slice a (outOf es).length c, .int .i64 (errOf es)]) ∧ IsB (fun _ => True) w' a (outOf es).length c (outOf es) ∧ Chg (fun _ => False) w w' :=
  (bytes_any a0 len cap es w h ok).mono fun e w' ⟨v, he, ho, hc⟩ => by
    obtain ⟨a, c, rfl, hb⟩ := isb_of_own ho (outOf_bd (isEvs_bd h))
    exact ⟨a, c, he, IsB.weak hb (fun _ _ _ => trivial), hc⟩

/-- Bytes of an event that stands in the text. -/
theorem bytes_lit (k s who port conn m : Int) (w : World) (ok : EvOk ⟨k, s, who, port, conn, m, []⟩) (r : Int) (out : List Int) (n : Nat) (hr : errOf [⟨k, s, who, port, conn, m, []⟩] = r) (ho : outOf [⟨k, s, who, port, conn, m, []⟩] = out) (hn : out.length = n) :
    Calls Try.prog 17 #[.slice (some ⟨w.heap.size, 0, none⟩) 1 1] (w.alloc (.cells #[.int .i64 k, .int .i64 s, .int .i64 who, .int .i64 port, .int .i64 conn, .int .i64 m, .slice none 0 0] 34)) fun e w' => ∃ a c, e = .returned (.tuple #[.slice a n c, .int .i64 r]) ∧ IsB (fun _ => True) w' a n c out ∧ Chg (fun _ => False) w w' := by
  subst hr; subst ho; subst hn
  have h1 := one_ev (P := fun _ => True) (w := w.alloc (.cells (evCells ⟨k, s, who, port, conn, m, []⟩ (.slice none 0 0)) 34)) (g := w.heap.size) (e := ⟨k, s, who, port, conn, m, []⟩) (a := none) (cp := 0) (heap_alloc_new w _) (isb_nil _ _)
  exact (bytes_is _ 1 1 _ _ h1 (by intro e he; simp only [List.mem_singleton] at he; subst he; exact ok)).mono fun e w' ⟨a, c, he, hb, hc⟩ => ⟨a, c, he, hb, ((Chg.refl _ w).alloc _).trans hc⟩

theorem events_nil (w : World) : Calls Try.prog 10 #[.slice none 0 0] w fun e w' => ∃ a c, e = .returned (.slice a 0 c) ∧ Chg (fun _ => False) w w' :=
  (events_is (fun _ => True) none 0 0 [] w (isb_nil _ w) (by omega)).mono fun e w' ⟨a, c, he, hr⟩ => ⟨a, c, he, hr.chg⟩

theorem is_lit2 (row b : List Int) (n z : Nat) (k s who port conn m : Int) (w : World) (hn : row.length = n) (hm : n ≤ 1000000) (hb : ∀ x ∈ row, 0 ≤ x ∧ x ≤ 255) (hz : b.length = z) (hz1 : z ≤ 1000000) (hbb : ∀ x ∈ b, 0 ≤ x ∧ x ≤ 255) (r : Bool) (hr : decide (evs row = [⟨k, s, who, port, conn, m, b⟩]) = r) :
    Calls Try.prog 19 #[.slice (some ⟨w.heap.size, 0, none⟩) n n, .agg #[.int .i64 k, .int .i64 s, .int .i64 who, .int .i64 port, .int .i64 conn, .int .i64 m, .slice (some ⟨w.heap.size + 1, 0, none⟩) z z]] ((w.alloc (.cells (row.map (Value.int .u8)).toArray 5)).alloc (.cells (b.map (Value.int .u8)).toArray 5)) fun e w' => e = .returned (.bool r) ∧ Chg (fun _ => False) w w' := by
  subst hr; subst hz
  have h2 := isb_lit (w.alloc (.cells (row.map (Value.int .u8)).toArray 5)) b b.length rfl hz1 hbb
  rw [show (w.alloc (.cells (row.map (Value.int .u8)).toArray 5)).heap.size = w.heap.size + 1 by simp] at h2
  exact (is_any (P := fun _ => True) (Q := fun _ => True) _ _ n n b.length row ⟨k, s, who, port, conn, m, b⟩ _ (keptT (isb_lit w row n hn hm hb) ((Chg.refl _ _).alloc _)) (by omega) h2).mono fun e w' h => ⟨h.1, (((Chg.refl _ w).alloc _).alloc _).trans h.2⟩

set_option maxRecDepth 100000 in
set_option maxHeartbeats 2000000 in
theorem scriptKnown_walk (W : World) : Calls Try.prog 6 #[] W fun e w' => e = .returned (.bool true) ∧ Below W.heap.size W w' := by
  have I1 := fun w => is_lit [9] 1 10 0 0 0 0 0 w rfl (by omega) (by decide) true (by decide)
  have I2 := fun w => is_lit [13] 1 4 0 0 0 0 0 w rfl (by omega) (by decide) true (by decide)
  have I3 := fun w => is_lit2 [2, 0, 1, 0, 2, 8, 9] [8, 9] 7 2 3 0 0 0 1 0 w rfl (by omega) (by decide) rfl (by omega) (by decide) true (by decide)
  have ok1 : EvOk ⟨6, 0, 0, 0, 0, 3, []⟩ := ⟨by decide, by decide, by decide, by decide, by decide, by decide, by decide, by decide, by decide, by decide, by decide, by decide⟩
  have ok2 : EvOk ⟨6, 0, 0, 0, 0, 65536, []⟩ := ⟨by decide, by decide, by decide, by decide, by decide, by decide, by decide, by decide, by decide, by decide, by decide, by decide⟩
  have ok3 : EvOk ⟨10, 0, 0, 0, 0, 1, []⟩ := ⟨by decide, by decide, by decide, by decide, by decide, by decide, by decide, by decide, by decide, by decide, by decide, by decide⟩
  have B1 := fun w => bytes_lit 6 0 0 0 0 3 w ok1 0 [5, 0, 3] 3 (by decide) (by decide) rfl
  have B2 := fun w => bytes_lit 6 0 0 0 0 65536 w ok2 2 [] 0 (by decide) (by decide) rfl
  have B3 := fun w => bytes_lit 10 0 0 0 0 1 w ok3 2 [] 0 (by decide) (by decide) rfl
  replace I1 := Lib.hid I1; replace I2 := Lib.hid I2; replace I3 := Lib.hid I3; replace B1 := Lib.hid B1; replace B2 := Lib.hid B2; replace B3 := Lib.hid B3
  clear ok1 ok2 ok3
  go_enter Try.func6, Try.ntmps6
  go_wp2_with fail
  refine (I1.out _).mono ?_
  rintro e w1 ⟨rfl, hc1⟩
  have C1 := Lib.hid hc1; clear hc1
  go_wp2_with fail
  refine (events_nil _).mono ?_
  rintro e w2 ⟨a2, c2, rfl, hc2⟩
  have C2 := Lib.hid (C1.out.trans hc2); clear hc2
  go_wp2_with fail
  refine (I2.out _).mono ?_
  rintro e w3 ⟨rfl, hc3⟩
  have C3 := Lib.hid (C2.out.trans hc3); clear hc3
  go_wp2_with fail
  refine (I3.out _).mono ?_
  rintro e w4 ⟨rfl, hc4⟩
  have C4 := Lib.hid (C3.out.trans hc4); clear hc4
  go_wp2_with fail
  refine (B1.out _).mono ?_
  rintro e w5 ⟨a5, c5, rfl, hb5, hc5⟩
  have C5 := Lib.hid (C4.out.trans hc5); have HB := Lib.hid hb5; clear hc5 hb5
  go_wp2_with fail
  refine (B2.out _).mono ?_
  rintro e w6 ⟨a6, c6, rfl, hb6, hc6⟩
  have C6 := Lib.hid (C5.out.trans hc6); replace HB := Lib.hid (keptT HB.out hc6); clear hc6 hb6
  go_wp2_with fail
  refine (B3.out _).mono ?_
  rintro e w7 ⟨a7, c7, rfl, hb7, hc7⟩
  have C7 := Lib.hid (C6.out.trans hc7); replace HB := Lib.hid (keptT HB.out hc7); clear hc7 hb7
  go_wp2_with fail
  refine (awake_any _).mono ?_
  rintro e w8 ⟨rfl, hc8⟩
  have C8 := Lib.hid (C7.out.trans hc8); replace HB := Lib.hid (keptT HB.out hc8); clear hc8
  go_wp2_with fail
  refine (same_bytes (P := fun _ => True) (Q := fun _ => True) (xs := [5, 0, 3]) (ys := [5, 0, 3]) _ (keptT HB.out ((Chg.refl _ _).alloc _)) (isb_lit w8 [5, 0, 3] 3 rfl (by omega) (by decide))).mono ?_
  rintro e w9 ⟨rfl, rfl⟩
  go_wp2_with fail
  go_ret
  exact ⟨by first | rfl | simp, toBelow (C8.out.alloc _)⟩

end Go.Proofs.Ythdobpfojdcagaa.KnownW
