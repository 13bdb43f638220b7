/-
  The walks of the document's reader: a number, bytes.
-/
import Derived.Test.YthdobpfojdcagaaEvents
set_option linter.unusedVariables false
namespace Go.Proofs.Ythdobpfojdcagaa.RRead
open Go.RowKit Go.Proofs.Ythdobpfojdcagaa.Ev Go.Proofs.Ythdobpfojdcagaa.Next Go.Proofs.Ythdobpfojdcagaa.Fields Go.Proofs.Ythdobpfojdcagaa.Event Go.Proofs.Ythdobpfojdcagaa.Fold Go.Proofs.Ythdobpfojdcagaa.U8 Go.Proofs.Ythdobpfojdcagaa.Li Go.Proofs.Ythdobpfojdcagaa.EventAny Go.Proofs.Ythdobpfojdcagaa.Events

/-- The reader's block. -/
structure RR (w : World) (R : Nat) (a0 : Option Addr) (len cap p : Nat) (bs : List Int) : Prop where
  blk : w.heap[R]? = some (.cells #[.slice a0 len cap, .int .i64 p] 51 (0, 0))
  bytes : IsBytes w a0 len bs
  off : ∀ b o, a0 = some ⟨b, o, none⟩ → len ≠ 0 → b ≠ R
theorem RR.kept {S : Nat → Prop} {w w' : World} {R : Nat} {a0 : Option Addr} {len cap p : Nat} {bs : List Int} (h : RR w R a0 len cap p bs) (c : Chg S w w') (hs : ∀ b, b < w.heap.size → ¬ S b) : RR w' R a0 len cap p bs :=
  ⟨by rw [c.block R (lt_of_block h.blk) (hs R (lt_of_block h.blk))]; exact h.blk, h.bytes.kept c (fun b o e h0 => by
    rcases h.bytes.2.2 with h1 | ⟨b', o', e', hb', _⟩
    · exact absurd h1 h0
    · rw [e] at e'; injection e' with e'; injection e' with e1 _ _; subst e1; exact hs _ hb'), h.off⟩
theorem RR.step {w : World} {R : Nat} {a0 : Option Addr} {len cap p : Nat} {bs : List Int} (h : RR w R a0 len cap p bs) (q : Nat) : RR (w.setCell ⟨R, 1, none⟩ (.int .i64 q)) R a0 len cap q bs := by
  refine ⟨heap_set h.blk 1 (.int .i64 q), h.bytes.kept (S := (· = R)) ((Chg.refl (· = R) w).setCell (p := ⟨R, 1, none⟩) (.inl rfl) _) (fun b o e h0 => h.off b o e h0), h.off⟩

set_option maxRecDepth 100000 in
set_option maxHeartbeats 2000000 in
theorem number_any (R : Nat) (a0 : Option Addr) (len cap p size : Nat) (bs : List Int) (w : World) (h : RR w R a0 len cap p bs) (hs : size ≤ 4) (hp : p ≤ 1000000000000) (hm : len ≤ 1000000000000) :
    Calls Try.prog 39 #[.pointer (some ⟨R, 0, none⟩), .int .i64 size] w fun e w' => e = .returned (.int .i64 (num bs p size)) ∧ RR w' R a0 len cap (p + size) bs ∧ Chg (· = R) w w' := by
  have H := Lib.hid h; clear h
  go_enter Try.func39, Try.ntmps39
  go_wp2_with fail
  go_loopg [5, 6] size (fun g v5 v6 wr => ∃ i : Nat, i ≤ size ∧ g = size - i ∧ v6 = .int .i64 i ∧ v5 = .int .i64 (num bs p i) ∧ RR wr R a0 len cap (p + i) bs ∧ Chg (· = R) w wr)
  case atStart => exact ⟨0, Nat.zero_le _, rfl, rfl, rfl, H.out, Chg.refl _ _⟩
  case round =>
    obtain ⟨i, hi, hg, rfl, rfl, hr, hch⟩ := hrel
    have Hg := Lib.hid hg; clear hg
    have c0 := cell_of_row wr R 0 _ _ _ hr.blk
    have c1 := cell_of_row wr R 1 _ _ _ hr.blk
    have f1 := frozen_of_row wr R 1 _ _ hr.blk
    simp only [List.getElem?_toArray, List.getElem?_cons_zero, List.getElem?_cons_succ] at c0 c1
    obtain ⟨n0, n1⟩ := num_bd hr.bytes.2.1 p i
    by_cases hlt : i < size
    · have hn1 : num bs p i < 16777216 := by
        have : (256 : Int) ^ i ≤ 256 ^ 3 := by
          match i, (show i ≤ 3 by omega) with
          | 0, _ => decide
          | 1, _ => decide
          | 2, _ => decide
          | 3, _ => decide
        have e : (256 : Int) ^ 3 = 16777216 := by decide
        omega
      clear n1
      have hstep : num bs p (i + 1) = num bs p i * 256 + byte bs (p + i) := rfl
      obtain ⟨N, hN⟩ : ∃ N, num bs p i = N := ⟨_, rfl⟩
      rw [hN] at hstep hn1 n0 ⊢
      replace hstep := Lib.hid hstep; replace hN := Lib.hid hN
      obtain ⟨y0, y1⟩ := byte_bd hr.bytes.2.1 (p + i)
      obtain ⟨q, hq⟩ : ∃ q, p + i = q := ⟨_, rfl⟩
      have hq1 : q ≤ 1000000000004 := by omega
      have hqi : (p : Int) + (i : Int) = (q : Int) := by omega
      rw [hq] at c1
      obtain ⟨Y, hY⟩ : ∃ Y, byte bs (p + i) = Y := ⟨_, rfl⟩
      rw [hY] at y0 y1
      by_cases hin : q < len
      · rcases hr.bytes.2.2 with h0 | ⟨b, off, rfl, hbl, hc⟩
        · omega
        have c3 := hc q hin
        rw [← hq, hY, hq] at c3
        replace hq := Lib.hid hq; replace hqi := Lib.hid hqi
        replace hY := Lib.hid hY; replace hc := Lib.hid hc
        replace hr := Lib.hid hr; replace hch := Lib.hid hch
        have q0 : (0 : Int) ≤ 256 * N := by omega
        have q1 : 256 * N + Y < 4294967296 := by omega
        go_wp2_with fail
        go_quiet (fail)
        obtain ⟨W, hW⟩ : ∃ W, W = wr.drewN nq := ⟨_, rfl⟩
        have hrW : RR W R (some ⟨b, off, none⟩) len cap (p + i) bs := by rw [hW]; exact hr.out.kept ((Chg.refl (fun _ => False) wr).drewN nq) (fun _ _ h => h)
        have chW : Chg (· = R) w W := by rw [hW]; exact hch.out.drewN nq
        have c3W : W.cell? ⟨b, off + q, none⟩ = some (.int .u8 Y) := by rw [hW]; exact c3
        rw [hq.out] at hrW
        rw [← hW]
        clear hW c0 c1 f1 c3
        have c0 := cell_of_row W R 0 _ _ _ hrW.blk
        have c1 := cell_of_row W R 1 _ _ _ hrW.blk
        have f1 := frozen_of_row W R 1 _ _ hrW.blk
        simp only [List.getElem?_toArray, List.getElem?_cons_zero, List.getElem?_cons_succ] at c0 c1
        replace hrW := Lib.hid hrW; replace chW := Lib.hid chW
        go_wp2_with fail
        go_quiet (fail)
        obtain ⟨W2, hW2⟩ : ∃ W2, W2 = W.drewN nq := ⟨_, rfl⟩
        have hr2 : RR W2 R (some ⟨b, off, none⟩) len cap q bs := by rw [hW2]; exact hrW.out.kept ((Chg.refl (fun _ => False) W).drewN nq) (fun _ _ h => h)
        have ch2 : Chg (· = R) w W2 := by rw [hW2]; exact chW.out.drewN nq
        rw [← hW2]
        clear hW2 c0 c1 f1 c3W
        have c1 := cell_of_row W2 R 1 _ _ _ hr2.blk
        have f1 := frozen_of_row W2 R 1 _ _ hr2.blk
        simp only [List.getElem?_toArray, List.getElem?_cons_zero, List.getElem?_cons_succ] at c1
        have HZ := Lib.hid (hr2.step (q + 1)); have CZ := Lib.hid (ch2.setCell (p := ⟨R, 1, none⟩) (.inl rfl) (.int .i64 (q + 1 : Nat)))
        clear hr2 ch2
        go_wp2_with fail
        go_roundg (size - (i + 1))
        case measure => have := Hg.out; omega
        case rel => exact ⟨i + 1, by omega, rfl, by go_num, by rw [hstep.out, hY.out]; exact congrArg _ (by omega), by rw [show p + (i + 1) = q + 1 by have := hq.out; omega]; exact HZ.out, CZ.out⟩
      · have hY0 : Y = 0 := by
          rw [← hY]; unfold byte; rw [List.getD_eq_getElem?_getD, List.getElem?_eq_none (by have := hr.bytes.1; omega)]; rfl
        replace hq := Lib.hid hq; replace hqi := Lib.hid hqi
        replace hY := Lib.hid hY; replace hY0 := Lib.hid hY0
        replace hr := Lib.hid hr; replace hch := Lib.hid hch
        have q0 : (0 : Int) ≤ 256 * N := by omega
        have q1 : 256 * N < 4294967296 := by omega
        go_wp2_with fail
        go_quiet (fail)
        obtain ⟨W, hW⟩ : ∃ W, W = wr.drewN nq := ⟨_, rfl⟩
        have hr2 : RR W R a0 len cap (p + i) bs := by rw [hW]; exact hr.out.kept ((Chg.refl (fun _ => False) wr).drewN nq) (fun _ _ h => h)
        have ch2 : Chg (· = R) w W := by rw [hW]; exact hch.out.drewN nq
        rw [hq.out] at hr2
        rw [← hW]
        clear hW c0 c1 f1
        have c1 := cell_of_row W R 1 _ _ _ hr2.blk
        have f1 := frozen_of_row W R 1 _ _ hr2.blk
        simp only [List.getElem?_toArray, List.getElem?_cons_zero, List.getElem?_cons_succ] at c1
        have HZ := Lib.hid (hr2.step (q + 1)); have CZ := Lib.hid (ch2.setCell (p := ⟨R, 1, none⟩) (.inl rfl) (.int .i64 (q + 1 : Nat)))
        clear hr2 ch2
        go_wp2_with fail
        go_roundg (size - (i + 1))
        case measure => have := Hg.out; omega
        case rel => exact ⟨i + 1, by omega, rfl, by go_num, by rw [hstep.out, hY.out, hY0.out]; exact congrArg _ (by omega), by rw [show p + (i + 1) = q + 1 by have := hq.out; omega]; exact HZ.out, CZ.out⟩
    · have hi2 : i = size := by omega
      subst hi2
      clear n0 n1
      replace hr := Lib.hid hr; replace hch := Lib.hid hch
      go_wp2_with fail
      go_ret
      exact ⟨rfl, hr.out, hch.out⟩

theorem num_one (bs : List Int) (p : Nat) : num bs p 1 = byte bs p := by
  show num bs p 0 * 256 + byte bs (p + 0) = _
  show (0 : Int) * 256 + byte bs p = _
  omega
theorem number_byte (R : Nat) (a0 : Option Addr) (len cap p : Nat) (bs : List Int) (w : World) (h : RR w R a0 len cap p bs) (hp : p ≤ 1000000000000) (hm : len ≤ 1000000000000) :
    Calls Try.prog 39 #[.pointer (some ⟨R, 0, none⟩), .int .i64 1] w fun e w' => e = .returned (.int .i64 (byte bs p)) ∧ RR w' R a0 len cap (p + 1) bs ∧ Chg (· = R) w w' := by
  rw [← num_one]
  exact number_any R a0 len cap p 1 bs w h (by omega) hp hm

theorem RR.grown {w w' : World} {R : Nat} {a0 : Option Addr} {len cap p : Nat} {bs : List Int} {row : Option Nat} (h : RR w R a0 len cap p bs) (hg : w.grownBy w' row) (hn : ∀ b, b < w.heap.size → some b = row → b ≠ R ∧ ∀ o, len ≠ 0 → a0 ≠ some ⟨b, o, none⟩) : RR w' R a0 len cap p bs := by
  have c : Chg (fun b => some b = row) w w' := ⟨hg.os, hg.tape, hg.output, hg.size, fun k hk hs => hg.block k hk hs⟩
  exact ⟨by rw [c.block R (lt_of_block h.blk) (fun e => (hn R (lt_of_block h.blk) e).1 rfl)]; exact h.blk, h.bytes.kept c (fun b o e h0 hs => by
    rcases h.bytes.2.2 with h1 | ⟨b', o', e', hb', _⟩
    · exact absurd h1 h0
    · rw [e] at e'; injection e' with e'; injection e' with e1 _ _; subst e1; exact (hn _ hb' hs).2 o h0 e), h.off⟩

/-- What a function of the reader's leaves: the reader, and new blocks. -/
structure RB (w0 wr : World) (R : Nat) (a0 : Option Addr) (len cap p : Nat) (bs : List Int) : Prop where
  rr : RR wr R a0 len cap p bs
  chg : Chg (· = R) w0 wr
  old : R < w0.heap.size
  oldB : ∀ b o, len ≠ 0 → a0 = some ⟨b, o, none⟩ → b < w0.heap.size
theorem RB.refl {w : World} {R : Nat} {a0 : Option Addr} {len cap p : Nat} {bs : List Int} (h : RR w R a0 len cap p bs) : RB w w R a0 len cap p bs :=
  ⟨h, Chg.refl _ _, lt_of_block h.blk, fun b o h0 e => by
    rcases h.bytes.2.2 with h1 | ⟨b', o', e', hb', _⟩
    · exact absurd h1 h0
    · rw [e] at e'; injection e' with e'; injection e' with e1 _ _; subst e1; exact hb'⟩
theorem RB.step {w0 w w' : World} {R : Nat} {a0 : Option Addr} {len cap p q : Nat} {bs : List Int} (h : RB w0 w R a0 len cap p bs) (k : RR w' R a0 len cap q bs) (c : Chg (· = R) w w') : RB w0 w' R a0 len cap q bs := ⟨k, h.chg.trans c, h.old, h.oldB⟩
theorem RB.alloc {w0 w : World} {R : Nat} {a0 : Option Addr} {len cap p : Nat} {bs : List Int} (h : RB w0 w R a0 len cap p bs) (o : Obj) : RB w0 (w.alloc o) R a0 len cap p bs :=
  ⟨h.rr.kept ((Chg.refl (fun _ => False) w).alloc o) (fun _ _ k => k), h.chg.alloc o, h.old, h.oldB⟩
theorem RB.grown {w0 w w' : World} {R : Nat} {a0 : Option Addr} {len cap p : Nat} {bs : List Int} {row : Option Nat} (h : RB w0 w R a0 len cap p bs) (hg : w.grownBy w' row) (hn : ∀ b, row = some b → w0.heap.size ≤ b) : RB w0 w' R a0 len cap p bs := by
  refine ⟨h.rr.grown hg (fun b hb e => ?_), h.chg.grown hg (fun k hk => .inr (hn k hk)), h.old, h.oldB⟩
  have := hn b e.symm
  have := h.old
  refine ⟨by omega, fun o h0 e2 => ?_⟩
  have := h.oldB b o h0 e2
  omega

set_option maxRecDepth 100000 in
set_option maxHeartbeats 2000000 in
theorem bytes_any (R : Nat) (a0 : Option Addr) (len cap p : Nat) (bs : List Int) (w : World) (h : RR w R a0 len cap p bs) (hp : p ≤ 100000000000) (hm : len ≤ 1000000000000) :
    Calls Try.prog 40 #[.pointer (some ⟨R, 0, none⟩)] w fun e w' => ∃ v, e = .returned v ∧ w'.ownsRow w.heap.size 5 1 v (cnt bs p) ((run bs (p + 2) (cnt bs p)).map (Value.int .u8)) ∧ U8Row w' v ∧ RR w' R a0 len cap (p + 2 + cnt bs p) bs ∧ Chg (· = R) w w' := by
  have H0 := RB.refl h
  have hbb := h.bytes.2.1
  have H := Lib.hid H0; clear h H0
  have Hb := Lib.hid hbb; clear hbb
  obtain ⟨i0, hi0, hz0, hz1, hz2⟩ := info_parts Try.info5
  replace hi0 := Lib.hid hi0; replace hz0 := Lib.hid hz0; replace hz1 := Lib.hid hz1; replace hz2 := Lib.hid hz2
  go_enter Try.func40, Try.ntmps40
  go_wp2_with fail
  refine (number_any R a0 len cap p 2 bs w H.out.rr (by omega) (by omega) hm).mono ?_
  rintro e w1 ⟨rfl, hr1, hc1⟩
  have H1 := Lib.hid (H.out.step hr1 hc1); clear hr1 hc1
  have n6 := (num_bd Hb.out p 2).1
  have c6 : num bs p 2 % 4097 = (cnt bs p : Int) := by unfold cnt; omega
  have b6 : cnt bs p ≤ 4096 := by omega
  obtain ⟨C, hC⟩ : ∃ C, cnt bs p = C := ⟨_, rfl⟩
  rw [hC] at c6 b6
  replace hC := Lib.hid hC; replace c6 := Lib.hid c6
  obtain ⟨X, hX⟩ : ∃ X, num bs p 2 = X := ⟨_, rfl⟩
  rw [hX] at n6 c6 ⊢
  clear hX
  go_wp2_with fail
  rw [c6.out]
  go_loopg [4, 5] C (fun g v4 v5 wr => ∃ (i : Nat) (ao : Option Addr) (cp : Nat), i ≤ C ∧ g = C - i ∧ v5 = .int .i64 i ∧ v4 = .slice ao i cp ∧ wr.ownsRow w.heap.size 5 1 (.slice ao i cp) i ((run bs (p + 2) i).map (Value.int .u8)) ∧ U8Row wr (.slice ao i cp) ∧ RB w wr R a0 len cap (p + 2 + i) bs)
  case atStart => exact ⟨0, none, 0, Nat.zero_le _, rfl, rfl, rfl, World.ownsRow_nil _ _ _ _, U8Row.nil _, H1.out⟩
  case round =>
    obtain ⟨i, ao, cp, hi, hg, rfl, rfl, hown, hall, hrb⟩ := hrel
    have Hg := Lib.hid hg; clear hg
    have Hown := Lib.hid hown; have Hrb := Lib.hid hrb; have Hall := Lib.hid hall; clear hown hrb hall
    by_cases hlt : i < C
    · go_wp2_with fail
      refine (number_byte R a0 len cap (p + 2 + i) bs wr Hrb.out.rr (by omega) hm).mono ?_
      rintro e w3 ⟨rfl, hr3, hc3⟩
      obtain ⟨y0, y1⟩ := byte_bd Hb.out (p + 2 + i)
      have hrs := run_succ bs (p + 2) i
      obtain ⟨Y, hY⟩ : ∃ Y, byte bs (p + 2 + i) = Y := ⟨_, rfl⟩
      rw [hY] at y0 y1 hrs ⊢
      replace hY := Lib.hid hY; replace hrs := Lib.hid hrs
      have hwY : IntKind.u8.wrap Y = Y := by rw [IntKind.wrap_u8]; omega
      have OA := Lib.hid ((owns_kept Hown.out hc3 (fun b hb e => by have := H.out.old; omega)).alloc (.cells #[.int .u8 Y] 5))
      have UA := Lib.hid (((Hall.out.kept Hown.out hc3 (fun b hb e => by have := H.out.old; omega))).kept (owns_kept Hown.out hc3 (fun b hb e => by have := H.out.old; omega)) ((Chg.refl (fun _ => False) w3).alloc (.cells #[.int .u8 Y] 5)) (fun _ _ h => h))
      have U1 := Lib.hid (one_u8 y0 y1)
      have RA := Lib.hid ((Hrb.out.step hr3 hc3).alloc (.cells #[.int .u8 Y] 5))
      have B1 := Lib.hid (room1 (rfl : i = i) (by omega : i ≤ 4096)); have B2 := Lib.hid (room2 (rfl : i = i) (by omega : i ≤ 4096))
      have B3 := Lib.hid (show w.heap.size ≤ (w3.alloc (.cells #[.int .u8 Y] 5)).heap.size from RA.out.chg.size)
      clear hr3 hc3
      go_wp2_with (at_builtin; refine wpList_append_u8 _ rfl _ _ _ rfl w.heap.size i0 Try.underlying22 hi0.out hz0.out hz1.out hz2.out _ _ _ rfl OA.out UA.out _ 1 1 [.int .u8 Y] rfl rfl (cell_one_new _ _ _) (by simp [Value.oneCell']) U1.out (by omega) B1.out B2.out B3.out _ rfl ?_; intro g cap9 w9 hown9 hgrow hat9 hlt9 hu9)
      have RN := Lib.hid (RA.out.grown hgrow (fun b hb => (OA.out.lt b hb).1))
      have ON : w9.ownsRow w.heap.size 5 1 (.slice (some ⟨g, 0, none⟩) (i + 1) cap9) (i + 1) ((run bs (p + 2) (i + 1)).map (Value.int .u8)) := by
        rw [hrs.out, List.map_append]; exact hown9
      replace ON := Lib.hid ON; have UN := Lib.hid hu9
      clear hown9 hgrow hat9 hu9
      go_roundg (C - (i + 1))
      case measure => have := Hg.out; omega
      case rel => exact ⟨i + 1, _, cap9, by omega, rfl, by go_num, rfl, ON.out, UN.out, RN.out⟩
    · have hie : i = C := by omega
      subst hie
      go_wp2_with fail
      go_ret
      exact ⟨_, rfl, by rw [hC.out]; exact Hown.out, Hall.out, by rw [hC.out]; exact Hrb.out.rr, Hrb.out.chg⟩

end Go.Proofs.Ythdobpfojdcagaa.RRead
