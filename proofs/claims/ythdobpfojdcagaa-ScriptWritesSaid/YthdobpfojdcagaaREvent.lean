/-
  The walk of the document's event. (Printed by tools/mk_revent.py.)
-/
import Derived.Test.YthdobpfojdcagaaRRead
set_option linter.unusedVariables false
namespace Go.Proofs.Ythdobpfojdcagaa.REvent
open Go.RowKit Go.Proofs.Ythdobpfojdcagaa.Ev Go.Proofs.Ythdobpfojdcagaa.Next Go.Proofs.Ythdobpfojdcagaa.Fields Go.Proofs.Ythdobpfojdcagaa.Event Go.Proofs.Ythdobpfojdcagaa.Fold Go.Proofs.Ythdobpfojdcagaa.U8 Go.Proofs.Ythdobpfojdcagaa.Li Go.Proofs.Ythdobpfojdcagaa.EventAny Go.Proofs.Ythdobpfojdcagaa.Events Go.Proofs.Ythdobpfojdcagaa.RRead

/-- The event so far, in its block, and the reader. -/
structure RE (w2 wr : World) (E R : Nat) (a0 : Option Addr) (len cap : Nat) (bs : List Int) (x : Ev × Nat) (vb : Value) : Prop where
  cells : wr.heap[E]? = some (.cells (evCells x.1 vb) 34 (0, 0))
  own : wr.ownsRow w2.heap.size 5 1 vb x.1.b.length (x.1.b.map (Value.int .u8))
  all : U8Row wr vb
  rr : RR wr R a0 len cap x.2 bs
  chg : Chg (fun b => b = R ∨ b = E) w2 wr
  ne : E ≠ R
  ltE : E < w2.heap.size
  ltR : R < w2.heap.size
  offE : ∀ b o, len ≠ 0 → a0 = some ⟨b, o, none⟩ → b ≠ E

section
variable {w2 wr w' : World} {E R : Nat} {a0 : Option Addr} {len cap : Nat} {bs : List Int} {x : Ev × Nat} {vb : Value}
theorem RE.num (h : RE w2 wr E R a0 len cap bs x vb) {q : Nat} (k : RR w' R a0 len cap q bs) (c : Chg (· = R) wr w') : RE w2 w' E R a0 len cap bs (x.1, q) vb :=
  ⟨by rw [c.block E (lt_of_block h.cells) h.ne]; exact h.cells, owns_kept h.own c (fun b hb e => by have := h.ltR; omega), h.all.kept h.own c (fun b hb e => by have := h.ltR; omega), k, h.chg.trans (c.weak (fun _ _ e => .inl e)), h.ne, h.ltE, h.ltR, h.offE⟩
theorem rr_set (h : RE w2 wr E R a0 len cap bs x vb) (i : Nat) (u : Value) : RR (wr.setCell ⟨E, i, none⟩ u) R a0 len cap x.2 bs := by
  have c := (Chg.refl (fun b => b = E) wr).setCell (p := ⟨E, i, none⟩) (.inl rfl) u
  exact ⟨by rw [c.block R (lt_of_block h.rr.blk) (fun e => h.ne e.symm)]; exact h.rr.blk, h.rr.bytes.kept c (fun b o e h0 => h.offE b o h0 e), h.rr.off⟩
theorem RE.set (h : RE w2 wr E R a0 len cap bs x vb) (i : Nat) (u : Value) (c' : Ev) (hc : (evCells x.1 vb).setIfInBounds i u = evCells c' vb) (hb : c'.b = x.1.b) : RE w2 (wr.setCell ⟨E, i, none⟩ u) E R a0 len cap bs (c', x.2) vb :=
  ⟨by rw [← hc]; exact heap_set h.cells i u, by rw [hb]; exact owns_kept h.own ((Chg.refl (fun b => b = E) wr).setCell (p := ⟨E, i, none⟩) (.inl rfl) u) (fun b hb e => by have := h.ltE; omega), h.all.kept h.own ((Chg.refl (fun b => b = E) wr).setCell (p := ⟨E, i, none⟩) (.inl rfl) u) (fun b hb e => by have := h.ltE; omega), rr_set h i u,
   h.chg.trans ((Chg.refl (fun b => b = R ∨ b = E) wr).setCell (p := ⟨E, i, none⟩) (.inl (.inr rfl)) u), h.ne, h.ltE, h.ltR, h.offE⟩
/-- Behind bytes: the reader has gone on, there is a new row. -/
theorem RE.far (h : RE w2 wr E R a0 len cap bs x vb) {q : Nat} (k : RR w' R a0 len cap q bs) (c : Chg (· = R) wr w') : w'.heap[E]? = some (.cells (evCells x.1 vb) 34 (0, 0)) := (h.num k c).cells
theorem RE.bytes (h : RE w2 wr E R a0 len cap bs x vb) {q n : Nat} {v : Value} {ys : List Int} (hn : n = ys.length) (k : RR w' R a0 len cap q bs) (c : Chg (· = R) wr w') (o : w'.ownsRow wr.heap.size 5 1 v n (ys.map (Value.int .u8))) (hu : U8Row w' v) : RE w2 (w'.setCell ⟨E, 6, none⟩ v) E R a0 len cap bs ({ x.1 with b := ys }, q) v := by
  subst hn
  have h1 := h.num k c
  have c1 := (Chg.refl (fun b => b = E) w').setCell (p := ⟨E, 6, none⟩) (.inl rfl) v
  exact ⟨heap_set h1.cells 6 v, owns_kept (o.mono h.chg.size) c1 (fun b hb e => by have := h.ltE; omega), hu.kept (o.mono h.chg.size) c1 (fun b hb e => by have := h.ltE; omega), rr_set h1 6 v, h1.chg.trans ((Chg.refl (fun b => b = R ∨ b = E) w').setCell (p := ⟨E, 6, none⟩) (.inl (.inr rfl)) v), h.ne, h.ltE, h.ltR, h.offE⟩
end
theorem rr_kept {S : Nat → Prop} {w w' : World} {R : Nat} {a0 : Option Addr} {len cap p : Nat} {bs : List Int} (h : RR w R a0 len cap p bs) (c : Chg S w w') (hR : ¬ S R) (hA : ∀ b o, len ≠ 0 → a0 = some ⟨b, o, none⟩ → ¬ S b) : RR w' R a0 len cap p bs :=
  ⟨by rw [c.block R (lt_of_block h.blk) hR]; exact h.blk, h.bytes.kept c (fun b o e h0 => hA b o h0 e), h.off⟩
/-- The result's block is written last. -/
theorem close {w w2 wz : World} {E R : Nat} {a0 : Option Addr} {len cap : Nat} {bs : List Int} {ev : Ev} {q : Nat} {vb : Value} (KK : Chg (· = R) w w2) (LE : RE w2 wz E R a0 len cap bs (ev, q) vb) (hE : w.heap.size < E) (hR : R < w.heap.size)
    (hO : ∀ b o, len ≠ 0 → a0 = some ⟨b, o, none⟩ → b < w.heap.size) {wf : World} (c7 : Chg (fun b => b = w.heap.size) wz wf) :
    wf.ownsRow w.heap.size 5 1 vb ev.b.length (ev.b.map (Value.int .u8)) ∧ U8Row wf vb ∧ RR wf R a0 len cap q bs ∧ Chg (· = R) w wf := by
  have hlt := LE.ltE
  refine ⟨?_, LE.all.kept LE.own c7 (fun b hb e => by omega), rr_kept LE.rr c7 (by omega) (fun b o h0 e => by have := hO b o h0 e; omega), ?_⟩
  · exact (owns_kept LE.own c7 (fun b hb e => by omega)).mono KK.size
  · exact Chg_after (Chg_after KK LE.chg (fun i hi e => by rcases e with e | e; exact e; omega)) c7 (fun i hi e => by omega)

set_option maxRecDepth 100000 in
set_option maxHeartbeats 4000000 in
theorem revent_1 (R : Nat) (a0 : Option Addr) (len cap p : Nat) (bs : List Int) (w : World) (h : RR w R a0 len cap p bs) (hp : p ≤ 10000000000) (hm : len ≤ 1000000000000) (hk : num bs p 1 % 10 = 0) :
    Calls Try.prog 28 #[.pointer (some ⟨R, 0, none⟩)] w fun e w' => ∃ vb, e = .returned (.agg (evCells (evAt bs p) vb)) ∧ w'.ownsRow w.heap.size 5 1 vb (evAt bs p).b.length ((evAt bs p).b.map (Value.int .u8)) ∧ U8Row w' vb ∧ RR w' R a0 len cap (p + evLen bs p) bs ∧ Chg (· = R) w w' := by
  have hbb := h.bytes.2.1
  have hR0 := lt_of_block h.blk
  have hO := (RB.refl h).oldB
  have hf := fold_ev bs p hbb
  rw [show num bs p 1 % 10 + 1 = 1 by omega, show nms 1 = [.who, .port, .b] by rfl] at hf
  simp only [List.foldl_cons, List.foldl_nil] at hf
  obtain ⟨ev, hev⟩ : ∃ ev, evAt bs p = ev := ⟨_, rfl⟩
  obtain ⟨qe, hqe⟩ : ∃ qe, p + evLen bs p = qe := ⟨_, rfl⟩
  rw [hev, hqe] at hf
  rw [hev, hqe]
  clear hev hqe
  have H := Lib.hid h; have HO := Lib.hid hO; have Hb := Lib.hid hbb
  clear h hO hbb
  replace hk := Lib.hid hk; replace hf := Lib.hid hf
  go_enter Try.func28, Try.ntmps28
  go_wp2_with fail
  obtain ⟨W0, hW0⟩ : ∃ x, x = w.alloc (.cells #[.int .i64 0, .int .i64 0, .int .i64 0, .int .i64 0, .int .i64 0, .int .i64 0, .slice none 0 0] 34) := ⟨_, rfl⟩
  rw [← hW0]
  have C0 : Chg (fun _ => False) w W0 := by rw [hW0]; exact (Chg.refl _ w).alloc _
  have S0 : W0.heap.size = w.heap.size + 1 := by rw [hW0]; simp
  have R0 := H.out.kept C0 (fun _ _ h => h)
  have Z0 : W0.heap[w.heap.size]? = some (.cells #[.int .i64 0, .int .i64 0, .int .i64 0, .int .i64 0, .int .i64 0, .int .i64 0, .slice none 0 0] 34) := by
    rw [hW0]; show (w.heap.push _)[w.heap.size]? = _; rw [Array.getElem?_push, if_pos rfl]
  clear hW0
  refine (number_any R a0 len cap p 1 bs W0 R0 (by omega) (by omega) hm).mono ?_
  rintro e W1 ⟨rfl, R1, C1⟩
  have hN := (num_bd Hb.out p 1).1
  obtain ⟨N, eN⟩ : ∃ N, num bs p 1 = N := ⟨_, rfl⟩
  have hk1 := hk.out
  rw [eN] at hN hk1 ⊢
  have Z1 : W1.heap[w.heap.size]? = some (.cells #[.int .i64 0, .int .i64 0, .int .i64 0, .int .i64 0, .int .i64 0, .int .i64 0, .slice none 0 0] 34) := by
    rw [C1.block w.heap.size (by omega) (by omega)]; exact Z0
  have hlt1 : w.heap.size < W1.heap.size := lt_of_block Z1
  have C2 : Chg (fun _ => False) W1 (W1.alloc (.cells (evCells (zero 1) (.slice none 0 0)) 34)) := (Chg.refl _ W1).alloc _
  have E2 : (W1.alloc (.cells (evCells (zero 1) (.slice none 0 0)) 34)).heap[W1.heap.size]? = some (.cells (evCells (zero 1) (.slice none 0 0)) 34) := heap_alloc_new W1 _
  have S2 : (W1.alloc (.cells (evCells (zero 1) (.slice none 0 0)) 34)).heap.size = W1.heap.size + 1 := by simp
  have Z2 : (W1.alloc (.cells (evCells (zero 1) (.slice none 0 0)) 34)).heap[w.heap.size]? = some (.cells #[.int .i64 0, .int .i64 0, .int .i64 0, .int .i64 0, .int .i64 0, .int .i64 0, .slice none 0 0] 34) := by
    rw [C2.block w.heap.size (by omega) (fun h => h)]; exact Z1
  have re0 : RE (W1.alloc (.cells (evCells (zero 1) (.slice none 0 0)) 34)) (W1.alloc (.cells (evCells (zero 1) (.slice none 0 0)) 34)) W1.heap.size R a0 len cap bs (zero 1, p + 1) (.slice none 0 0) :=
    ⟨E2, World.ownsRow_nil _ _ _ _, U8Row.nil _, R1.kept C2 (fun _ _ h => h), Chg.refl _ _, by omega, by omega, by omega, fun b o h0 e1 e2 => by have := HO.out b o h0 e1; omega⟩
  have KK : Chg (· = R) w (W1.alloc (.cells (evCells (zero 1) (.slice none 0 0)) 34)) := ((C0.weak (fun _ _ h => h.elim)).trans C1).trans (C2.weak (fun _ _ h => h.elim))
  obtain ⟨x0, hx0⟩ : ∃ x0, ((zero 1, p + 1) : Ev × Nat) = x0 := ⟨_, rfl⟩
  have hq0 : x0.2 = p + 1 := by rw [← hx0]
  rw [hx0] at hf re0
  replace Z2 := Lib.hid Z2; replace re0 := Lib.hid re0; replace KK := Lib.hid KK; replace eN := Lib.hid eN; replace hq0 := Lib.hid hq0
  clear Z0 Z1 C0 C1 C2 E2 S2 hx0 R0 R1
  go_wp2_with fail
  clear hk1
  obtain ⟨W2, hW2⟩ : ∃ x, x = W1.alloc (.cells (evCells (zero 1) (.slice none 0 0)) 34) := ⟨_, rfl⟩
  rw [← hW2] at re0 KK Z2
  change Calls _ _ _ (W1.alloc (.cells (evCells (zero 1) (.slice none 0 0)) 34)) _
  rw [← hW2]
  clear hW2
  refine (number_any R a0 len cap x0.2 4 bs _ re0.out.rr (by omega) (by have := hq0.out; omega) hm).mono ?_
  rintro e v0 ⟨rfl, rr0, cc0⟩
  have n0 := (num_bd Hb.out x0.2 4).1
  have l0 := re0.out.num rr0 cc0
  have f0 := frozen_of_row v0 W1.heap.size 2 _ _ l0.cells
  have g0 := cell_of_row v0 W1.heap.size 2 _ _ _ l0.cells
  simp only [evCells] at g0
  have re1 : RE W2 (v0.setCell ⟨W1.heap.size, 2, none⟩ (.int .i64 (num bs x0.2 4))) W1.heap.size R a0 len cap bs (Fold.step bs x0 .who) (.slice none 0 0) := l0.set 2 _ _ rfl rfl
  clear rr0 cc0
  obtain ⟨x1, hx1⟩ : ∃ y, Fold.step bs x0 .who = y := ⟨_, rfl⟩
  have hq1 : x1.2 = p + 1 + 4 := by
    rw [← hx1]; show x0.2 + 4 = _; have := hq0.out; omega
  rw [hx1] at re1 hf
  replace re1 := Lib.hid re1; replace hq1 := Lib.hid hq1; replace l0 := Lib.hid l0
  clear hx1
  go_wp2_with fail
  clear g0 f0 n0
  refine (number_any R a0 len cap x1.2 2 bs _ re1.out.rr (by omega) (by have := hq1.out; omega) hm).mono ?_
  rintro e v1 ⟨rfl, rr1, cc1⟩
  have n1 := (num_bd Hb.out x1.2 2).1
  have l1 := re1.out.num rr1 cc1
  have f1 := frozen_of_row v1 W1.heap.size 3 _ _ l1.cells
  have g1 := cell_of_row v1 W1.heap.size 3 _ _ _ l1.cells
  simp only [evCells] at g1
  have re2 : RE W2 (v1.setCell ⟨W1.heap.size, 3, none⟩ (.int .i64 (num bs x1.2 2))) W1.heap.size R a0 len cap bs (Fold.step bs x1 .port) (.slice none 0 0) := l1.set 3 _ _ rfl rfl
  clear rr1 cc1
  obtain ⟨x2, hx2⟩ : ∃ y, Fold.step bs x1 .port = y := ⟨_, rfl⟩
  have hq2 : x2.2 = p + 1 + 6 := by
    rw [← hx2]; show x1.2 + 2 = _; have := hq1.out; omega
  rw [hx2] at re2 hf
  replace re2 := Lib.hid re2; replace hq2 := Lib.hid hq2; replace l1 := Lib.hid l1
  clear hx2
  go_wp2_with fail
  clear g1 f1 n1
  refine (bytes_any R a0 len cap x2.2 bs _ re2.out.rr (by have := hq2.out; omega) hm).mono ?_
  rintro e v2 ⟨vb, rfl, ow2, uu2, rr2, cc2⟩
  have l2 := re2.out.num rr2 cc2
  have f2 := frozen_of_row v2 W1.heap.size 6 _ _ l2.cells
  have EB := l2.cells
  have e0 := cell_of_row v2 W1.heap.size 0 _ _ _ EB
  have e1 := cell_of_row v2 W1.heap.size 1 _ _ _ EB
  have e2 := cell_of_row v2 W1.heap.size 2 _ _ _ EB
  have e3 := cell_of_row v2 W1.heap.size 3 _ _ _ EB
  have e4 := cell_of_row v2 W1.heap.size 4 _ _ _ EB
  have e5 := cell_of_row v2 W1.heap.size 5 _ _ _ EB
  have e6 := cell_of_row v2 W1.heap.size 6 _ _ _ EB
  have ZE := Z2.out
  rw [← l2.chg.block w.heap.size (lt_of_block ZE) (by omega)] at ZE
  have z0 := cell_of_row v2 w.heap.size 0 _ _ _ ZE
  have z1 := cell_of_row v2 w.heap.size 1 _ _ _ ZE
  have z2 := cell_of_row v2 w.heap.size 2 _ _ _ ZE
  have z3 := cell_of_row v2 w.heap.size 3 _ _ _ ZE
  have z4 := cell_of_row v2 w.heap.size 4 _ _ _ ZE
  have z5 := cell_of_row v2 w.heap.size 5 _ _ _ ZE
  have z6 := cell_of_row v2 w.heap.size 6 _ _ _ ZE
  have y0 := frozen_of_row v2 w.heap.size 0 _ _ ZE
  have y1 := frozen_of_row v2 w.heap.size 1 _ _ ZE
  have y2 := frozen_of_row v2 w.heap.size 2 _ _ ZE
  have y3 := frozen_of_row v2 w.heap.size 3 _ _ ZE
  have y4 := frozen_of_row v2 w.heap.size 4 _ _ ZE
  have y5 := frozen_of_row v2 w.heap.size 5 _ _ ZE
  have y6 := frozen_of_row v2 w.heap.size 6 _ _ ZE
  simp only [evCells] at e0 e1 e2 e3 e4 e5 e6
  obtain ⟨ao, ln, cp, hvb⟩ : ∃ ao ln cp, vb = Value.slice ao ln cp := by
    rcases ow2.2 with ⟨h, _⟩ | ⟨g', cap', cur, h, _⟩
    · exact ⟨_, _, _, h⟩
    · exact ⟨_, _, _, h⟩
  subst hvb
  have re3 : RE W2 (v2.setCell ⟨W1.heap.size, 6, none⟩ (.slice ao ln cp)) W1.heap.size R a0 len cap bs (Fold.step bs x2 .b) (.slice ao ln cp) := re2.out.bytes (run_length bs _ _).symm rr2 cc2 ow2 uu2
  clear ow2 uu2
  clear rr2 cc2
  rw [hf.out] at re3
  obtain ⟨hev, -⟩ := Prod.mk.inj (show (({ x2.1 with b := run bs (x2.2 + 2) (cnt bs x2.2) } : Ev), x2.2 + 2 + cnt bs x2.2) = (ev, qe) from hf.out)
  have ZF : (v2.setCell ⟨W1.heap.size, 6, none⟩ (.slice ao ln cp)).heap[w.heap.size]? = some (.cells #[.int .i64 0, .int .i64 0, .int .i64 0, .int .i64 0, .int .i64 0, .int .i64 0, .slice none 0 0] 34) := by
    rw [heap_setCell_other _ _ _ _ (by show w.heap.size ≠ W1.heap.size; omega)]; exact ZE
  replace ZF := Lib.hid ZF; replace hev := Lib.hid hev; replace re3 := Lib.hid re3; replace l2 := Lib.hid l2; replace EB := Lib.hid EB; replace ZE := Lib.hid ZE
  go_wp2_with fail
  refine bodyPost_ret (results_cell_row rfl _ _ w.heap.size 34 _ (0, 0) _ rfl (set7 ZF.out) Try.underlying34 rfl (by kernel_rfl)) rfl ⟨(.slice ao ln cp), by rw [← hev.out]; rfl, close KK.out re3.out hlt1 hR0 HO.out (chg7 (Chg.refl _ _) (.inl rfl))⟩

set_option maxRecDepth 100000 in
set_option maxHeartbeats 4000000 in
theorem revent_2 (R : Nat) (a0 : Option Addr) (len cap p : Nat) (bs : List Int) (w : World) (h : RR w R a0 len cap p bs) (hp : p ≤ 10000000000) (hm : len ≤ 1000000000000) (hk : num bs p 1 % 10 = 1) :
    Calls Try.prog 28 #[.pointer (some ⟨R, 0, none⟩)] w fun e w' => ∃ vb, e = .returned (.agg (evCells (evAt bs p) vb)) ∧ w'.ownsRow w.heap.size 5 1 vb (evAt bs p).b.length ((evAt bs p).b.map (Value.int .u8)) ∧ U8Row w' vb ∧ RR w' R a0 len cap (p + evLen bs p) bs ∧ Chg (· = R) w w' := by
  have hbb := h.bytes.2.1
  have hR0 := lt_of_block h.blk
  have hO := (RB.refl h).oldB
  have hf := fold_ev bs p hbb
  rw [show num bs p 1 % 10 + 1 = 2 by omega, show nms 2 = [.sort, .who] by rfl] at hf
  simp only [List.foldl_cons, List.foldl_nil] at hf
  obtain ⟨ev, hev⟩ : ∃ ev, evAt bs p = ev := ⟨_, rfl⟩
  obtain ⟨qe, hqe⟩ : ∃ qe, p + evLen bs p = qe := ⟨_, rfl⟩
  rw [hev, hqe] at hf
  rw [hev, hqe]
  clear hev hqe
  have H := Lib.hid h; have HO := Lib.hid hO; have Hb := Lib.hid hbb
  clear h hO hbb
  replace hk := Lib.hid hk; replace hf := Lib.hid hf
  go_enter Try.func28, Try.ntmps28
  go_wp2_with fail
  obtain ⟨W0, hW0⟩ : ∃ x, x = w.alloc (.cells #[.int .i64 0, .int .i64 0, .int .i64 0, .int .i64 0, .int .i64 0, .int .i64 0, .slice none 0 0] 34) := ⟨_, rfl⟩
  rw [← hW0]
  have C0 : Chg (fun _ => False) w W0 := by rw [hW0]; exact (Chg.refl _ w).alloc _
  have S0 : W0.heap.size = w.heap.size + 1 := by rw [hW0]; simp
  have R0 := H.out.kept C0 (fun _ _ h => h)
  have Z0 : W0.heap[w.heap.size]? = some (.cells #[.int .i64 0, .int .i64 0, .int .i64 0, .int .i64 0, .int .i64 0, .int .i64 0, .slice none 0 0] 34) := by
    rw [hW0]; show (w.heap.push _)[w.heap.size]? = _; rw [Array.getElem?_push, if_pos rfl]
  clear hW0
  refine (number_any R a0 len cap p 1 bs W0 R0 (by omega) (by omega) hm).mono ?_
  rintro e W1 ⟨rfl, R1, C1⟩
  have hN := (num_bd Hb.out p 1).1
  obtain ⟨N, eN⟩ : ∃ N, num bs p 1 = N := ⟨_, rfl⟩
  have hk1 := hk.out
  rw [eN] at hN hk1 ⊢
  have Z1 : W1.heap[w.heap.size]? = some (.cells #[.int .i64 0, .int .i64 0, .int .i64 0, .int .i64 0, .int .i64 0, .int .i64 0, .slice none 0 0] 34) := by
    rw [C1.block w.heap.size (by omega) (by omega)]; exact Z0
  have hlt1 : w.heap.size < W1.heap.size := lt_of_block Z1
  have C2 : Chg (fun _ => False) W1 (W1.alloc (.cells (evCells (zero 2) (.slice none 0 0)) 34)) := (Chg.refl _ W1).alloc _
  have E2 : (W1.alloc (.cells (evCells (zero 2) (.slice none 0 0)) 34)).heap[W1.heap.size]? = some (.cells (evCells (zero 2) (.slice none 0 0)) 34) := heap_alloc_new W1 _
  have S2 : (W1.alloc (.cells (evCells (zero 2) (.slice none 0 0)) 34)).heap.size = W1.heap.size + 1 := by simp
  have Z2 : (W1.alloc (.cells (evCells (zero 2) (.slice none 0 0)) 34)).heap[w.heap.size]? = some (.cells #[.int .i64 0, .int .i64 0, .int .i64 0, .int .i64 0, .int .i64 0, .int .i64 0, .slice none 0 0] 34) := by
    rw [C2.block w.heap.size (by omega) (fun h => h)]; exact Z1
  have re0 : RE (W1.alloc (.cells (evCells (zero 2) (.slice none 0 0)) 34)) (W1.alloc (.cells (evCells (zero 2) (.slice none 0 0)) 34)) W1.heap.size R a0 len cap bs (zero 2, p + 1) (.slice none 0 0) :=
    ⟨E2, World.ownsRow_nil _ _ _ _, U8Row.nil _, R1.kept C2 (fun _ _ h => h), Chg.refl _ _, by omega, by omega, by omega, fun b o h0 e1 e2 => by have := HO.out b o h0 e1; omega⟩
  have KK : Chg (· = R) w (W1.alloc (.cells (evCells (zero 2) (.slice none 0 0)) 34)) := ((C0.weak (fun _ _ h => h.elim)).trans C1).trans (C2.weak (fun _ _ h => h.elim))
  obtain ⟨x0, hx0⟩ : ∃ x0, ((zero 2, p + 1) : Ev × Nat) = x0 := ⟨_, rfl⟩
  have hq0 : x0.2 = p + 1 := by rw [← hx0]
  rw [hx0] at hf re0
  replace Z2 := Lib.hid Z2; replace re0 := Lib.hid re0; replace KK := Lib.hid KK; replace eN := Lib.hid eN; replace hq0 := Lib.hid hq0
  clear Z0 Z1 C0 C1 C2 E2 S2 hx0 R0 R1
  go_wp2_with fail
  clear hk1
  obtain ⟨W2, hW2⟩ : ∃ x, x = W1.alloc (.cells (evCells (zero 2) (.slice none 0 0)) 34) := ⟨_, rfl⟩
  rw [← hW2] at re0 KK Z2
  change Calls _ _ _ (W1.alloc (.cells (evCells (zero 2) (.slice none 0 0)) 34)) _
  rw [← hW2]
  clear hW2
  refine (number_any R a0 len cap x0.2 1 bs _ re0.out.rr (by omega) (by have := hq0.out; omega) hm).mono ?_
  rintro e v0 ⟨rfl, rr0, cc0⟩
  have n0 := (num_bd Hb.out x0.2 1).1
  have l0 := re0.out.num rr0 cc0
  have f0 := frozen_of_row v0 W1.heap.size 1 _ _ l0.cells
  have g0 := cell_of_row v0 W1.heap.size 1 _ _ _ l0.cells
  simp only [evCells] at g0
  have re1 : RE W2 (v0.setCell ⟨W1.heap.size, 1, none⟩ (.int .i64 (num bs x0.2 1 % 4))) W1.heap.size R a0 len cap bs (Fold.step bs x0 .sort) (.slice none 0 0) := l0.set 1 _ _ rfl rfl
  clear rr0 cc0
  obtain ⟨x1, hx1⟩ : ∃ y, Fold.step bs x0 .sort = y := ⟨_, rfl⟩
  have hq1 : x1.2 = p + 1 + 1 := by
    rw [← hx1]; show x0.2 + 1 = _; have := hq0.out; omega
  rw [hx1] at re1 hf
  replace re1 := Lib.hid re1; replace hq1 := Lib.hid hq1; replace l0 := Lib.hid l0
  clear hx1
  go_wp2_with fail
  clear g0 f0 n0
  refine (number_any R a0 len cap x1.2 4 bs _ re1.out.rr (by omega) (by have := hq1.out; omega) hm).mono ?_
  rintro e v1 ⟨rfl, rr1, cc1⟩
  have n1 := (num_bd Hb.out x1.2 4).1
  have l1 := re1.out.num rr1 cc1
  have f1 := frozen_of_row v1 W1.heap.size 2 _ _ l1.cells
  have EB := l1.cells
  have e0 := cell_of_row v1 W1.heap.size 0 _ _ _ EB
  have e1 := cell_of_row v1 W1.heap.size 1 _ _ _ EB
  have e2 := cell_of_row v1 W1.heap.size 2 _ _ _ EB
  have e3 := cell_of_row v1 W1.heap.size 3 _ _ _ EB
  have e4 := cell_of_row v1 W1.heap.size 4 _ _ _ EB
  have e5 := cell_of_row v1 W1.heap.size 5 _ _ _ EB
  have e6 := cell_of_row v1 W1.heap.size 6 _ _ _ EB
  have ZE := Z2.out
  rw [← l1.chg.block w.heap.size (lt_of_block ZE) (by omega)] at ZE
  have z0 := cell_of_row v1 w.heap.size 0 _ _ _ ZE
  have z1 := cell_of_row v1 w.heap.size 1 _ _ _ ZE
  have z2 := cell_of_row v1 w.heap.size 2 _ _ _ ZE
  have z3 := cell_of_row v1 w.heap.size 3 _ _ _ ZE
  have z4 := cell_of_row v1 w.heap.size 4 _ _ _ ZE
  have z5 := cell_of_row v1 w.heap.size 5 _ _ _ ZE
  have z6 := cell_of_row v1 w.heap.size 6 _ _ _ ZE
  have y0 := frozen_of_row v1 w.heap.size 0 _ _ ZE
  have y1 := frozen_of_row v1 w.heap.size 1 _ _ ZE
  have y2 := frozen_of_row v1 w.heap.size 2 _ _ ZE
  have y3 := frozen_of_row v1 w.heap.size 3 _ _ ZE
  have y4 := frozen_of_row v1 w.heap.size 4 _ _ ZE
  have y5 := frozen_of_row v1 w.heap.size 5 _ _ ZE
  have y6 := frozen_of_row v1 w.heap.size 6 _ _ ZE
  simp only [evCells] at e0 e1 e2 e3 e4 e5 e6
  have re2 : RE W2 (v1.setCell ⟨W1.heap.size, 2, none⟩ (.int .i64 (num bs x1.2 4))) W1.heap.size R a0 len cap bs (Fold.step bs x1 .who) (.slice none 0 0) := l1.set 2 _ _ rfl rfl
  clear rr1 cc1
  rw [hf.out] at re2
  obtain ⟨hev, -⟩ := Prod.mk.inj (show (({ x1.1 with who := num bs x1.2 4 } : Ev), x1.2 + 4) = (ev, qe) from hf.out)
  have ZF : (v1.setCell ⟨W1.heap.size, 2, none⟩ (.int .i64 (num bs x1.2 4))).heap[w.heap.size]? = some (.cells #[.int .i64 0, .int .i64 0, .int .i64 0, .int .i64 0, .int .i64 0, .int .i64 0, .slice none 0 0] 34) := by
    rw [heap_setCell_other _ _ _ _ (by show w.heap.size ≠ W1.heap.size; omega)]; exact ZE
  replace ZF := Lib.hid ZF; replace hev := Lib.hid hev; replace re2 := Lib.hid re2; replace l1 := Lib.hid l1; replace EB := Lib.hid EB; replace ZE := Lib.hid ZE
  go_wp2_with fail
  refine bodyPost_ret (results_cell_row rfl _ _ w.heap.size 34 _ (0, 0) _ rfl (set7 ZF.out) Try.underlying34 rfl (by kernel_rfl)) rfl ⟨(.slice none 0 0), by rw [← hev.out]; rfl, close KK.out re2.out hlt1 hR0 HO.out (chg7 (Chg.refl _ _) (.inl rfl))⟩

set_option maxRecDepth 100000 in
set_option maxHeartbeats 4000000 in
theorem revent_3 (R : Nat) (a0 : Option Addr) (len cap p : Nat) (bs : List Int) (w : World) (h : RR w R a0 len cap p bs) (hp : p ≤ 10000000000) (hm : len ≤ 1000000000000) (hk : num bs p 1 % 10 = 2) :
    Calls Try.prog 28 #[.pointer (some ⟨R, 0, none⟩)] w fun e w' => ∃ vb, e = .returned (.agg (evCells (evAt bs p) vb)) ∧ w'.ownsRow w.heap.size 5 1 vb (evAt bs p).b.length ((evAt bs p).b.map (Value.int .u8)) ∧ U8Row w' vb ∧ RR w' R a0 len cap (p + evLen bs p) bs ∧ Chg (· = R) w w' := by
  have hbb := h.bytes.2.1
  have hR0 := lt_of_block h.blk
  have hO := (RB.refl h).oldB
  have hf := fold_ev bs p hbb
  rw [show num bs p 1 % 10 + 1 = 3 by omega, show nms 3 = [.conn, .b] by rfl] at hf
  simp only [List.foldl_cons, List.foldl_nil] at hf
  obtain ⟨ev, hev⟩ : ∃ ev, evAt bs p = ev := ⟨_, rfl⟩
  obtain ⟨qe, hqe⟩ : ∃ qe, p + evLen bs p = qe := ⟨_, rfl⟩
  rw [hev, hqe] at hf
  rw [hev, hqe]
  clear hev hqe
  have H := Lib.hid h; have HO := Lib.hid hO; have Hb := Lib.hid hbb
  clear h hO hbb
  replace hk := Lib.hid hk; replace hf := Lib.hid hf
  go_enter Try.func28, Try.ntmps28
  go_wp2_with fail
  obtain ⟨W0, hW0⟩ : ∃ x, x = w.alloc (.cells #[.int .i64 0, .int .i64 0, .int .i64 0, .int .i64 0, .int .i64 0, .int .i64 0, .slice none 0 0] 34) := ⟨_, rfl⟩
  rw [← hW0]
  have C0 : Chg (fun _ => False) w W0 := by rw [hW0]; exact (Chg.refl _ w).alloc _
  have S0 : W0.heap.size = w.heap.size + 1 := by rw [hW0]; simp
  have R0 := H.out.kept C0 (fun _ _ h => h)
  have Z0 : W0.heap[w.heap.size]? = some (.cells #[.int .i64 0, .int .i64 0, .int .i64 0, .int .i64 0, .int .i64 0, .int .i64 0, .slice none 0 0] 34) := by
    rw [hW0]; show (w.heap.push _)[w.heap.size]? = _; rw [Array.getElem?_push, if_pos rfl]
  clear hW0
  refine (number_any R a0 len cap p 1 bs W0 R0 (by omega) (by omega) hm).mono ?_
  rintro e W1 ⟨rfl, R1, C1⟩
  have hN := (num_bd Hb.out p 1).1
  obtain ⟨N, eN⟩ : ∃ N, num bs p 1 = N := ⟨_, rfl⟩
  have hk1 := hk.out
  rw [eN] at hN hk1 ⊢
  have Z1 : W1.heap[w.heap.size]? = some (.cells #[.int .i64 0, .int .i64 0, .int .i64 0, .int .i64 0, .int .i64 0, .int .i64 0, .slice none 0 0] 34) := by
    rw [C1.block w.heap.size (by omega) (by omega)]; exact Z0
  have hlt1 : w.heap.size < W1.heap.size := lt_of_block Z1
  have C2 : Chg (fun _ => False) W1 (W1.alloc (.cells (evCells (zero 3) (.slice none 0 0)) 34)) := (Chg.refl _ W1).alloc _
  have E2 : (W1.alloc (.cells (evCells (zero 3) (.slice none 0 0)) 34)).heap[W1.heap.size]? = some (.cells (evCells (zero 3) (.slice none 0 0)) 34) := heap_alloc_new W1 _
  have S2 : (W1.alloc (.cells (evCells (zero 3) (.slice none 0 0)) 34)).heap.size = W1.heap.size + 1 := by simp
  have Z2 : (W1.alloc (.cells (evCells (zero 3) (.slice none 0 0)) 34)).heap[w.heap.size]? = some (.cells #[.int .i64 0, .int .i64 0, .int .i64 0, .int .i64 0, .int .i64 0, .int .i64 0, .slice none 0 0] 34) := by
    rw [C2.block w.heap.size (by omega) (fun h => h)]; exact Z1
  have re0 : RE (W1.alloc (.cells (evCells (zero 3) (.slice none 0 0)) 34)) (W1.alloc (.cells (evCells (zero 3) (.slice none 0 0)) 34)) W1.heap.size R a0 len cap bs (zero 3, p + 1) (.slice none 0 0) :=
    ⟨E2, World.ownsRow_nil _ _ _ _, U8Row.nil _, R1.kept C2 (fun _ _ h => h), Chg.refl _ _, by omega, by omega, by omega, fun b o h0 e1 e2 => by have := HO.out b o h0 e1; omega⟩
  have KK : Chg (· = R) w (W1.alloc (.cells (evCells (zero 3) (.slice none 0 0)) 34)) := ((C0.weak (fun _ _ h => h.elim)).trans C1).trans (C2.weak (fun _ _ h => h.elim))
  obtain ⟨x0, hx0⟩ : ∃ x0, ((zero 3, p + 1) : Ev × Nat) = x0 := ⟨_, rfl⟩
  have hq0 : x0.2 = p + 1 := by rw [← hx0]
  rw [hx0] at hf re0
  replace Z2 := Lib.hid Z2; replace re0 := Lib.hid re0; replace KK := Lib.hid KK; replace eN := Lib.hid eN; replace hq0 := Lib.hid hq0
  clear Z0 Z1 C0 C1 C2 E2 S2 hx0 R0 R1
  go_wp2_with fail
  clear hk1
  obtain ⟨W2, hW2⟩ : ∃ x, x = W1.alloc (.cells (evCells (zero 3) (.slice none 0 0)) 34) := ⟨_, rfl⟩
  rw [← hW2] at re0 KK Z2
  change Calls _ _ _ (W1.alloc (.cells (evCells (zero 3) (.slice none 0 0)) 34)) _
  rw [← hW2]
  clear hW2
  refine (number_any R a0 len cap x0.2 2 bs _ re0.out.rr (by omega) (by have := hq0.out; omega) hm).mono ?_
  rintro e v0 ⟨rfl, rr0, cc0⟩
  have n0 := (num_bd Hb.out x0.2 2).1
  have l0 := re0.out.num rr0 cc0
  have f0 := frozen_of_row v0 W1.heap.size 4 _ _ l0.cells
  have g0 := cell_of_row v0 W1.heap.size 4 _ _ _ l0.cells
  simp only [evCells] at g0
  have re1 : RE W2 (v0.setCell ⟨W1.heap.size, 4, none⟩ (.int .i64 (num bs x0.2 2))) W1.heap.size R a0 len cap bs (Fold.step bs x0 .conn) (.slice none 0 0) := l0.set 4 _ _ rfl rfl
  clear rr0 cc0
  obtain ⟨x1, hx1⟩ : ∃ y, Fold.step bs x0 .conn = y := ⟨_, rfl⟩
  have hq1 : x1.2 = p + 1 + 2 := by
    rw [← hx1]; show x0.2 + 2 = _; have := hq0.out; omega
  rw [hx1] at re1 hf
  replace re1 := Lib.hid re1; replace hq1 := Lib.hid hq1; replace l0 := Lib.hid l0
  clear hx1
  go_wp2_with fail
  clear g0 f0 n0
  refine (bytes_any R a0 len cap x1.2 bs _ re1.out.rr (by have := hq1.out; omega) hm).mono ?_
  rintro e v1 ⟨vb, rfl, ow1, uu1, rr1, cc1⟩
  have l1 := re1.out.num rr1 cc1
  have f1 := frozen_of_row v1 W1.heap.size 6 _ _ l1.cells
  have EB := l1.cells
  have e0 := cell_of_row v1 W1.heap.size 0 _ _ _ EB
  have e1 := cell_of_row v1 W1.heap.size 1 _ _ _ EB
  have e2 := cell_of_row v1 W1.heap.size 2 _ _ _ EB
  have e3 := cell_of_row v1 W1.heap.size 3 _ _ _ EB
  have e4 := cell_of_row v1 W1.heap.size 4 _ _ _ EB
  have e5 := cell_of_row v1 W1.heap.size 5 _ _ _ EB
  have e6 := cell_of_row v1 W1.heap.size 6 _ _ _ EB
  have ZE := Z2.out
  rw [← l1.chg.block w.heap.size (lt_of_block ZE) (by omega)] at ZE
  have z0 := cell_of_row v1 w.heap.size 0 _ _ _ ZE
  have z1 := cell_of_row v1 w.heap.size 1 _ _ _ ZE
  have z2 := cell_of_row v1 w.heap.size 2 _ _ _ ZE
  have z3 := cell_of_row v1 w.heap.size 3 _ _ _ ZE
  have z4 := cell_of_row v1 w.heap.size 4 _ _ _ ZE
  have z5 := cell_of_row v1 w.heap.size 5 _ _ _ ZE
  have z6 := cell_of_row v1 w.heap.size 6 _ _ _ ZE
  have y0 := frozen_of_row v1 w.heap.size 0 _ _ ZE
  have y1 := frozen_of_row v1 w.heap.size 1 _ _ ZE
  have y2 := frozen_of_row v1 w.heap.size 2 _ _ ZE
  have y3 := frozen_of_row v1 w.heap.size 3 _ _ ZE
  have y4 := frozen_of_row v1 w.heap.size 4 _ _ ZE
  have y5 := frozen_of_row v1 w.heap.size 5 _ _ ZE
  have y6 := frozen_of_row v1 w.heap.size 6 _ _ ZE
  simp only [evCells] at e0 e1 e2 e3 e4 e5 e6
  obtain ⟨ao, ln, cp, hvb⟩ : ∃ ao ln cp, vb = Value.slice ao ln cp := by
    rcases ow1.2 with ⟨h, _⟩ | ⟨g', cap', cur, h, _⟩
    · exact ⟨_, _, _, h⟩
    · exact ⟨_, _, _, h⟩
  subst hvb
  have re2 : RE W2 (v1.setCell ⟨W1.heap.size, 6, none⟩ (.slice ao ln cp)) W1.heap.size R a0 len cap bs (Fold.step bs x1 .b) (.slice ao ln cp) := re1.out.bytes (run_length bs _ _).symm rr1 cc1 ow1 uu1
  clear ow1 uu1
  clear rr1 cc1
  rw [hf.out] at re2
  obtain ⟨hev, -⟩ := Prod.mk.inj (show (({ x1.1 with b := run bs (x1.2 + 2) (cnt bs x1.2) } : Ev), x1.2 + 2 + cnt bs x1.2) = (ev, qe) from hf.out)
  have ZF : (v1.setCell ⟨W1.heap.size, 6, none⟩ (.slice ao ln cp)).heap[w.heap.size]? = some (.cells #[.int .i64 0, .int .i64 0, .int .i64 0, .int .i64 0, .int .i64 0, .int .i64 0, .slice none 0 0] 34) := by
    rw [heap_setCell_other _ _ _ _ (by show w.heap.size ≠ W1.heap.size; omega)]; exact ZE
  replace ZF := Lib.hid ZF; replace hev := Lib.hid hev; replace re2 := Lib.hid re2; replace l1 := Lib.hid l1; replace EB := Lib.hid EB; replace ZE := Lib.hid ZE
  go_wp2_with fail
  refine bodyPost_ret (results_cell_row rfl _ _ w.heap.size 34 _ (0, 0) _ rfl (set7 ZF.out) Try.underlying34 rfl (by kernel_rfl)) rfl ⟨(.slice ao ln cp), by rw [← hev.out]; rfl, close KK.out re2.out hlt1 hR0 HO.out (chg7 (Chg.refl _ _) (.inl rfl))⟩

set_option maxRecDepth 100000 in
set_option maxHeartbeats 4000000 in
theorem revent_4 (R : Nat) (a0 : Option Addr) (len cap p : Nat) (bs : List Int) (w : World) (h : RR w R a0 len cap p bs) (hp : p ≤ 10000000000) (hm : len ≤ 1000000000000) (hk : num bs p 1 % 10 = 3) :
    Calls Try.prog 28 #[.pointer (some ⟨R, 0, none⟩)] w fun e w' => ∃ vb, e = .returned (.agg (evCells (evAt bs p) vb)) ∧ w'.ownsRow w.heap.size 5 1 vb (evAt bs p).b.length ((evAt bs p).b.map (Value.int .u8)) ∧ U8Row w' vb ∧ RR w' R a0 len cap (p + evLen bs p) bs ∧ Chg (· = R) w w' := by
  have hbb := h.bytes.2.1
  have hR0 := lt_of_block h.blk
  have hO := (RB.refl h).oldB
  have hf := fold_ev bs p hbb
  rw [show num bs p 1 % 10 + 1 = 4 by omega, show nms 4 = [.conn] by rfl] at hf
  simp only [List.foldl_cons, List.foldl_nil] at hf
  obtain ⟨ev, hev⟩ : ∃ ev, evAt bs p = ev := ⟨_, rfl⟩
  obtain ⟨qe, hqe⟩ : ∃ qe, p + evLen bs p = qe := ⟨_, rfl⟩
  rw [hev, hqe] at hf
  rw [hev, hqe]
  clear hev hqe
  have H := Lib.hid h; have HO := Lib.hid hO; have Hb := Lib.hid hbb
  clear h hO hbb
  replace hk := Lib.hid hk; replace hf := Lib.hid hf
  go_enter Try.func28, Try.ntmps28
  go_wp2_with fail
  obtain ⟨W0, hW0⟩ : ∃ x, x = w.alloc (.cells #[.int .i64 0, .int .i64 0, .int .i64 0, .int .i64 0, .int .i64 0, .int .i64 0, .slice none 0 0] 34) := ⟨_, rfl⟩
  rw [← hW0]
  have C0 : Chg (fun _ => False) w W0 := by rw [hW0]; exact (Chg.refl _ w).alloc _
  have S0 : W0.heap.size = w.heap.size + 1 := by rw [hW0]; simp
  have R0 := H.out.kept C0 (fun _ _ h => h)
  have Z0 : W0.heap[w.heap.size]? = some (.cells #[.int .i64 0, .int .i64 0, .int .i64 0, .int .i64 0, .int .i64 0, .int .i64 0, .slice none 0 0] 34) := by
    rw [hW0]; show (w.heap.push _)[w.heap.size]? = _; rw [Array.getElem?_push, if_pos rfl]
  clear hW0
  refine (number_any R a0 len cap p 1 bs W0 R0 (by omega) (by omega) hm).mono ?_
  rintro e W1 ⟨rfl, R1, C1⟩
  have hN := (num_bd Hb.out p 1).1
  obtain ⟨N, eN⟩ : ∃ N, num bs p 1 = N := ⟨_, rfl⟩
  have hk1 := hk.out
  rw [eN] at hN hk1 ⊢
  have Z1 : W1.heap[w.heap.size]? = some (.cells #[.int .i64 0, .int .i64 0, .int .i64 0, .int .i64 0, .int .i64 0, .int .i64 0, .slice none 0 0] 34) := by
    rw [C1.block w.heap.size (by omega) (by omega)]; exact Z0
  have hlt1 : w.heap.size < W1.heap.size := lt_of_block Z1
  have C2 : Chg (fun _ => False) W1 (W1.alloc (.cells (evCells (zero 4) (.slice none 0 0)) 34)) := (Chg.refl _ W1).alloc _
  have E2 : (W1.alloc (.cells (evCells (zero 4) (.slice none 0 0)) 34)).heap[W1.heap.size]? = some (.cells (evCells (zero 4) (.slice none 0 0)) 34) := heap_alloc_new W1 _
  have S2 : (W1.alloc (.cells (evCells (zero 4) (.slice none 0 0)) 34)).heap.size = W1.heap.size + 1 := by simp
  have Z2 : (W1.alloc (.cells (evCells (zero 4) (.slice none 0 0)) 34)).heap[w.heap.size]? = some (.cells #[.int .i64 0, .int .i64 0, .int .i64 0, .int .i64 0, .int .i64 0, .int .i64 0, .slice none 0 0] 34) := by
    rw [C2.block w.heap.size (by omega) (fun h => h)]; exact Z1
  have re0 : RE (W1.alloc (.cells (evCells (zero 4) (.slice none 0 0)) 34)) (W1.alloc (.cells (evCells (zero 4) (.slice none 0 0)) 34)) W1.heap.size R a0 len cap bs (zero 4, p + 1) (.slice none 0 0) :=
    ⟨E2, World.ownsRow_nil _ _ _ _, U8Row.nil _, R1.kept C2 (fun _ _ h => h), Chg.refl _ _, by omega, by omega, by omega, fun b o h0 e1 e2 => by have := HO.out b o h0 e1; omega⟩
  have KK : Chg (· = R) w (W1.alloc (.cells (evCells (zero 4) (.slice none 0 0)) 34)) := ((C0.weak (fun _ _ h => h.elim)).trans C1).trans (C2.weak (fun _ _ h => h.elim))
  obtain ⟨x0, hx0⟩ : ∃ x0, ((zero 4, p + 1) : Ev × Nat) = x0 := ⟨_, rfl⟩
  have hq0 : x0.2 = p + 1 := by rw [← hx0]
  rw [hx0] at hf re0
  replace Z2 := Lib.hid Z2; replace re0 := Lib.hid re0; replace KK := Lib.hid KK; replace eN := Lib.hid eN; replace hq0 := Lib.hid hq0
  clear Z0 Z1 C0 C1 C2 E2 S2 hx0 R0 R1
  go_wp2_with fail
  clear hk1
  obtain ⟨W2, hW2⟩ : ∃ x, x = W1.alloc (.cells (evCells (zero 4) (.slice none 0 0)) 34) := ⟨_, rfl⟩
  rw [← hW2] at re0 KK Z2
  change Calls _ _ _ (W1.alloc (.cells (evCells (zero 4) (.slice none 0 0)) 34)) _
  rw [← hW2]
  clear hW2
  refine (number_any R a0 len cap x0.2 2 bs _ re0.out.rr (by omega) (by have := hq0.out; omega) hm).mono ?_
  rintro e v0 ⟨rfl, rr0, cc0⟩
  have n0 := (num_bd Hb.out x0.2 2).1
  have l0 := re0.out.num rr0 cc0
  have f0 := frozen_of_row v0 W1.heap.size 4 _ _ l0.cells
  have EB := l0.cells
  have e0 := cell_of_row v0 W1.heap.size 0 _ _ _ EB
  have e1 := cell_of_row v0 W1.heap.size 1 _ _ _ EB
  have e2 := cell_of_row v0 W1.heap.size 2 _ _ _ EB
  have e3 := cell_of_row v0 W1.heap.size 3 _ _ _ EB
  have e4 := cell_of_row v0 W1.heap.size 4 _ _ _ EB
  have e5 := cell_of_row v0 W1.heap.size 5 _ _ _ EB
  have e6 := cell_of_row v0 W1.heap.size 6 _ _ _ EB
  have ZE := Z2.out
  rw [← l0.chg.block w.heap.size (lt_of_block ZE) (by omega)] at ZE
  have z0 := cell_of_row v0 w.heap.size 0 _ _ _ ZE
  have z1 := cell_of_row v0 w.heap.size 1 _ _ _ ZE
  have z2 := cell_of_row v0 w.heap.size 2 _ _ _ ZE
  have z3 := cell_of_row v0 w.heap.size 3 _ _ _ ZE
  have z4 := cell_of_row v0 w.heap.size 4 _ _ _ ZE
  have z5 := cell_of_row v0 w.heap.size 5 _ _ _ ZE
  have z6 := cell_of_row v0 w.heap.size 6 _ _ _ ZE
  have y0 := frozen_of_row v0 w.heap.size 0 _ _ ZE
  have y1 := frozen_of_row v0 w.heap.size 1 _ _ ZE
  have y2 := frozen_of_row v0 w.heap.size 2 _ _ ZE
  have y3 := frozen_of_row v0 w.heap.size 3 _ _ ZE
  have y4 := frozen_of_row v0 w.heap.size 4 _ _ ZE
  have y5 := frozen_of_row v0 w.heap.size 5 _ _ ZE
  have y6 := frozen_of_row v0 w.heap.size 6 _ _ ZE
  simp only [evCells] at e0 e1 e2 e3 e4 e5 e6
  have re1 : RE W2 (v0.setCell ⟨W1.heap.size, 4, none⟩ (.int .i64 (num bs x0.2 2))) W1.heap.size R a0 len cap bs (Fold.step bs x0 .conn) (.slice none 0 0) := l0.set 4 _ _ rfl rfl
  clear rr0 cc0
  rw [hf.out] at re1
  obtain ⟨hev, -⟩ := Prod.mk.inj (show (({ x0.1 with conn := num bs x0.2 2 } : Ev), x0.2 + 2) = (ev, qe) from hf.out)
  have ZF : (v0.setCell ⟨W1.heap.size, 4, none⟩ (.int .i64 (num bs x0.2 2))).heap[w.heap.size]? = some (.cells #[.int .i64 0, .int .i64 0, .int .i64 0, .int .i64 0, .int .i64 0, .int .i64 0, .slice none 0 0] 34) := by
    rw [heap_setCell_other _ _ _ _ (by show w.heap.size ≠ W1.heap.size; omega)]; exact ZE
  replace ZF := Lib.hid ZF; replace hev := Lib.hid hev; replace re1 := Lib.hid re1; replace l0 := Lib.hid l0; replace EB := Lib.hid EB; replace ZE := Lib.hid ZE
  go_wp2_with fail
  refine bodyPost_ret (results_cell_row rfl _ _ w.heap.size 34 _ (0, 0) _ rfl (set7 ZF.out) Try.underlying34 rfl (by kernel_rfl)) rfl ⟨(.slice none 0 0), by rw [← hev.out]; rfl, close KK.out re1.out hlt1 hR0 HO.out (chg7 (Chg.refl _ _) (.inl rfl))⟩

set_option maxRecDepth 100000 in
set_option maxHeartbeats 4000000 in
theorem revent_5 (R : Nat) (a0 : Option Addr) (len cap p : Nat) (bs : List Int) (w : World) (h : RR w R a0 len cap p bs) (hp : p ≤ 10000000000) (hm : len ≤ 1000000000000) (hk : num bs p 1 % 10 = 4) :
    Calls Try.prog 28 #[.pointer (some ⟨R, 0, none⟩)] w fun e w' => ∃ vb, e = .returned (.agg (evCells (evAt bs p) vb)) ∧ w'.ownsRow w.heap.size 5 1 vb (evAt bs p).b.length ((evAt bs p).b.map (Value.int .u8)) ∧ U8Row w' vb ∧ RR w' R a0 len cap (p + evLen bs p) bs ∧ Chg (· = R) w w' := by
  have hbb := h.bytes.2.1
  have hR0 := lt_of_block h.blk
  have hO := (RB.refl h).oldB
  have hf := fold_ev bs p hbb
  rw [show num bs p 1 % 10 + 1 = 5 by omega, show nms 5 = [.conn, .n] by rfl] at hf
  simp only [List.foldl_cons, List.foldl_nil] at hf
  obtain ⟨ev, hev⟩ : ∃ ev, evAt bs p = ev := ⟨_, rfl⟩
  obtain ⟨qe, hqe⟩ : ∃ qe, p + evLen bs p = qe := ⟨_, rfl⟩
  rw [hev, hqe] at hf
  rw [hev, hqe]
  clear hev hqe
  have H := Lib.hid h; have HO := Lib.hid hO; have Hb := Lib.hid hbb
  clear h hO hbb
  replace hk := Lib.hid hk; replace hf := Lib.hid hf
  go_enter Try.func28, Try.ntmps28
  go_wp2_with fail
  obtain ⟨W0, hW0⟩ : ∃ x, x = w.alloc (.cells #[.int .i64 0, .int .i64 0, .int .i64 0, .int .i64 0, .int .i64 0, .int .i64 0, .slice none 0 0] 34) := ⟨_, rfl⟩
  rw [← hW0]
  have C0 : Chg (fun _ => False) w W0 := by rw [hW0]; exact (Chg.refl _ w).alloc _
  have S0 : W0.heap.size = w.heap.size + 1 := by rw [hW0]; simp
  have R0 := H.out.kept C0 (fun _ _ h => h)
  have Z0 : W0.heap[w.heap.size]? = some (.cells #[.int .i64 0, .int .i64 0, .int .i64 0, .int .i64 0, .int .i64 0, .int .i64 0, .slice none 0 0] 34) := by
    rw [hW0]; show (w.heap.push _)[w.heap.size]? = _; rw [Array.getElem?_push, if_pos rfl]
  clear hW0
  refine (number_any R a0 len cap p 1 bs W0 R0 (by omega) (by omega) hm).mono ?_
  rintro e W1 ⟨rfl, R1, C1⟩
  have hN := (num_bd Hb.out p 1).1
  obtain ⟨N, eN⟩ : ∃ N, num bs p 1 = N := ⟨_, rfl⟩
  have hk1 := hk.out
  rw [eN] at hN hk1 ⊢
  have Z1 : W1.heap[w.heap.size]? = some (.cells #[.int .i64 0, .int .i64 0, .int .i64 0, .int .i64 0, .int .i64 0, .int .i64 0, .slice none 0 0] 34) := by
    rw [C1.block w.heap.size (by omega) (by omega)]; exact Z0
  have hlt1 : w.heap.size < W1.heap.size := lt_of_block Z1
  have C2 : Chg (fun _ => False) W1 (W1.alloc (.cells (evCells (zero 5) (.slice none 0 0)) 34)) := (Chg.refl _ W1).alloc _
  have E2 : (W1.alloc (.cells (evCells (zero 5) (.slice none 0 0)) 34)).heap[W1.heap.size]? = some (.cells (evCells (zero 5) (.slice none 0 0)) 34) := heap_alloc_new W1 _
  have S2 : (W1.alloc (.cells (evCells (zero 5) (.slice none 0 0)) 34)).heap.size = W1.heap.size + 1 := by simp
  have Z2 : (W1.alloc (.cells (evCells (zero 5) (.slice none 0 0)) 34)).heap[w.heap.size]? = some (.cells #[.int .i64 0, .int .i64 0, .int .i64 0, .int .i64 0, .int .i64 0, .int .i64 0, .slice none 0 0] 34) := by
    rw [C2.block w.heap.size (by omega) (fun h => h)]; exact Z1
  have re0 : RE (W1.alloc (.cells (evCells (zero 5) (.slice none 0 0)) 34)) (W1.alloc (.cells (evCells (zero 5) (.slice none 0 0)) 34)) W1.heap.size R a0 len cap bs (zero 5, p + 1) (.slice none 0 0) :=
    ⟨E2, World.ownsRow_nil _ _ _ _, U8Row.nil _, R1.kept C2 (fun _ _ h => h), Chg.refl _ _, by omega, by omega, by omega, fun b o h0 e1 e2 => by have := HO.out b o h0 e1; omega⟩
  have KK : Chg (· = R) w (W1.alloc (.cells (evCells (zero 5) (.slice none 0 0)) 34)) := ((C0.weak (fun _ _ h => h.elim)).trans C1).trans (C2.weak (fun _ _ h => h.elim))
  obtain ⟨x0, hx0⟩ : ∃ x0, ((zero 5, p + 1) : Ev × Nat) = x0 := ⟨_, rfl⟩
  have hq0 : x0.2 = p + 1 := by rw [← hx0]
  rw [hx0] at hf re0
  replace Z2 := Lib.hid Z2; replace re0 := Lib.hid re0; replace KK := Lib.hid KK; replace eN := Lib.hid eN; replace hq0 := Lib.hid hq0
  clear Z0 Z1 C0 C1 C2 E2 S2 hx0 R0 R1
  go_wp2_with fail
  clear hk1
  obtain ⟨W2, hW2⟩ : ∃ x, x = W1.alloc (.cells (evCells (zero 5) (.slice none 0 0)) 34) := ⟨_, rfl⟩
  rw [← hW2] at re0 KK Z2
  change Calls _ _ _ (W1.alloc (.cells (evCells (zero 5) (.slice none 0 0)) 34)) _
  rw [← hW2]
  clear hW2
  refine (number_any R a0 len cap x0.2 2 bs _ re0.out.rr (by omega) (by have := hq0.out; omega) hm).mono ?_
  rintro e v0 ⟨rfl, rr0, cc0⟩
  have n0 := (num_bd Hb.out x0.2 2).1
  have l0 := re0.out.num rr0 cc0
  have f0 := frozen_of_row v0 W1.heap.size 4 _ _ l0.cells
  have g0 := cell_of_row v0 W1.heap.size 4 _ _ _ l0.cells
  simp only [evCells] at g0
  have re1 : RE W2 (v0.setCell ⟨W1.heap.size, 4, none⟩ (.int .i64 (num bs x0.2 2))) W1.heap.size R a0 len cap bs (Fold.step bs x0 .conn) (.slice none 0 0) := l0.set 4 _ _ rfl rfl
  clear rr0 cc0
  obtain ⟨x1, hx1⟩ : ∃ y, Fold.step bs x0 .conn = y := ⟨_, rfl⟩
  have hq1 : x1.2 = p + 1 + 2 := by
    rw [← hx1]; show x0.2 + 2 = _; have := hq0.out; omega
  rw [hx1] at re1 hf
  replace re1 := Lib.hid re1; replace hq1 := Lib.hid hq1; replace l0 := Lib.hid l0
  clear hx1
  go_wp2_with fail
  clear g0 f0 n0
  refine (number_any R a0 len cap x1.2 2 bs _ re1.out.rr (by omega) (by have := hq1.out; omega) hm).mono ?_
  rintro e v1 ⟨rfl, rr1, cc1⟩
  have n1 := (num_bd Hb.out x1.2 2).1
  have l1 := re1.out.num rr1 cc1
  have f1 := frozen_of_row v1 W1.heap.size 5 _ _ l1.cells
  have EB := l1.cells
  have e0 := cell_of_row v1 W1.heap.size 0 _ _ _ EB
  have e1 := cell_of_row v1 W1.heap.size 1 _ _ _ EB
  have e2 := cell_of_row v1 W1.heap.size 2 _ _ _ EB
  have e3 := cell_of_row v1 W1.heap.size 3 _ _ _ EB
  have e4 := cell_of_row v1 W1.heap.size 4 _ _ _ EB
  have e5 := cell_of_row v1 W1.heap.size 5 _ _ _ EB
  have e6 := cell_of_row v1 W1.heap.size 6 _ _ _ EB
  have ZE := Z2.out
  rw [← l1.chg.block w.heap.size (lt_of_block ZE) (by omega)] at ZE
  have z0 := cell_of_row v1 w.heap.size 0 _ _ _ ZE
  have z1 := cell_of_row v1 w.heap.size 1 _ _ _ ZE
  have z2 := cell_of_row v1 w.heap.size 2 _ _ _ ZE
  have z3 := cell_of_row v1 w.heap.size 3 _ _ _ ZE
  have z4 := cell_of_row v1 w.heap.size 4 _ _ _ ZE
  have z5 := cell_of_row v1 w.heap.size 5 _ _ _ ZE
  have z6 := cell_of_row v1 w.heap.size 6 _ _ _ ZE
  have y0 := frozen_of_row v1 w.heap.size 0 _ _ ZE
  have y1 := frozen_of_row v1 w.heap.size 1 _ _ ZE
  have y2 := frozen_of_row v1 w.heap.size 2 _ _ ZE
  have y3 := frozen_of_row v1 w.heap.size 3 _ _ ZE
  have y4 := frozen_of_row v1 w.heap.size 4 _ _ ZE
  have y5 := frozen_of_row v1 w.heap.size 5 _ _ ZE
  have y6 := frozen_of_row v1 w.heap.size 6 _ _ ZE
  simp only [evCells] at e0 e1 e2 e3 e4 e5 e6
  have re2 : RE W2 (v1.setCell ⟨W1.heap.size, 5, none⟩ (.int .i64 (num bs x1.2 2))) W1.heap.size R a0 len cap bs (Fold.step bs x1 .n) (.slice none 0 0) := l1.set 5 _ _ rfl rfl
  clear rr1 cc1
  rw [hf.out] at re2
  obtain ⟨hev, -⟩ := Prod.mk.inj (show (({ x1.1 with n := num bs x1.2 2 } : Ev), x1.2 + 2) = (ev, qe) from hf.out)
  have ZF : (v1.setCell ⟨W1.heap.size, 5, none⟩ (.int .i64 (num bs x1.2 2))).heap[w.heap.size]? = some (.cells #[.int .i64 0, .int .i64 0, .int .i64 0, .int .i64 0, .int .i64 0, .int .i64 0, .slice none 0 0] 34) := by
    rw [heap_setCell_other _ _ _ _ (by show w.heap.size ≠ W1.heap.size; omega)]; exact ZE
  replace ZF := Lib.hid ZF; replace hev := Lib.hid hev; replace re2 := Lib.hid re2; replace l1 := Lib.hid l1; replace EB := Lib.hid EB; replace ZE := Lib.hid ZE
  go_wp2_with fail
  refine bodyPost_ret (results_cell_row rfl _ _ w.heap.size 34 _ (0, 0) _ rfl (set7 ZF.out) Try.underlying34 rfl (by kernel_rfl)) rfl ⟨(.slice none 0 0), by rw [← hev.out]; rfl, close KK.out re2.out hlt1 hR0 HO.out (chg7 (Chg.refl _ _) (.inl rfl))⟩

set_option maxRecDepth 100000 in
set_option maxHeartbeats 4000000 in
theorem revent_6 (R : Nat) (a0 : Option Addr) (len cap p : Nat) (bs : List Int) (w : World) (h : RR w R a0 len cap p bs) (hp : p ≤ 10000000000) (hm : len ≤ 1000000000000) (hk : num bs p 1 % 10 = 5) :
    Calls Try.prog 28 #[.pointer (some ⟨R, 0, none⟩)] w fun e w' => ∃ vb, e = .returned (.agg (evCells (evAt bs p) vb)) ∧ w'.ownsRow w.heap.size 5 1 vb (evAt bs p).b.length ((evAt bs p).b.map (Value.int .u8)) ∧ U8Row w' vb ∧ RR w' R a0 len cap (p + evLen bs p) bs ∧ Chg (· = R) w w' := by
  have hbb := h.bytes.2.1
  have hR0 := lt_of_block h.blk
  have hO := (RB.refl h).oldB
  have hf := fold_ev bs p hbb
  rw [show num bs p 1 % 10 + 1 = 6 by omega, show nms 6 = [.n] by rfl] at hf
  simp only [List.foldl_cons, List.foldl_nil] at hf
  obtain ⟨ev, hev⟩ : ∃ ev, evAt bs p = ev := ⟨_, rfl⟩
  obtain ⟨qe, hqe⟩ : ∃ qe, p + evLen bs p = qe := ⟨_, rfl⟩
  rw [hev, hqe] at hf
  rw [hev, hqe]
  clear hev hqe
  have H := Lib.hid h; have HO := Lib.hid hO; have Hb := Lib.hid hbb
  clear h hO hbb
  replace hk := Lib.hid hk; replace hf := Lib.hid hf
  go_enter Try.func28, Try.ntmps28
  go_wp2_with fail
  obtain ⟨W0, hW0⟩ : ∃ x, x = w.alloc (.cells #[.int .i64 0, .int .i64 0, .int .i64 0, .int .i64 0, .int .i64 0, .int .i64 0, .slice none 0 0] 34) := ⟨_, rfl⟩
  rw [← hW0]
  have C0 : Chg (fun _ => False) w W0 := by rw [hW0]; exact (Chg.refl _ w).alloc _
  have S0 : W0.heap.size = w.heap.size + 1 := by rw [hW0]; simp
  have R0 := H.out.kept C0 (fun _ _ h => h)
  have Z0 : W0.heap[w.heap.size]? = some (.cells #[.int .i64 0, .int .i64 0, .int .i64 0, .int .i64 0, .int .i64 0, .int .i64 0, .slice none 0 0] 34) := by
    rw [hW0]; show (w.heap.push _)[w.heap.size]? = _; rw [Array.getElem?_push, if_pos rfl]
  clear hW0
  refine (number_any R a0 len cap p 1 bs W0 R0 (by omega) (by omega) hm).mono ?_
  rintro e W1 ⟨rfl, R1, C1⟩
  have hN := (num_bd Hb.out p 1).1
  obtain ⟨N, eN⟩ : ∃ N, num bs p 1 = N := ⟨_, rfl⟩
  have hk1 := hk.out
  rw [eN] at hN hk1 ⊢
  have Z1 : W1.heap[w.heap.size]? = some (.cells #[.int .i64 0, .int .i64 0, .int .i64 0, .int .i64 0, .int .i64 0, .int .i64 0, .slice none 0 0] 34) := by
    rw [C1.block w.heap.size (by omega) (by omega)]; exact Z0
  have hlt1 : w.heap.size < W1.heap.size := lt_of_block Z1
  have C2 : Chg (fun _ => False) W1 (W1.alloc (.cells (evCells (zero 6) (.slice none 0 0)) 34)) := (Chg.refl _ W1).alloc _
  have E2 : (W1.alloc (.cells (evCells (zero 6) (.slice none 0 0)) 34)).heap[W1.heap.size]? = some (.cells (evCells (zero 6) (.slice none 0 0)) 34) := heap_alloc_new W1 _
  have S2 : (W1.alloc (.cells (evCells (zero 6) (.slice none 0 0)) 34)).heap.size = W1.heap.size + 1 := by simp
  have Z2 : (W1.alloc (.cells (evCells (zero 6) (.slice none 0 0)) 34)).heap[w.heap.size]? = some (.cells #[.int .i64 0, .int .i64 0, .int .i64 0, .int .i64 0, .int .i64 0, .int .i64 0, .slice none 0 0] 34) := by
    rw [C2.block w.heap.size (by omega) (fun h => h)]; exact Z1
  have re0 : RE (W1.alloc (.cells (evCells (zero 6) (.slice none 0 0)) 34)) (W1.alloc (.cells (evCells (zero 6) (.slice none 0 0)) 34)) W1.heap.size R a0 len cap bs (zero 6, p + 1) (.slice none 0 0) :=
    ⟨E2, World.ownsRow_nil _ _ _ _, U8Row.nil _, R1.kept C2 (fun _ _ h => h), Chg.refl _ _, by omega, by omega, by omega, fun b o h0 e1 e2 => by have := HO.out b o h0 e1; omega⟩
  have KK : Chg (· = R) w (W1.alloc (.cells (evCells (zero 6) (.slice none 0 0)) 34)) := ((C0.weak (fun _ _ h => h.elim)).trans C1).trans (C2.weak (fun _ _ h => h.elim))
  obtain ⟨x0, hx0⟩ : ∃ x0, ((zero 6, p + 1) : Ev × Nat) = x0 := ⟨_, rfl⟩
  have hq0 : x0.2 = p + 1 := by rw [← hx0]
  rw [hx0] at hf re0
  replace Z2 := Lib.hid Z2; replace re0 := Lib.hid re0; replace KK := Lib.hid KK; replace eN := Lib.hid eN; replace hq0 := Lib.hid hq0
  clear Z0 Z1 C0 C1 C2 E2 S2 hx0 R0 R1
  go_wp2_with fail
  clear hk1
  obtain ⟨W2, hW2⟩ : ∃ x, x = W1.alloc (.cells (evCells (zero 6) (.slice none 0 0)) 34) := ⟨_, rfl⟩
  rw [← hW2] at re0 KK Z2
  change Calls _ _ _ (W1.alloc (.cells (evCells (zero 6) (.slice none 0 0)) 34)) _
  rw [← hW2]
  clear hW2
  refine (number_any R a0 len cap x0.2 2 bs _ re0.out.rr (by omega) (by have := hq0.out; omega) hm).mono ?_
  rintro e v0 ⟨rfl, rr0, cc0⟩
  have n0 := (num_bd Hb.out x0.2 2).1
  have l0 := re0.out.num rr0 cc0
  have f0 := frozen_of_row v0 W1.heap.size 5 _ _ l0.cells
  have EB := l0.cells
  have e0 := cell_of_row v0 W1.heap.size 0 _ _ _ EB
  have e1 := cell_of_row v0 W1.heap.size 1 _ _ _ EB
  have e2 := cell_of_row v0 W1.heap.size 2 _ _ _ EB
  have e3 := cell_of_row v0 W1.heap.size 3 _ _ _ EB
  have e4 := cell_of_row v0 W1.heap.size 4 _ _ _ EB
  have e5 := cell_of_row v0 W1.heap.size 5 _ _ _ EB
  have e6 := cell_of_row v0 W1.heap.size 6 _ _ _ EB
  have ZE := Z2.out
  rw [← l0.chg.block w.heap.size (lt_of_block ZE) (by omega)] at ZE
  have z0 := cell_of_row v0 w.heap.size 0 _ _ _ ZE
  have z1 := cell_of_row v0 w.heap.size 1 _ _ _ ZE
  have z2 := cell_of_row v0 w.heap.size 2 _ _ _ ZE
  have z3 := cell_of_row v0 w.heap.size 3 _ _ _ ZE
  have z4 := cell_of_row v0 w.heap.size 4 _ _ _ ZE
  have z5 := cell_of_row v0 w.heap.size 5 _ _ _ ZE
  have z6 := cell_of_row v0 w.heap.size 6 _ _ _ ZE
  have y0 := frozen_of_row v0 w.heap.size 0 _ _ ZE
  have y1 := frozen_of_row v0 w.heap.size 1 _ _ ZE
  have y2 := frozen_of_row v0 w.heap.size 2 _ _ ZE
  have y3 := frozen_of_row v0 w.heap.size 3 _ _ ZE
  have y4 := frozen_of_row v0 w.heap.size 4 _ _ ZE
  have y5 := frozen_of_row v0 w.heap.size 5 _ _ ZE
  have y6 := frozen_of_row v0 w.heap.size 6 _ _ ZE
  simp only [evCells] at e0 e1 e2 e3 e4 e5 e6
  have re1 : RE W2 (v0.setCell ⟨W1.heap.size, 5, none⟩ (.int .i64 (num bs x0.2 2))) W1.heap.size R a0 len cap bs (Fold.step bs x0 .n) (.slice none 0 0) := l0.set 5 _ _ rfl rfl
  clear rr0 cc0
  rw [hf.out] at re1
  obtain ⟨hev, -⟩ := Prod.mk.inj (show (({ x0.1 with n := num bs x0.2 2 } : Ev), x0.2 + 2) = (ev, qe) from hf.out)
  have ZF : (v0.setCell ⟨W1.heap.size, 5, none⟩ (.int .i64 (num bs x0.2 2))).heap[w.heap.size]? = some (.cells #[.int .i64 0, .int .i64 0, .int .i64 0, .int .i64 0, .int .i64 0, .int .i64 0, .slice none 0 0] 34) := by
    rw [heap_setCell_other _ _ _ _ (by show w.heap.size ≠ W1.heap.size; omega)]; exact ZE
  replace ZF := Lib.hid ZF; replace hev := Lib.hid hev; replace re1 := Lib.hid re1; replace l0 := Lib.hid l0; replace EB := Lib.hid EB; replace ZE := Lib.hid ZE
  go_wp2_with fail
  refine bodyPost_ret (results_cell_row rfl _ _ w.heap.size 34 _ (0, 0) _ rfl (set7 ZF.out) Try.underlying34 rfl (by kernel_rfl)) rfl ⟨(.slice none 0 0), by rw [← hev.out]; rfl, close KK.out re1.out hlt1 hR0 HO.out (chg7 (Chg.refl _ _) (.inl rfl))⟩

set_option maxRecDepth 100000 in
set_option maxHeartbeats 4000000 in
theorem revent_7 (R : Nat) (a0 : Option Addr) (len cap p : Nat) (bs : List Int) (w : World) (h : RR w R a0 len cap p bs) (hp : p ≤ 10000000000) (hm : len ≤ 1000000000000) (hk : num bs p 1 % 10 = 6) :
    Calls Try.prog 28 #[.pointer (some ⟨R, 0, none⟩)] w fun e w' => ∃ vb, e = .returned (.agg (evCells (evAt bs p) vb)) ∧ w'.ownsRow w.heap.size 5 1 vb (evAt bs p).b.length ((evAt bs p).b.map (Value.int .u8)) ∧ U8Row w' vb ∧ RR w' R a0 len cap (p + evLen bs p) bs ∧ Chg (· = R) w w' := by
  have hbb := h.bytes.2.1
  have hR0 := lt_of_block h.blk
  have hO := (RB.refl h).oldB
  have hf := fold_ev bs p hbb
  rw [show num bs p 1 % 10 + 1 = 7 by omega, show nms 7 = [.n] by rfl] at hf
  simp only [List.foldl_cons, List.foldl_nil] at hf
  obtain ⟨ev, hev⟩ : ∃ ev, evAt bs p = ev := ⟨_, rfl⟩
  obtain ⟨qe, hqe⟩ : ∃ qe, p + evLen bs p = qe := ⟨_, rfl⟩
  rw [hev, hqe] at hf
  rw [hev, hqe]
  clear hev hqe
  have H := Lib.hid h; have HO := Lib.hid hO; have Hb := Lib.hid hbb
  clear h hO hbb
  replace hk := Lib.hid hk; replace hf := Lib.hid hf
  go_enter Try.func28, Try.ntmps28
  go_wp2_with fail
  obtain ⟨W0, hW0⟩ : ∃ x, x = w.alloc (.cells #[.int .i64 0, .int .i64 0, .int .i64 0, .int .i64 0, .int .i64 0, .int .i64 0, .slice none 0 0] 34) := ⟨_, rfl⟩
  rw [← hW0]
  have C0 : Chg (fun _ => False) w W0 := by rw [hW0]; exact (Chg.refl _ w).alloc _
  have S0 : W0.heap.size = w.heap.size + 1 := by rw [hW0]; simp
  have R0 := H.out.kept C0 (fun _ _ h => h)
  have Z0 : W0.heap[w.heap.size]? = some (.cells #[.int .i64 0, .int .i64 0, .int .i64 0, .int .i64 0, .int .i64 0, .int .i64 0, .slice none 0 0] 34) := by
    rw [hW0]; show (w.heap.push _)[w.heap.size]? = _; rw [Array.getElem?_push, if_pos rfl]
  clear hW0
  refine (number_any R a0 len cap p 1 bs W0 R0 (by omega) (by omega) hm).mono ?_
  rintro e W1 ⟨rfl, R1, C1⟩
  have hN := (num_bd Hb.out p 1).1
  obtain ⟨N, eN⟩ : ∃ N, num bs p 1 = N := ⟨_, rfl⟩
  have hk1 := hk.out
  rw [eN] at hN hk1 ⊢
  have Z1 : W1.heap[w.heap.size]? = some (.cells #[.int .i64 0, .int .i64 0, .int .i64 0, .int .i64 0, .int .i64 0, .int .i64 0, .slice none 0 0] 34) := by
    rw [C1.block w.heap.size (by omega) (by omega)]; exact Z0
  have hlt1 : w.heap.size < W1.heap.size := lt_of_block Z1
  have C2 : Chg (fun _ => False) W1 (W1.alloc (.cells (evCells (zero 7) (.slice none 0 0)) 34)) := (Chg.refl _ W1).alloc _
  have E2 : (W1.alloc (.cells (evCells (zero 7) (.slice none 0 0)) 34)).heap[W1.heap.size]? = some (.cells (evCells (zero 7) (.slice none 0 0)) 34) := heap_alloc_new W1 _
  have S2 : (W1.alloc (.cells (evCells (zero 7) (.slice none 0 0)) 34)).heap.size = W1.heap.size + 1 := by simp
  have Z2 : (W1.alloc (.cells (evCells (zero 7) (.slice none 0 0)) 34)).heap[w.heap.size]? = some (.cells #[.int .i64 0, .int .i64 0, .int .i64 0, .int .i64 0, .int .i64 0, .int .i64 0, .slice none 0 0] 34) := by
    rw [C2.block w.heap.size (by omega) (fun h => h)]; exact Z1
  have re0 : RE (W1.alloc (.cells (evCells (zero 7) (.slice none 0 0)) 34)) (W1.alloc (.cells (evCells (zero 7) (.slice none 0 0)) 34)) W1.heap.size R a0 len cap bs (zero 7, p + 1) (.slice none 0 0) :=
    ⟨E2, World.ownsRow_nil _ _ _ _, U8Row.nil _, R1.kept C2 (fun _ _ h => h), Chg.refl _ _, by omega, by omega, by omega, fun b o h0 e1 e2 => by have := HO.out b o h0 e1; omega⟩
  have KK : Chg (· = R) w (W1.alloc (.cells (evCells (zero 7) (.slice none 0 0)) 34)) := ((C0.weak (fun _ _ h => h.elim)).trans C1).trans (C2.weak (fun _ _ h => h.elim))
  obtain ⟨x0, hx0⟩ : ∃ x0, ((zero 7, p + 1) : Ev × Nat) = x0 := ⟨_, rfl⟩
  have hq0 : x0.2 = p + 1 := by rw [← hx0]
  rw [hx0] at hf re0
  replace Z2 := Lib.hid Z2; replace re0 := Lib.hid re0; replace KK := Lib.hid KK; replace eN := Lib.hid eN; replace hq0 := Lib.hid hq0
  clear Z0 Z1 C0 C1 C2 E2 S2 hx0 R0 R1
  go_wp2_with fail
  clear hk1
  obtain ⟨W2, hW2⟩ : ∃ x, x = W1.alloc (.cells (evCells (zero 7) (.slice none 0 0)) 34) := ⟨_, rfl⟩
  rw [← hW2] at re0 KK Z2
  change Calls _ _ _ (W1.alloc (.cells (evCells (zero 7) (.slice none 0 0)) 34)) _
  rw [← hW2]
  clear hW2
  refine (number_any R a0 len cap x0.2 2 bs _ re0.out.rr (by omega) (by have := hq0.out; omega) hm).mono ?_
  rintro e v0 ⟨rfl, rr0, cc0⟩
  have n0 := (num_bd Hb.out x0.2 2).1
  have l0 := re0.out.num rr0 cc0
  have f0 := frozen_of_row v0 W1.heap.size 5 _ _ l0.cells
  have EB := l0.cells
  have e0 := cell_of_row v0 W1.heap.size 0 _ _ _ EB
  have e1 := cell_of_row v0 W1.heap.size 1 _ _ _ EB
  have e2 := cell_of_row v0 W1.heap.size 2 _ _ _ EB
  have e3 := cell_of_row v0 W1.heap.size 3 _ _ _ EB
  have e4 := cell_of_row v0 W1.heap.size 4 _ _ _ EB
  have e5 := cell_of_row v0 W1.heap.size 5 _ _ _ EB
  have e6 := cell_of_row v0 W1.heap.size 6 _ _ _ EB
  have ZE := Z2.out
  rw [← l0.chg.block w.heap.size (lt_of_block ZE) (by omega)] at ZE
  have z0 := cell_of_row v0 w.heap.size 0 _ _ _ ZE
  have z1 := cell_of_row v0 w.heap.size 1 _ _ _ ZE
  have z2 := cell_of_row v0 w.heap.size 2 _ _ _ ZE
  have z3 := cell_of_row v0 w.heap.size 3 _ _ _ ZE
  have z4 := cell_of_row v0 w.heap.size 4 _ _ _ ZE
  have z5 := cell_of_row v0 w.heap.size 5 _ _ _ ZE
  have z6 := cell_of_row v0 w.heap.size 6 _ _ _ ZE
  have y0 := frozen_of_row v0 w.heap.size 0 _ _ ZE
  have y1 := frozen_of_row v0 w.heap.size 1 _ _ ZE
  have y2 := frozen_of_row v0 w.heap.size 2 _ _ ZE
  have y3 := frozen_of_row v0 w.heap.size 3 _ _ ZE
  have y4 := frozen_of_row v0 w.heap.size 4 _ _ ZE
  have y5 := frozen_of_row v0 w.heap.size 5 _ _ ZE
  have y6 := frozen_of_row v0 w.heap.size 6 _ _ ZE
  simp only [evCells] at e0 e1 e2 e3 e4 e5 e6
  have re1 : RE W2 (v0.setCell ⟨W1.heap.size, 5, none⟩ (.int .i64 (num bs x0.2 2))) W1.heap.size R a0 len cap bs (Fold.step bs x0 .n) (.slice none 0 0) := l0.set 5 _ _ rfl rfl
  clear rr0 cc0
  rw [hf.out] at re1
  obtain ⟨hev, -⟩ := Prod.mk.inj (show (({ x0.1 with n := num bs x0.2 2 } : Ev), x0.2 + 2) = (ev, qe) from hf.out)
  have ZF : (v0.setCell ⟨W1.heap.size, 5, none⟩ (.int .i64 (num bs x0.2 2))).heap[w.heap.size]? = some (.cells #[.int .i64 0, .int .i64 0, .int .i64 0, .int .i64 0, .int .i64 0, .int .i64 0, .slice none 0 0] 34) := by
    rw [heap_setCell_other _ _ _ _ (by show w.heap.size ≠ W1.heap.size; omega)]; exact ZE
  replace ZF := Lib.hid ZF; replace hev := Lib.hid hev; replace re1 := Lib.hid re1; replace l0 := Lib.hid l0; replace EB := Lib.hid EB; replace ZE := Lib.hid ZE
  go_wp2_with fail
  refine bodyPost_ret (results_cell_row rfl _ _ w.heap.size 34 _ (0, 0) _ rfl (set7 ZF.out) Try.underlying34 rfl (by kernel_rfl)) rfl ⟨(.slice none 0 0), by rw [← hev.out]; rfl, close KK.out re1.out hlt1 hR0 HO.out (chg7 (Chg.refl _ _) (.inl rfl))⟩

set_option maxRecDepth 100000 in
set_option maxHeartbeats 4000000 in
theorem revent_8 (R : Nat) (a0 : Option Addr) (len cap p : Nat) (bs : List Int) (w : World) (h : RR w R a0 len cap p bs) (hp : p ≤ 10000000000) (hm : len ≤ 1000000000000) (hk : num bs p 1 % 10 = 7) :
    Calls Try.prog 28 #[.pointer (some ⟨R, 0, none⟩)] w fun e w' => ∃ vb, e = .returned (.agg (evCells (evAt bs p) vb)) ∧ w'.ownsRow w.heap.size 5 1 vb (evAt bs p).b.length ((evAt bs p).b.map (Value.int .u8)) ∧ U8Row w' vb ∧ RR w' R a0 len cap (p + evLen bs p) bs ∧ Chg (· = R) w w' := by
  have hbb := h.bytes.2.1
  have hR0 := lt_of_block h.blk
  have hO := (RB.refl h).oldB
  have hf := fold_ev bs p hbb
  rw [show num bs p 1 % 10 + 1 = 8 by omega, show nms 8 = [.who, .port, .b] by rfl] at hf
  simp only [List.foldl_cons, List.foldl_nil] at hf
  obtain ⟨ev, hev⟩ : ∃ ev, evAt bs p = ev := ⟨_, rfl⟩
  obtain ⟨qe, hqe⟩ : ∃ qe, p + evLen bs p = qe := ⟨_, rfl⟩
  rw [hev, hqe] at hf
  rw [hev, hqe]
  clear hev hqe
  have H := Lib.hid h; have HO := Lib.hid hO; have Hb := Lib.hid hbb
  clear h hO hbb
  replace hk := Lib.hid hk; replace hf := Lib.hid hf
  go_enter Try.func28, Try.ntmps28
  go_wp2_with fail
  obtain ⟨W0, hW0⟩ : ∃ x, x = w.alloc (.cells #[.int .i64 0, .int .i64 0, .int .i64 0, .int .i64 0, .int .i64 0, .int .i64 0, .slice none 0 0] 34) := ⟨_, rfl⟩
  rw [← hW0]
  have C0 : Chg (fun _ => False) w W0 := by rw [hW0]; exact (Chg.refl _ w).alloc _
  have S0 : W0.heap.size = w.heap.size + 1 := by rw [hW0]; simp
  have R0 := H.out.kept C0 (fun _ _ h => h)
  have Z0 : W0.heap[w.heap.size]? = some (.cells #[.int .i64 0, .int .i64 0, .int .i64 0, .int .i64 0, .int .i64 0, .int .i64 0, .slice none 0 0] 34) := by
    rw [hW0]; show (w.heap.push _)[w.heap.size]? = _; rw [Array.getElem?_push, if_pos rfl]
  clear hW0
  refine (number_any R a0 len cap p 1 bs W0 R0 (by omega) (by omega) hm).mono ?_
  rintro e W1 ⟨rfl, R1, C1⟩
  have hN := (num_bd Hb.out p 1).1
  obtain ⟨N, eN⟩ : ∃ N, num bs p 1 = N := ⟨_, rfl⟩
  have hk1 := hk.out
  rw [eN] at hN hk1 ⊢
  have Z1 : W1.heap[w.heap.size]? = some (.cells #[.int .i64 0, .int .i64 0, .int .i64 0, .int .i64 0, .int .i64 0, .int .i64 0, .slice none 0 0] 34) := by
    rw [C1.block w.heap.size (by omega) (by omega)]; exact Z0
  have hlt1 : w.heap.size < W1.heap.size := lt_of_block Z1
  have C2 : Chg (fun _ => False) W1 (W1.alloc (.cells (evCells (zero 8) (.slice none 0 0)) 34)) := (Chg.refl _ W1).alloc _
  have E2 : (W1.alloc (.cells (evCells (zero 8) (.slice none 0 0)) 34)).heap[W1.heap.size]? = some (.cells (evCells (zero 8) (.slice none 0 0)) 34) := heap_alloc_new W1 _
  have S2 : (W1.alloc (.cells (evCells (zero 8) (.slice none 0 0)) 34)).heap.size = W1.heap.size + 1 := by simp
  have Z2 : (W1.alloc (.cells (evCells (zero 8) (.slice none 0 0)) 34)).heap[w.heap.size]? = some (.cells #[.int .i64 0, .int .i64 0, .int .i64 0, .int .i64 0, .int .i64 0, .int .i64 0, .slice none 0 0] 34) := by
    rw [C2.block w.heap.size (by omega) (fun h => h)]; exact Z1
  have re0 : RE (W1.alloc (.cells (evCells (zero 8) (.slice none 0 0)) 34)) (W1.alloc (.cells (evCells (zero 8) (.slice none 0 0)) 34)) W1.heap.size R a0 len cap bs (zero 8, p + 1) (.slice none 0 0) :=
    ⟨E2, World.ownsRow_nil _ _ _ _, U8Row.nil _, R1.kept C2 (fun _ _ h => h), Chg.refl _ _, by omega, by omega, by omega, fun b o h0 e1 e2 => by have := HO.out b o h0 e1; omega⟩
  have KK : Chg (· = R) w (W1.alloc (.cells (evCells (zero 8) (.slice none 0 0)) 34)) := ((C0.weak (fun _ _ h => h.elim)).trans C1).trans (C2.weak (fun _ _ h => h.elim))
  obtain ⟨x0, hx0⟩ : ∃ x0, ((zero 8, p + 1) : Ev × Nat) = x0 := ⟨_, rfl⟩
  have hq0 : x0.2 = p + 1 := by rw [← hx0]
  rw [hx0] at hf re0
  replace Z2 := Lib.hid Z2; replace re0 := Lib.hid re0; replace KK := Lib.hid KK; replace eN := Lib.hid eN; replace hq0 := Lib.hid hq0
  clear Z0 Z1 C0 C1 C2 E2 S2 hx0 R0 R1
  go_wp2_with fail
  clear hk1
  obtain ⟨W2, hW2⟩ : ∃ x, x = W1.alloc (.cells (evCells (zero 8) (.slice none 0 0)) 34) := ⟨_, rfl⟩
  rw [← hW2] at re0 KK Z2
  change Calls _ _ _ (W1.alloc (.cells (evCells (zero 8) (.slice none 0 0)) 34)) _
  rw [← hW2]
  clear hW2
  refine (number_any R a0 len cap x0.2 4 bs _ re0.out.rr (by omega) (by have := hq0.out; omega) hm).mono ?_
  rintro e v0 ⟨rfl, rr0, cc0⟩
  have n0 := (num_bd Hb.out x0.2 4).1
  have l0 := re0.out.num rr0 cc0
  have f0 := frozen_of_row v0 W1.heap.size 2 _ _ l0.cells
  have g0 := cell_of_row v0 W1.heap.size 2 _ _ _ l0.cells
  simp only [evCells] at g0
  have re1 : RE W2 (v0.setCell ⟨W1.heap.size, 2, none⟩ (.int .i64 (num bs x0.2 4))) W1.heap.size R a0 len cap bs (Fold.step bs x0 .who) (.slice none 0 0) := l0.set 2 _ _ rfl rfl
  clear rr0 cc0
  obtain ⟨x1, hx1⟩ : ∃ y, Fold.step bs x0 .who = y := ⟨_, rfl⟩
  have hq1 : x1.2 = p + 1 + 4 := by
    rw [← hx1]; show x0.2 + 4 = _; have := hq0.out; omega
  rw [hx1] at re1 hf
  replace re1 := Lib.hid re1; replace hq1 := Lib.hid hq1; replace l0 := Lib.hid l0
  clear hx1
  go_wp2_with fail
  clear g0 f0 n0
  refine (number_any R a0 len cap x1.2 2 bs _ re1.out.rr (by omega) (by have := hq1.out; omega) hm).mono ?_
  rintro e v1 ⟨rfl, rr1, cc1⟩
  have n1 := (num_bd Hb.out x1.2 2).1
  have l1 := re1.out.num rr1 cc1
  have f1 := frozen_of_row v1 W1.heap.size 3 _ _ l1.cells
  have g1 := cell_of_row v1 W1.heap.size 3 _ _ _ l1.cells
  simp only [evCells] at g1
  have re2 : RE W2 (v1.setCell ⟨W1.heap.size, 3, none⟩ (.int .i64 (num bs x1.2 2))) W1.heap.size R a0 len cap bs (Fold.step bs x1 .port) (.slice none 0 0) := l1.set 3 _ _ rfl rfl
  clear rr1 cc1
  obtain ⟨x2, hx2⟩ : ∃ y, Fold.step bs x1 .port = y := ⟨_, rfl⟩
  have hq2 : x2.2 = p + 1 + 6 := by
    rw [← hx2]; show x1.2 + 2 = _; have := hq1.out; omega
  rw [hx2] at re2 hf
  replace re2 := Lib.hid re2; replace hq2 := Lib.hid hq2; replace l1 := Lib.hid l1
  clear hx2
  go_wp2_with fail
  clear g1 f1 n1
  refine (bytes_any R a0 len cap x2.2 bs _ re2.out.rr (by have := hq2.out; omega) hm).mono ?_
  rintro e v2 ⟨vb, rfl, ow2, uu2, rr2, cc2⟩
  have l2 := re2.out.num rr2 cc2
  have f2 := frozen_of_row v2 W1.heap.size 6 _ _ l2.cells
  have EB := l2.cells
  have e0 := cell_of_row v2 W1.heap.size 0 _ _ _ EB
  have e1 := cell_of_row v2 W1.heap.size 1 _ _ _ EB
  have e2 := cell_of_row v2 W1.heap.size 2 _ _ _ EB
  have e3 := cell_of_row v2 W1.heap.size 3 _ _ _ EB
  have e4 := cell_of_row v2 W1.heap.size 4 _ _ _ EB
  have e5 := cell_of_row v2 W1.heap.size 5 _ _ _ EB
  have e6 := cell_of_row v2 W1.heap.size 6 _ _ _ EB
  have ZE := Z2.out
  rw [← l2.chg.block w.heap.size (lt_of_block ZE) (by omega)] at ZE
  have z0 := cell_of_row v2 w.heap.size 0 _ _ _ ZE
  have z1 := cell_of_row v2 w.heap.size 1 _ _ _ ZE
  have z2 := cell_of_row v2 w.heap.size 2 _ _ _ ZE
  have z3 := cell_of_row v2 w.heap.size 3 _ _ _ ZE
  have z4 := cell_of_row v2 w.heap.size 4 _ _ _ ZE
  have z5 := cell_of_row v2 w.heap.size 5 _ _ _ ZE
  have z6 := cell_of_row v2 w.heap.size 6 _ _ _ ZE
  have y0 := frozen_of_row v2 w.heap.size 0 _ _ ZE
  have y1 := frozen_of_row v2 w.heap.size 1 _ _ ZE
  have y2 := frozen_of_row v2 w.heap.size 2 _ _ ZE
  have y3 := frozen_of_row v2 w.heap.size 3 _ _ ZE
  have y4 := frozen_of_row v2 w.heap.size 4 _ _ ZE
  have y5 := frozen_of_row v2 w.heap.size 5 _ _ ZE
  have y6 := frozen_of_row v2 w.heap.size 6 _ _ ZE
  simp only [evCells] at e0 e1 e2 e3 e4 e5 e6
  obtain ⟨ao, ln, cp, hvb⟩ : ∃ ao ln cp, vb = Value.slice ao ln cp := by
    rcases ow2.2 with ⟨h, _⟩ | ⟨g', cap', cur, h, _⟩
    · exact ⟨_, _, _, h⟩
    · exact ⟨_, _, _, h⟩
  subst hvb
  have re3 : RE W2 (v2.setCell ⟨W1.heap.size, 6, none⟩ (.slice ao ln cp)) W1.heap.size R a0 len cap bs (Fold.step bs x2 .b) (.slice ao ln cp) := re2.out.bytes (run_length bs _ _).symm rr2 cc2 ow2 uu2
  clear ow2 uu2
  clear rr2 cc2
  rw [hf.out] at re3
  obtain ⟨hev, -⟩ := Prod.mk.inj (show (({ x2.1 with b := run bs (x2.2 + 2) (cnt bs x2.2) } : Ev), x2.2 + 2 + cnt bs x2.2) = (ev, qe) from hf.out)
  have ZF : (v2.setCell ⟨W1.heap.size, 6, none⟩ (.slice ao ln cp)).heap[w.heap.size]? = some (.cells #[.int .i64 0, .int .i64 0, .int .i64 0, .int .i64 0, .int .i64 0, .int .i64 0, .slice none 0 0] 34) := by
    rw [heap_setCell_other _ _ _ _ (by show w.heap.size ≠ W1.heap.size; omega)]; exact ZE
  replace ZF := Lib.hid ZF; replace hev := Lib.hid hev; replace re3 := Lib.hid re3; replace l2 := Lib.hid l2; replace EB := Lib.hid EB; replace ZE := Lib.hid ZE
  go_wp2_with fail
  refine bodyPost_ret (results_cell_row rfl _ _ w.heap.size 34 _ (0, 0) _ rfl (set7 ZF.out) Try.underlying34 rfl (by kernel_rfl)) rfl ⟨(.slice ao ln cp), by rw [← hev.out]; rfl, close KK.out re3.out hlt1 hR0 HO.out (chg7 (Chg.refl _ _) (.inl rfl))⟩

set_option maxRecDepth 100000 in
set_option maxHeartbeats 4000000 in
theorem revent_9 (R : Nat) (a0 : Option Addr) (len cap p : Nat) (bs : List Int) (w : World) (h : RR w R a0 len cap p bs) (hp : p ≤ 10000000000) (hm : len ≤ 1000000000000) (hk : num bs p 1 % 10 = 8) :
    Calls Try.prog 28 #[.pointer (some ⟨R, 0, none⟩)] w fun e w' => ∃ vb, e = .returned (.agg (evCells (evAt bs p) vb)) ∧ w'.ownsRow w.heap.size 5 1 vb (evAt bs p).b.length ((evAt bs p).b.map (Value.int .u8)) ∧ U8Row w' vb ∧ RR w' R a0 len cap (p + evLen bs p) bs ∧ Chg (· = R) w w' := by
  have hbb := h.bytes.2.1
  have hR0 := lt_of_block h.blk
  have hO := (RB.refl h).oldB
  have hf := fold_ev bs p hbb
  rw [show num bs p 1 % 10 + 1 = 9 by omega, show nms 9 = [.n, .b] by rfl] at hf
  simp only [List.foldl_cons, List.foldl_nil] at hf
  obtain ⟨ev, hev⟩ : ∃ ev, evAt bs p = ev := ⟨_, rfl⟩
  obtain ⟨qe, hqe⟩ : ∃ qe, p + evLen bs p = qe := ⟨_, rfl⟩
  rw [hev, hqe] at hf
  rw [hev, hqe]
  clear hev hqe
  have H := Lib.hid h; have HO := Lib.hid hO; have Hb := Lib.hid hbb
  clear h hO hbb
  replace hk := Lib.hid hk; replace hf := Lib.hid hf
  go_enter Try.func28, Try.ntmps28
  go_wp2_with fail
  obtain ⟨W0, hW0⟩ : ∃ x, x = w.alloc (.cells #[.int .i64 0, .int .i64 0, .int .i64 0, .int .i64 0, .int .i64 0, .int .i64 0, .slice none 0 0] 34) := ⟨_, rfl⟩
  rw [← hW0]
  have C0 : Chg (fun _ => False) w W0 := by rw [hW0]; exact (Chg.refl _ w).alloc _
  have S0 : W0.heap.size = w.heap.size + 1 := by rw [hW0]; simp
  have R0 := H.out.kept C0 (fun _ _ h => h)
  have Z0 : W0.heap[w.heap.size]? = some (.cells #[.int .i64 0, .int .i64 0, .int .i64 0, .int .i64 0, .int .i64 0, .int .i64 0, .slice none 0 0] 34) := by
    rw [hW0]; show (w.heap.push _)[w.heap.size]? = _; rw [Array.getElem?_push, if_pos rfl]
  clear hW0
  refine (number_any R a0 len cap p 1 bs W0 R0 (by omega) (by omega) hm).mono ?_
  rintro e W1 ⟨rfl, R1, C1⟩
  have hN := (num_bd Hb.out p 1).1
  obtain ⟨N, eN⟩ : ∃ N, num bs p 1 = N := ⟨_, rfl⟩
  have hk1 := hk.out
  rw [eN] at hN hk1 ⊢
  have Z1 : W1.heap[w.heap.size]? = some (.cells #[.int .i64 0, .int .i64 0, .int .i64 0, .int .i64 0, .int .i64 0, .int .i64 0, .slice none 0 0] 34) := by
    rw [C1.block w.heap.size (by omega) (by omega)]; exact Z0
  have hlt1 : w.heap.size < W1.heap.size := lt_of_block Z1
  have C2 : Chg (fun _ => False) W1 (W1.alloc (.cells (evCells (zero 9) (.slice none 0 0)) 34)) := (Chg.refl _ W1).alloc _
  have E2 : (W1.alloc (.cells (evCells (zero 9) (.slice none 0 0)) 34)).heap[W1.heap.size]? = some (.cells (evCells (zero 9) (.slice none 0 0)) 34) := heap_alloc_new W1 _
  have S2 : (W1.alloc (.cells (evCells (zero 9) (.slice none 0 0)) 34)).heap.size = W1.heap.size + 1 := by simp
  have Z2 : (W1.alloc (.cells (evCells (zero 9) (.slice none 0 0)) 34)).heap[w.heap.size]? = some (.cells #[.int .i64 0, .int .i64 0, .int .i64 0, .int .i64 0, .int .i64 0, .int .i64 0, .slice none 0 0] 34) := by
    rw [C2.block w.heap.size (by omega) (fun h => h)]; exact Z1
  have re0 : RE (W1.alloc (.cells (evCells (zero 9) (.slice none 0 0)) 34)) (W1.alloc (.cells (evCells (zero 9) (.slice none 0 0)) 34)) W1.heap.size R a0 len cap bs (zero 9, p + 1) (.slice none 0 0) :=
    ⟨E2, World.ownsRow_nil _ _ _ _, U8Row.nil _, R1.kept C2 (fun _ _ h => h), Chg.refl _ _, by omega, by omega, by omega, fun b o h0 e1 e2 => by have := HO.out b o h0 e1; omega⟩
  have KK : Chg (· = R) w (W1.alloc (.cells (evCells (zero 9) (.slice none 0 0)) 34)) := ((C0.weak (fun _ _ h => h.elim)).trans C1).trans (C2.weak (fun _ _ h => h.elim))
  obtain ⟨x0, hx0⟩ : ∃ x0, ((zero 9, p + 1) : Ev × Nat) = x0 := ⟨_, rfl⟩
  have hq0 : x0.2 = p + 1 := by rw [← hx0]
  rw [hx0] at hf re0
  replace Z2 := Lib.hid Z2; replace re0 := Lib.hid re0; replace KK := Lib.hid KK; replace eN := Lib.hid eN; replace hq0 := Lib.hid hq0
  clear Z0 Z1 C0 C1 C2 E2 S2 hx0 R0 R1
  go_wp2_with fail
  clear hk1
  obtain ⟨W2, hW2⟩ : ∃ x, x = W1.alloc (.cells (evCells (zero 9) (.slice none 0 0)) 34) := ⟨_, rfl⟩
  rw [← hW2] at re0 KK Z2
  change Calls _ _ _ (W1.alloc (.cells (evCells (zero 9) (.slice none 0 0)) 34)) _
  rw [← hW2]
  clear hW2
  refine (number_any R a0 len cap x0.2 2 bs _ re0.out.rr (by omega) (by have := hq0.out; omega) hm).mono ?_
  rintro e v0 ⟨rfl, rr0, cc0⟩
  have n0 := (num_bd Hb.out x0.2 2).1
  have l0 := re0.out.num rr0 cc0
  have f0 := frozen_of_row v0 W1.heap.size 5 _ _ l0.cells
  have g0 := cell_of_row v0 W1.heap.size 5 _ _ _ l0.cells
  simp only [evCells] at g0
  have re1 : RE W2 (v0.setCell ⟨W1.heap.size, 5, none⟩ (.int .i64 (num bs x0.2 2))) W1.heap.size R a0 len cap bs (Fold.step bs x0 .n) (.slice none 0 0) := l0.set 5 _ _ rfl rfl
  clear rr0 cc0
  obtain ⟨x1, hx1⟩ : ∃ y, Fold.step bs x0 .n = y := ⟨_, rfl⟩
  have hq1 : x1.2 = p + 1 + 2 := by
    rw [← hx1]; show x0.2 + 2 = _; have := hq0.out; omega
  rw [hx1] at re1 hf
  replace re1 := Lib.hid re1; replace hq1 := Lib.hid hq1; replace l0 := Lib.hid l0
  clear hx1
  go_wp2_with fail
  clear g0 f0 n0
  refine (bytes_any R a0 len cap x1.2 bs _ re1.out.rr (by have := hq1.out; omega) hm).mono ?_
  rintro e v1 ⟨vb, rfl, ow1, uu1, rr1, cc1⟩
  have l1 := re1.out.num rr1 cc1
  have f1 := frozen_of_row v1 W1.heap.size 6 _ _ l1.cells
  have EB := l1.cells
  have e0 := cell_of_row v1 W1.heap.size 0 _ _ _ EB
  have e1 := cell_of_row v1 W1.heap.size 1 _ _ _ EB
  have e2 := cell_of_row v1 W1.heap.size 2 _ _ _ EB
  have e3 := cell_of_row v1 W1.heap.size 3 _ _ _ EB
  have e4 := cell_of_row v1 W1.heap.size 4 _ _ _ EB
  have e5 := cell_of_row v1 W1.heap.size 5 _ _ _ EB
  have e6 := cell_of_row v1 W1.heap.size 6 _ _ _ EB
  have ZE := Z2.out
  rw [← l1.chg.block w.heap.size (lt_of_block ZE) (by omega)] at ZE
  have z0 := cell_of_row v1 w.heap.size 0 _ _ _ ZE
  have z1 := cell_of_row v1 w.heap.size 1 _ _ _ ZE
  have z2 := cell_of_row v1 w.heap.size 2 _ _ _ ZE
  have z3 := cell_of_row v1 w.heap.size 3 _ _ _ ZE
  have z4 := cell_of_row v1 w.heap.size 4 _ _ _ ZE
  have z5 := cell_of_row v1 w.heap.size 5 _ _ _ ZE
  have z6 := cell_of_row v1 w.heap.size 6 _ _ _ ZE
  have y0 := frozen_of_row v1 w.heap.size 0 _ _ ZE
  have y1 := frozen_of_row v1 w.heap.size 1 _ _ ZE
  have y2 := frozen_of_row v1 w.heap.size 2 _ _ ZE
  have y3 := frozen_of_row v1 w.heap.size 3 _ _ ZE
  have y4 := frozen_of_row v1 w.heap.size 4 _ _ ZE
  have y5 := frozen_of_row v1 w.heap.size 5 _ _ ZE
  have y6 := frozen_of_row v1 w.heap.size 6 _ _ ZE
  simp only [evCells] at e0 e1 e2 e3 e4 e5 e6
  obtain ⟨ao, ln, cp, hvb⟩ : ∃ ao ln cp, vb = Value.slice ao ln cp := by
    rcases ow1.2 with ⟨h, _⟩ | ⟨g', cap', cur, h, _⟩
    · exact ⟨_, _, _, h⟩
    · exact ⟨_, _, _, h⟩
  subst hvb
  have re2 : RE W2 (v1.setCell ⟨W1.heap.size, 6, none⟩ (.slice ao ln cp)) W1.heap.size R a0 len cap bs (Fold.step bs x1 .b) (.slice ao ln cp) := re1.out.bytes (run_length bs _ _).symm rr1 cc1 ow1 uu1
  clear ow1 uu1
  clear rr1 cc1
  rw [hf.out] at re2
  obtain ⟨hev, -⟩ := Prod.mk.inj (show (({ x1.1 with b := run bs (x1.2 + 2) (cnt bs x1.2) } : Ev), x1.2 + 2 + cnt bs x1.2) = (ev, qe) from hf.out)
  have ZF : (v1.setCell ⟨W1.heap.size, 6, none⟩ (.slice ao ln cp)).heap[w.heap.size]? = some (.cells #[.int .i64 0, .int .i64 0, .int .i64 0, .int .i64 0, .int .i64 0, .int .i64 0, .slice none 0 0] 34) := by
    rw [heap_setCell_other _ _ _ _ (by show w.heap.size ≠ W1.heap.size; omega)]; exact ZE
  replace ZF := Lib.hid ZF; replace hev := Lib.hid hev; replace re2 := Lib.hid re2; replace l1 := Lib.hid l1; replace EB := Lib.hid EB; replace ZE := Lib.hid ZE
  go_wp2_with fail
  refine bodyPost_ret (results_cell_row rfl _ _ w.heap.size 34 _ (0, 0) _ rfl (set7 ZF.out) Try.underlying34 rfl (by kernel_rfl)) rfl ⟨(.slice ao ln cp), by rw [← hev.out]; rfl, close KK.out re2.out hlt1 hR0 HO.out (chg7 (Chg.refl _ _) (.inl rfl))⟩

set_option maxRecDepth 100000 in
set_option maxHeartbeats 4000000 in
theorem revent_10 (R : Nat) (a0 : Option Addr) (len cap p : Nat) (bs : List Int) (w : World) (h : RR w R a0 len cap p bs) (hp : p ≤ 10000000000) (hm : len ≤ 1000000000000) (hk : num bs p 1 % 10 = 9) :
    Calls Try.prog 28 #[.pointer (some ⟨R, 0, none⟩)] w fun e w' => ∃ vb, e = .returned (.agg (evCells (evAt bs p) vb)) ∧ w'.ownsRow w.heap.size 5 1 vb (evAt bs p).b.length ((evAt bs p).b.map (Value.int .u8)) ∧ U8Row w' vb ∧ RR w' R a0 len cap (p + evLen bs p) bs ∧ Chg (· = R) w w' := by
  have hbb := h.bytes.2.1
  have hR0 := lt_of_block h.blk
  have hO := (RB.refl h).oldB
  have hf := fold_ev bs p hbb
  rw [show num bs p 1 % 10 + 1 = 10 by omega, show nms 10 = [] by rfl] at hf
  simp only [List.foldl_nil] at hf
  obtain ⟨ev, hev⟩ : ∃ ev, evAt bs p = ev := ⟨_, rfl⟩
  obtain ⟨qe, hqe⟩ : ∃ qe, p + evLen bs p = qe := ⟨_, rfl⟩
  rw [hev, hqe] at hf
  rw [hev, hqe]
  clear hev hqe
  have H := Lib.hid h; have HO := Lib.hid hO; have Hb := Lib.hid hbb
  clear h hO hbb
  replace hk := Lib.hid hk; replace hf := Lib.hid hf
  go_enter Try.func28, Try.ntmps28
  go_wp2_with fail
  obtain ⟨W0, hW0⟩ : ∃ x, x = w.alloc (.cells #[.int .i64 0, .int .i64 0, .int .i64 0, .int .i64 0, .int .i64 0, .int .i64 0, .slice none 0 0] 34) := ⟨_, rfl⟩
  rw [← hW0]
  have C0 : Chg (fun _ => False) w W0 := by rw [hW0]; exact (Chg.refl _ w).alloc _
  have S0 : W0.heap.size = w.heap.size + 1 := by rw [hW0]; simp
  have R0 := H.out.kept C0 (fun _ _ h => h)
  have Z0 : W0.heap[w.heap.size]? = some (.cells #[.int .i64 0, .int .i64 0, .int .i64 0, .int .i64 0, .int .i64 0, .int .i64 0, .slice none 0 0] 34) := by
    rw [hW0]; show (w.heap.push _)[w.heap.size]? = _; rw [Array.getElem?_push, if_pos rfl]
  clear hW0
  refine (number_any R a0 len cap p 1 bs W0 R0 (by omega) (by omega) hm).mono ?_
  rintro e W1 ⟨rfl, R1, C1⟩
  have hN := (num_bd Hb.out p 1).1
  obtain ⟨N, eN⟩ : ∃ N, num bs p 1 = N := ⟨_, rfl⟩
  have hk1 := hk.out
  rw [eN] at hN hk1 ⊢
  have Z1 : W1.heap[w.heap.size]? = some (.cells #[.int .i64 0, .int .i64 0, .int .i64 0, .int .i64 0, .int .i64 0, .int .i64 0, .slice none 0 0] 34) := by
    rw [C1.block w.heap.size (by omega) (by omega)]; exact Z0
  have hlt1 : w.heap.size < W1.heap.size := lt_of_block Z1
  have C2 : Chg (fun _ => False) W1 (W1.alloc (.cells (evCells (zero 10) (.slice none 0 0)) 34)) := (Chg.refl _ W1).alloc _
  have E2 : (W1.alloc (.cells (evCells (zero 10) (.slice none 0 0)) 34)).heap[W1.heap.size]? = some (.cells (evCells (zero 10) (.slice none 0 0)) 34) := heap_alloc_new W1 _
  have S2 : (W1.alloc (.cells (evCells (zero 10) (.slice none 0 0)) 34)).heap.size = W1.heap.size + 1 := by simp
  have Z2 : (W1.alloc (.cells (evCells (zero 10) (.slice none 0 0)) 34)).heap[w.heap.size]? = some (.cells #[.int .i64 0, .int .i64 0, .int .i64 0, .int .i64 0, .int .i64 0, .int .i64 0, .slice none 0 0] 34) := by
    rw [C2.block w.heap.size (by omega) (fun h => h)]; exact Z1
  have re0 : RE (W1.alloc (.cells (evCells (zero 10) (.slice none 0 0)) 34)) (W1.alloc (.cells (evCells (zero 10) (.slice none 0 0)) 34)) W1.heap.size R a0 len cap bs (zero 10, p + 1) (.slice none 0 0) :=
    ⟨E2, World.ownsRow_nil _ _ _ _, U8Row.nil _, R1.kept C2 (fun _ _ h => h), Chg.refl _ _, by omega, by omega, by omega, fun b o h0 e1 e2 => by have := HO.out b o h0 e1; omega⟩
  have KK : Chg (· = R) w (W1.alloc (.cells (evCells (zero 10) (.slice none 0 0)) 34)) := ((C0.weak (fun _ _ h => h.elim)).trans C1).trans (C2.weak (fun _ _ h => h.elim))
  obtain ⟨x0, hx0⟩ : ∃ x0, ((zero 10, p + 1) : Ev × Nat) = x0 := ⟨_, rfl⟩
  have hq0 : x0.2 = p + 1 := by rw [← hx0]
  rw [hx0] at hf re0
  rw [← hx0] at hf
  have hx := hf.out
  obtain ⟨hev, hqv⟩ := Prod.mk.inj hx
  have z0 := cell_of_row W1 w.heap.size 0 _ _ _ Z1
  have z1 := cell_of_row W1 w.heap.size 1 _ _ _ Z1
  have z2 := cell_of_row W1 w.heap.size 2 _ _ _ Z1
  have z3 := cell_of_row W1 w.heap.size 3 _ _ _ Z1
  have z4 := cell_of_row W1 w.heap.size 4 _ _ _ Z1
  have z5 := cell_of_row W1 w.heap.size 5 _ _ _ Z1
  have z6 := cell_of_row W1 w.heap.size 6 _ _ _ Z1
  have y0 := frozen_of_row W1 w.heap.size 0 _ _ Z1
  have y1 := frozen_of_row W1 w.heap.size 1 _ _ Z1
  have y2 := frozen_of_row W1 w.heap.size 2 _ _ Z1
  have y3 := frozen_of_row W1 w.heap.size 3 _ _ Z1
  have y4 := frozen_of_row W1 w.heap.size 4 _ _ Z1
  have y5 := frozen_of_row W1 w.heap.size 5 _ _ Z1
  have y6 := frozen_of_row W1 w.heap.size 6 _ _ Z1
  have K1 := (C0.weak (S' := (· = R)) (fun _ _ h => h.elim)).trans C1
  rw [hqv] at R1
  replace K1 := Lib.hid K1; replace R1 := Lib.hid R1; replace eN := Lib.hid eN; replace hev := Lib.hid hev; replace Z1 := Lib.hid Z1
  clear Z0 Z2 KK hq0 re0 C0 C1 C2 E2 S2 hx0 R0 hx hqv
  go_wp2_with fail
  have hnil : ev.b = [] := by rw [← hev.out]; rfl
  have Q := (chg7 (v0 := .int .i64 10) (v1 := .int .i64 0) (v2 := .int .i64 0) (v3 := .int .i64 0) (v4 := .int .i64 0) (v5 := .int .i64 0) (v6 := .slice none 0 0) (Chg.refl (fun b => b = w.heap.size) W1) (.inl rfl)).alloc (.cells #[.int .i64 10, .int .i64 0, .int .i64 0, .int .i64 0, .int .i64 0, .int .i64 0, .slice none 0 0] 34)
  refine bodyPost_ret (results_cell_row rfl _ _ w.heap.size 34 _ (0, 0) _ rfl (by rw [Below.heap_alloc _ _ _ (lt_of_block (set7 Z1.out))]; exact set7 Z1.out) Try.underlying34 rfl (by kernel_rfl)) rfl ⟨.slice none 0 0, by rw [← hev.out]; rfl, by rw [hnil]; exact World.ownsRow_nil _ _ _ _, U8Row.nil _, rr_kept R1.out Q (by omega) (fun b o h0 e => by have := HO.out b o h0 e; omega), Chg_after K1.out Q (fun i hi e => by omega)⟩

theorem revent_any (R : Nat) (a0 : Option Addr) (len cap p : Nat) (bs : List Int) (w : World) (h : RR w R a0 len cap p bs) (hp : p ≤ 10000000000) (hm : len ≤ 1000000000000) :
    Calls Try.prog 28 #[.pointer (some ⟨R, 0, none⟩)] w fun e w' => ∃ vb, e = .returned (.agg (evCells (evAt bs p) vb)) ∧ w'.ownsRow w.heap.size 5 1 vb (evAt bs p).b.length ((evAt bs p).b.map (Value.int .u8)) ∧ U8Row w' vb ∧ RR w' R a0 len cap (p + evLen bs p) bs ∧ Chg (· = R) w w' := by
  have h0 := (num_bd h.bytes.2.1 p 1).1
  have hk : num bs p 1 % 10 = 0 ∨ num bs p 1 % 10 = 1 ∨ num bs p 1 % 10 = 2 ∨ num bs p 1 % 10 = 3 ∨ num bs p 1 % 10 = 4 ∨ num bs p 1 % 10 = 5 ∨ num bs p 1 % 10 = 6 ∨ num bs p 1 % 10 = 7 ∨ num bs p 1 % 10 = 8 ∨ num bs p 1 % 10 = 9 := by omega
  rcases hk with hk | hk | hk | hk | hk | hk | hk | hk | hk | hk
  · exact revent_1 R a0 len cap p bs w h hp hm hk
  · exact revent_2 R a0 len cap p bs w h hp hm hk
  · exact revent_3 R a0 len cap p bs w h hp hm hk
  · exact revent_4 R a0 len cap p bs w h hp hm hk
  · exact revent_5 R a0 len cap p bs w h hp hm hk
  · exact revent_6 R a0 len cap p bs w h hp hm hk
  · exact revent_7 R a0 len cap p bs w h hp hm hk
  · exact revent_8 R a0 len cap p bs w h hp hm hk
  · exact revent_9 R a0 len cap p bs w h hp hm hk
  · exact revent_10 R a0 len cap p bs w h hp hm hk

end Go.Proofs.Ythdobpfojdcagaa.REvent
