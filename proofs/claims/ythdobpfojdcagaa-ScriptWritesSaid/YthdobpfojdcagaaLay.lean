/-
  The walk of lay: an event's bytes.
-/
import Derived.Test.YthdobpfojdcagaaRBytes
set_option linter.unusedVariables false
namespace Go.Proofs.Ythdobpfojdcagaa.Lay
open Go.RowKit Go.Proofs.Ythdobpfojdcagaa.Ev Go.Proofs.Ythdobpfojdcagaa.Fold Go.Proofs.Ythdobpfojdcagaa.Lay0 Go.Proofs.Ythdobpfojdcagaa.Next Go.Proofs.Ythdobpfojdcagaa.Fields Go.Proofs.Ythdobpfojdcagaa.Li Go.Proofs.Ythdobpfojdcagaa.EventAny Go.Proofs.Ythdobpfojdcagaa.Events Go.Proofs.Ythdobpfojdcagaa.Same Go.Proofs.Ythdobpfojdcagaa.Is Go.Proofs.Ythdobpfojdcagaa.App Go.Proofs.Ythdobpfojdcagaa.RBytes

/-- Where a field stands, how many bytes it has, its value. -/
def off : Nm → Nat | .who => 2 | .port => 3 | .conn => 4 | .n => 5 | .sort => 1 | .b => 6
def sz : Nm → Nat | .who => 4 | .port => 2 | .conn => 2 | .n => 2 | .sort => 1 | .b => 2
def val (e : Ev) : Nm → Int | .who => e.who | .port => e.port | .conn => e.conn | .n => e.n | .sort => e.s | .b => e.b.length
theorem sz_le (m : Nm) : sz m ≤ 4 := by cases m <;> decide
theorem fld_num (e : Ev) (m : Nm) (h : m ≠ .b) : fld e m = putN (val e m) (sz m) := by cases m <;> first | rfl | exact absurd rfl h
theorem val_bd {e : Ev} (ok : EvOk e) (m : Nm) (h : m ≠ .b) : -9223372036854775808 ≤ val e m ∧ val e m ≤ 9223372036854775807 := by
  obtain ⟨a0, a1, b0, b1, c0, c1, d0, d1, e0, e1, f0, f1⟩ := ok
  cases m <;> first | exact ⟨by assumption, by assumption⟩ | exact absurd rfl h

theorem number_m (X : Nat) (m : Nm) (h : m ≠ .b) (w : World) :
    Calls Try.prog 38 #[.pointer (some ⟨X, 0, none⟩), .string (nmB m)] w fun e w' => e = .returned (.tuple #[.pointer (some ⟨X, off m, none⟩), .int .i64 (sz m : Nat)]) ∧ w = w' := by
  cases m
  case who => exact number_who X w
  case port => exact number_port X w
  case conn => exact number_conn X w
  case n => exact number_n X w
  case sort => exact number_sort X w
  case b => exact absurd rfl h

/-- A block of another type is as it was behind an append. -/
theorem row_far {w w' : World} {base : Nat} {v : Value} {n : Nat} {xs : List Value} {g : Nat} {cs : Array Value} {T : TypeId} {fr : Nat × Nat} (h : w.ownsRow base 5 1 v n xs) (k : w.heap[g]? = some (.cells cs T fr)) (hT : T ≠ 5) (hg : w.grownBy w' v.ownBlock) : w'.heap[g]? = some (.cells cs T fr) := by
  rw [hg.block g (lt_of_block k) ?_]; exact k
  rcases h.2 with ⟨rfl, _⟩ | ⟨g', cap, cur, rfl, _, hg', _⟩
  · intro e; cases e
  · intro e
    simp only [Value.ownBlock, Option.some.injEq] at e
    subst e
    rw [k] at hg'; injection hg' with e1; injection e1 with _ e2 _
    exact hT e2

/-- While an event is laid: its bytes so far. -/
structure LY (w wr : World) (X J : Nat) (ev : Ev) (a0 : Option Addr) (c0 : Nat) (nm : Array Value) (v : Value) (out : List Int) : Prop where
  own : wr.ownsRow w.heap.size 5 1 v out.length (out.map (Value.int .u8))
  row : wr.heap[X]? = some (.cells (evCells ev (.slice a0 ev.b.length c0)) 34 (0, 0))
  nms : wr.heap[J]? = some (.cells nm 9 (0, 0))
  chg : Chg (fun _ => False) w wr
theorem LY.alloc {w wr : World} {X J : Nat} {ev : Ev} {a0 : Option Addr} {c0 : Nat} {nm : Array Value} {v : Value} {out : List Int} (h : LY w wr X J ev a0 c0 nm v out) (o : Obj) : LY w (wr.alloc o) X J ev a0 c0 nm v out :=
  ⟨h.own.alloc o, by rw [Below.heap_alloc _ _ _ (lt_of_block h.row)]; exact h.row, by rw [Below.heap_alloc _ _ _ (lt_of_block h.nms)]; exact h.nms, h.chg.alloc o⟩
theorem LY.grown {w wr w' : World} {X J : Nat} {ev : Ev} {a0 : Option Addr} {c0 : Nat} {nm : Array Value} {v v' : Value} {out out' : List Int} (h : LY w wr X J ev a0 c0 nm v out) (hg : wr.grownBy w' v.ownBlock) (ho : w'.ownsRow w.heap.size 5 1 v' out'.length (out'.map (Value.int .u8))) : LY w w' X J ev a0 c0 nm v' out' :=
  ⟨ho, row_far h.own h.row (by decide) hg, row_far h.own h.nms (by decide) hg, h.chg.grown hg (fun b hb => .inr (h.own.lt b hb).1)⟩

theorem mem_of_getD {l : List Nm} {y : Nat} (h : y < l.length) : l[y]? = some (l.getD y .n) := by
  rw [List.getD_eq_getElem?_getD, List.getElem?_eq_getElem h]; rfl
theorem flat_snoc (ev : Ev) (l : List Nm) (y : Nat) (h : y < l.length) : (l.take (y + 1)).flatMap (fld ev) = (l.take y).flatMap (fld ev) ++ fld ev (l.getD y .n) := by
  rw [List.take_succ_eq_append_getElem h, List.flatMap_append, List.getD_eq_getElem?_getD, List.getElem?_eq_getElem h]
  simp

set_option maxRecDepth 100000 in
set_option maxHeartbeats 4000000 in
theorem lay_some (ev : Ev) {P : Nat → Prop} (a0 : Option Addr) (c0 : Nat) (w : World) (ok : EvOk ev) (h : IsB P w a0 ev.b.length c0 ev.b) (hm : ev.b.length ≤ 1000000) (hk : ev.k = 1 ∨ ev.k = 2 ∨ ev.k = 3 ∨ ev.k = 4 ∨ ev.k = 5 ∨ ev.k = 6 ∨ ev.k = 7 ∨ ev.k = 8 ∨ ev.k = 9) :
    Calls Try.prog 31 #[.agg (evCells ev (.slice a0 ev.b.length c0))] w fun e w' => ∃ v, e = .returned v ∧ w'.ownsRow w.heap.size 5 1 v (layE ev).length ((layE ev).map (Value.int .u8)) ∧ Chg (fun _ => False) w w' := by
  obtain ⟨i0, hi0, hz0, hz1, hz2⟩ := info_parts Try.info5
  replace hi0 := Lib.hid hi0; replace hz0 := Lib.hid hz0; replace hz1 := Lib.hid hz1; replace hz2 := Lib.hid hz2
  obtain ⟨K, hK⟩ : ∃ K, ev.k = K := ⟨_, rfl⟩
  obtain ⟨kb, hkb⟩ : ∃ kb, kb = K - 1 := ⟨_, rfl⟩
  have hkb2 : (ev.k - 1) % 256 = kb := by rw [hK]; rw [hK] at hk; omega
  have kb0 : 0 ≤ kb := by rw [hK] at hk; omega
  have kb1 : kb ≤ 255 := by rw [hK] at hk; omega
  have hKk : kb + 1 = K := by omega
  have hK10 : K = 1 ∨ K = 2 ∨ K = 3 ∨ K = 4 ∨ K = 5 ∨ K = 6 ∨ K = 7 ∨ K = 8 ∨ K = 9 ∨ K = 10 := by rw [hK] at hk; omega
  obtain ⟨i, v, hf, hv⟩ := names_at (w.heap.size + 2) K hK10
  have hM10 : nms K ≠ [] := by
    rw [hK] at hk
    rcases hk with h | h | h | h | h | h | h | h | h <;> (rw [h]; decide)
  rcases hv with ⟨rfl, hnm⟩ | ⟨j, hj, rfl, hnm⟩
  · exact absurd hnm hM10
  obtain ⟨o, ho⟩ : ∃ o, Obj.cells (evCells ev (.slice a0 ev.b.length c0)) 34 = o := ⟨_, rfl⟩
  obtain ⟨W0, hW0⟩ : ∃ W, W = (w.alloc o).alloc (.cells #[.int .u8 kb] 5) := ⟨_, rfl⟩
  have C0 : Chg (fun _ => False) w W0 := by rw [hW0]; exact ((Chg.refl _ w).alloc _).alloc _
  have S0 : W0.heap.size = w.heap.size + 2 := by rw [hW0]; simp
  have E0 : W0.heap[w.heap.size]? = some (.cells (evCells ev (.slice a0 ev.b.length c0)) 34 (0, 0)) := by
    rw [hW0, Below.heap_alloc _ _ _ (by simp), ho]; exact heap_alloc_new w _
  have OK : W0.ownsRow w.heap.size 5 1 (.slice (some ⟨w.heap.size + 1, 0, none⟩) 1 1) 1 [.int .u8 kb] := by
    have h1 := World.ownsRow_lit (base := w.heap.size) (e := 5) (size := 1) (w.alloc o) #[.int .u8 kb] 1 (by simp) (by unfold maxLen; omega) rfl
    rw [show (w.alloc o).heap.size = w.heap.size + 1 by simp] at h1
    rw [hW0]; exact h1
  have d0 : W0.drew.cell? ⟨w.heap.size, 0, none⟩ = some (.int .i64 K) := by rw [← hK]; exact cell_of_row W0 w.heap.size 0 _ _ _ E0
  have hcs : o = .cells #[.int .i64 K, .int .i64 ev.s, .int .i64 ev.who, .int .i64 ev.port, .int .i64 ev.conn, .int .i64 ev.n, .slice a0 ev.b.length c0] 34 := by rw [← ho, ← hK]; rfl
  have H := Lib.hid h; have OKv := Lib.hid ok
  replace hk := Lib.hid hk; replace hK := Lib.hid hK; replace hkb2 := Lib.hid hkb2; replace hf := Lib.hid hf; replace hnm := Lib.hid hnm; replace ho := Lib.hid ho; replace hW0 := Lib.hid hW0; replace C0 := Lib.hid C0; replace E0 := Lib.hid E0; replace OK := Lib.hid OK; replace hcs := Lib.hid hcs; replace S0 := Lib.hid S0
  have hkw : K - 1 = kb := hkb.symm
  have hkm : kb % 256 = kb := by omega
  clear h ok hM10 hK10 hkb
  simp only [evCells]
  rw [hK.out]
  go_enter Try.func31, Try.ntmps31
  go_wp2_with fail
  rw [← hcs.out, ← hW0.out]
  have S0v := S0.out
  go_region_held3 (fun w' => w'.cell? ⟨w.heap.size, 0, none⟩ = some (.int .i64 K)) (first | exact d0 | exact ((Hid.out ‹Hid (Flds W0.drew _)›).chg.cell (p := ⟨w.heap.size, 0, none⟩) (lt_of_block (show W0.drew.heap[w.heap.size]? = _ from E0.out)) (fun h => h)).trans d0)
    (first | (go_at_call 37; (with_reducible refine (fields_fd _).mono ?_); rintro e w5 ⟨rfl, h5⟩; have m5 := h5.map; rw [show W0.drew.heap.size = w.heap.size + 2 from S0.out] at m5; have L5 := run_look K i _ m5 hf.out; clear m5; have H5 := Lib.hid h5; clear h5))
  clear L5 d0 S0v
  have N5 : w5.heap[w.heap.size + 2 + (j + 1)]? = some (.cells ((nms K).map fun y => Value.string (nmB y)).toArray 9 (0, 0)) := by
    have hr := H5.out.rows j hj
    rw [show W0.drew.heap.size = w.heap.size + 2 from S0.out, hnm.out] at hr
    exact hr
  have C5 : Chg (fun _ => False) W0 w5 := ((Chg.refl _ W0).drewN 1).trans H5.out.chg
  have LY0 : LY w w5 w.heap.size (w.heap.size + 2 + (j + 1)) ev a0 c0 ((nms K).map fun y => Value.string (nmB y)).toArray (.slice (some ⟨w.heap.size + 1, 0, none⟩) 1 1) [kb] :=
    ⟨owns_kept OK.out C5 (fun _ _ h => h), (C5.block w.heap.size (lt_of_block E0.out) (fun h => h)).trans E0.out, N5, C0.out.trans C5⟩
  replace LY0 := Lib.hid LY0
  clear N5 C5
  have hL3 : (nms K).length ≤ 3 := nms_len K
  have hlay : layE ev = kb :: (nms K).flatMap (fld ev) := by unfold layE; rw [hkb2.out, hK.out]
  obtain ⟨L, hL⟩ : ∃ L, (nms K).length = L := ⟨_, rfl⟩
  rw [hL] at hL3 ⊢
  replace hL := Lib.hid hL; replace hlay := Lib.hid hlay
  go_wp2_with fail
  go_loopg [3, 5, 6, 7, 8, 9, 20] L (fun g v3 _ _ _ _ _ v20 wr => ∃ (y : Nat) (out : List Int) (ao : Option Addr) (cp : Nat), y ≤ L ∧ g = L - y ∧ v20 = .int .i64 y ∧ v3 = .slice ao out.length cp ∧ out = kb :: ((nms K).take y).flatMap (fld ev) ∧ LY w wr w.heap.size (w.heap.size + 2 + (j + 1)) ev a0 c0 ((nms K).map fun y => Value.string (nmB y)).toArray (.slice ao out.length cp) out)
  case atStart => exact ⟨0, [kb], _, 1, Nat.zero_le _, rfl, rfl, rfl, rfl, LY0.out⟩
  case round =>
    obtain ⟨y, out, ao, cp, hy, hg, rfl, rfl, hout, hly⟩ := hrel
    have Hg := Lib.hid hg; clear hg
    by_cases hlt : y < L
    · have hy2 : y < (nms K).length := by rw [hL.out]; exact hlt
      have hx := flat_snoc ev (nms K) y hy2
      obtain ⟨m, hmm⟩ : ∃ m, (nms K).getD y .n = m := ⟨_, rfl⟩
      have c1 : wr.cell? ⟨w.heap.size + 2 + (j + 1), y, none⟩ = some (.string (nmB m)) := by
        rw [cell_of_row wr _ _ _ _ _ hly.nms]
        simp only [List.getElem?_toArray, List.getElem?_map, mem_of_getD hy2, hmm, Option.map_some]
      rw [hmm] at hx
      have hx2 : out ++ fld ev m = kb :: ((nms K).take (y + 1)).flatMap (fld ev) := by rw [hx, hout]; rfl
      have x6 := cell_of_row wr w.heap.size 6 _ _ _ hly.row
      simp only [evCells] at x6
      have holen : out.length ≤ 3000100 := by
        have h1 := flat_len ev ((nms K).take y)
        have h2 : ((nms K).take y).length ≤ 3 := by simp; omega
        have h3 : ((nms K).take y).length * (4 + ev.b.length) ≤ 3 * (4 + ev.b.length) := Nat.mul_le_mul_right _ h2
        rw [hout, List.length_cons]; omega
      replace hx2 := Lib.hid hx2
      clear hx hout
      by_cases hb : m = .b
      · subst hb
        have Hly := Lib.hid hly; clear hly
        unfold nmB at c1
        replace hmm := Lib.hid hmm
        go_wp2_with fail
        refine (number_b _ _).mono ?_; rintro e wn ⟨rfl, rfl⟩
        go_wp2_with fail
        go_loopg [3, 9] 2 (fun g v3 v9 wq => ∃ (i : Nat) (pre : List Int) (ap : Option Addr) (cq : Nat), i ≤ 2 ∧ g = i ∧ v9 = .int .i64 ((i : Int) - 1) ∧ v3 = .slice ap pre.length cq ∧ pre ++ putN (ev.b.length : Int) i = out ++ putN (ev.b.length : Int) 2 ∧ LY w wq w.heap.size (w.heap.size + 2 + (j + 1)) ev a0 c0 ((nms K).map fun y => Value.string (nmB y)).toArray (.slice ap pre.length cq) pre)
        case atStart => exact ⟨2, out, ao, cp, Nat.le_refl _, rfl, rfl, rfl, rfl, Hly.out⟩
        case round =>
          obtain ⟨i, pre, ap, cq, hi, hgi, rfl, rfl, hpre, hlq⟩ := hrel
          have hpl : pre.length + i = out.length + 2 := by
            have h1 := congrArg List.length hpre
            rw [List.length_append, List.length_append, putN_length, putN_length] at h1; exact h1
          by_cases hlti : 1 ≤ i
          · obtain ⟨q, rfl⟩ : ∃ q, i = q + 1 := ⟨i - 1, by omega⟩
            rw [show (((q + 1 : Nat) : Int) - 1) = (q : Int) by omega]
            have hq4 : q ≤ 3 := by omega
            have hp2 : (pre ++ [bX (ev.b.length : Int) q]) ++ putN (ev.b.length : Int) q = out ++ putN (ev.b.length : Int) 2 := by rw [← hpre, List.append_assoc]; rfl
            obtain ⟨y0, y1⟩ := bX_bd (ev.b.length : Int) q
            obtain ⟨Y, hY⟩ : ∃ Y, bX (ev.b.length : Int) q = Y := ⟨_, rfl⟩
            rw [hY] at hp2 y0 y1
            have hY2 : (ev.b.length : Int) / 2 ^ (8 * q) % 256 = Y := hY
            have Hgi := Lib.hid hgi; have Hpre := Lib.hid hp2
            have LA := Lib.hid (hlq.alloc (.cells #[.int .u8 Y] 5))
            have B1 := Lib.hid (show pre.length + 1 ≤ maxLen by unfold maxLen; omega); have B2 := Lib.hid (show (pre.length + 1) * 1 ≤ 140737488355328 by omega)
            have B3 := Lib.hid LA.out.chg.size
            clear hgi hpre hp2 hlq hY hpl
            go_wp2_with (at_builtin; refine wpList_append_lies _ rfl _ _ _ rfl w.heap.size 5 i0 _ 1 1 Try.underlying22 hi0.out hz0.out hz1.out hz2.out rfl (by omega) _ _ _ rfl LA.out.own _ 1 1 [.int .u8 Y] rfl rfl (cell_one_new _ _ _) (by simp [Value.oneCell']) (by omega) B1.out B2.out B3.out _ rfl ?_; intro g cap9 w9 hown9 hgrow hat9 hlt9)
            have LN := Lib.hid (LA.out.grown (v' := .slice (some ⟨g, 0, none⟩) (pre.length + 1) cap9) (out' := pre ++ [Y]) hgrow (by rw [List.map_append, List.length_append]; exact hown9))
            clear hown9 hgrow hat9 hY2
            go_roundg q
            case measure => have := Hgi.out; omega
            case rel => exact ⟨q, pre ++ [Y], some ⟨g, 0, none⟩, cap9, by omega, rfl, rfl, by rw [List.length_append]; rfl, Hpre.out, by rw [List.length_append]; exact LN.out⟩
          · have hi0' : i = 0 := by omega
            subst hi0'
            have hp2 : pre = out ++ putN (ev.b.length : Int) 2 := by rw [← hpre]; exact (List.append_nil pre).symm
            clear hpre hgi hi hlti
            have hpl2 : pre.length ≤ 3000200 := by omega
            clear hpl
            have y6 := cell_of_row wr w.heap.size 6 _ _ _ hlq.row
            simp only [evCells] at y6
            have IB := Lib.hid (keptT H.out hlq.chg)
            have HL := Lib.hid hlq; clear hlq
            have B1 := Lib.hid (show pre.length + ev.b.length ≤ maxLen by unfold maxLen; omega); have B2 := Lib.hid (show (pre.length + ev.b.length) * 1 ≤ 140737488355328 by omega)
            have B3 := Lib.hid HL.out.chg.size
            have Hp2 := Lib.hid hp2; clear hp2
            go_wp2_with (at_builtin; refine wpList_append_isb _ rfl _ _ _ rfl w.heap.size i0 Try.underlying22 hi0.out hz0.out hz1.out hz2.out _ _ _ rfl HL.out.own P _ _ _ ev.b rfl IB.out B1.out B2.out B3.out ?_; intro v9 w9 hown9 hgrow)
            have ON : w9.ownsRow w.heap.size 5 1 v9 (pre ++ ev.b).length ((pre ++ ev.b).map (Value.int .u8)) := by
              rw [List.length_append, List.map_append]; exact hown9
            obtain ⟨a9, c9, hv9⟩ := own_form ON
            subst hv9
            have LN := Lib.hid (HL.out.grown hgrow ON)
            have hfin : pre ++ ev.b = out ++ fld ev .b := by rw [Hp2.out, List.append_assoc]; rfl
            have Hfin := Lib.hid (hfin.trans hx2.out)
            clear hown9 hgrow ON hfin y6
            go_wp2_with fail
            go_roundg (L - (y + 1))
            case measure => have := Hg.out; omega
            case rel => exact ⟨y + 1, pre ++ ev.b, a9, c9, by omega, rfl, by go_num, rfl, Hfin.out, LN.out⟩
      · have xm : wr.cell? ⟨w.heap.size, off m, none⟩ = some (.int .i64 (val ev m)) := by
          rw [cell_of_row wr w.heap.size (off m) _ _ _ hly.row]
          cases m <;> first | rfl | exact absurd rfl hb
        obtain ⟨v0, v1⟩ := val_bd OKv.out m hb
        obtain ⟨xv, hxv⟩ : ∃ xv, val ev m = xv := ⟨_, rfl⟩
        obtain ⟨z, hz⟩ : ∃ z, sz m = z := ⟨_, rfl⟩
        have hz4 : z ≤ 4 := by rw [← hz]; exact sz_le m
        have NM := number_m w.heap.size m hb wr
        rw [hxv] at xm v0 v1
        rw [hz] at NM
        have HX := Lib.hid hxv; have HZ := Lib.hid hz; replace NM := Lib.hid NM
        have Hly := Lib.hid hly; clear hly hxv hz
        replace hmm := Lib.hid hmm
        go_wp2_with fail
        refine NM.out.mono ?_; rintro e wn ⟨rfl, rfl⟩
        clear NM
        go_wp2_with fail
        go_loopg [3, 9] z (fun g v3 v9 wq => ∃ (i : Nat) (pre : List Int) (ap : Option Addr) (cq : Nat), i ≤ z ∧ g = i ∧ v9 = .int .i64 ((i : Int) - 1) ∧ v3 = .slice ap pre.length cq ∧ pre ++ putN xv i = out ++ putN xv z ∧ LY w wq w.heap.size (w.heap.size + 2 + (j + 1)) ev a0 c0 ((nms K).map fun y => Value.string (nmB y)).toArray (.slice ap pre.length cq) pre)
        case atStart => exact ⟨z, out, ao, cp, Nat.le_refl _, rfl, rfl, rfl, rfl, Hly.out⟩
        case round =>
          obtain ⟨i, pre, ap, cq, hi, hgi, rfl, rfl, hpre, hlq⟩ := hrel
          have hpl : pre.length + i = out.length + z := by
            have h1 := congrArg List.length hpre
            rw [List.length_append, List.length_append, putN_length, putN_length] at h1; exact h1
          by_cases hlti : 1 ≤ i
          · obtain ⟨q, rfl⟩ : ∃ q, i = q + 1 := ⟨i - 1, by omega⟩
            rw [show (((q + 1 : Nat) : Int) - 1) = (q : Int) by omega]
            have hq4 : q ≤ 3 := by omega
            have hp2 : (pre ++ [bX xv q]) ++ putN xv q = out ++ putN xv z := by rw [← hpre, List.append_assoc]; rfl
            obtain ⟨y0, y1⟩ := bX_bd xv q
            obtain ⟨Y, hY⟩ : ∃ Y, bX xv q = Y := ⟨_, rfl⟩
            rw [hY] at hp2 y0 y1
            have hY2 : xv / 2 ^ (8 * q) % 256 = Y := hY
            have Hgi := Lib.hid hgi; have Hpre := Lib.hid hp2
            have LA := Lib.hid (hlq.alloc (.cells #[.int .u8 Y] 5))
            have B1 := Lib.hid (show pre.length + 1 ≤ maxLen by unfold maxLen; omega); have B2 := Lib.hid (show (pre.length + 1) * 1 ≤ 140737488355328 by omega)
            have B3 := Lib.hid LA.out.chg.size
            clear hgi hpre hp2 hlq hY hpl
            go_wp2_with (at_builtin; refine wpList_append_lies _ rfl _ _ _ rfl w.heap.size 5 i0 _ 1 1 Try.underlying22 hi0.out hz0.out hz1.out hz2.out rfl (by omega) _ _ _ rfl LA.out.own _ 1 1 [.int .u8 Y] rfl rfl (cell_one_new _ _ _) (by simp [Value.oneCell']) (by omega) B1.out B2.out B3.out _ rfl ?_; intro g cap9 w9 hown9 hgrow hat9 hlt9)
            have LN := Lib.hid (LA.out.grown (v' := .slice (some ⟨g, 0, none⟩) (pre.length + 1) cap9) (out' := pre ++ [Y]) hgrow (by rw [List.map_append, List.length_append]; exact hown9))
            clear hown9 hgrow hat9 hY2
            go_roundg q
            case measure => have := Hgi.out; omega
            case rel => exact ⟨q, pre ++ [Y], some ⟨g, 0, none⟩, cap9, by omega, rfl, rfl, by rw [List.length_append]; rfl, Hpre.out, by rw [List.length_append]; exact LN.out⟩
          · have hi0' : i = 0 := by omega
            subst hi0'
            have hp2 : pre = out ++ putN xv z := by rw [← hpre]; exact (List.append_nil pre).symm
            clear hpre hgi hi hlti
            clear hpl
            have hfin : pre = out ++ fld ev m := by rw [hp2, fld_num ev m hb, HX.out, HZ.out]
            have Hfin := Lib.hid (hfin.trans hx2.out)
            have HL := Lib.hid hlq; clear hlq hp2 hfin
            go_wp2_with fail
            go_roundg (L - (y + 1))
            case measure => have := Hg.out; omega
            case rel => exact ⟨y + 1, pre, ap, cq, by omega, rfl, by go_num, rfl, Hfin.out, HL.out⟩
    · have hyL : y = L := by omega
      subst hyL
      have hall : out = layE ev := by rw [hout, List.take_of_length_le (by rw [hL.out]; exact Nat.le_refl _), hlay.out]
      have Hly := Lib.hid hly; have Hall := Lib.hid hall
      clear hly hall hout
      go_wp2_with fail
      go_ret
      exact ⟨_, rfl, by rw [← Hall.out]; exact Hly.out.own, Hly.out.chg⟩

/-- What the map says of a kind that it does not hold, or that has no fields: nothing. -/
theorem look_nil (k : Int) (h1 : k ≠ 1) (h2 : k ≠ 2) (h3 : k ≠ 3) (h4 : k ≠ 4) (h5 : k ≠ 5) (h6 : k ≠ 6) (h7 : k ≠ 7) (h8 : k ≠ 8) (h9 : k ≠ 9) : ∀ (w : World) (h : Nat), w.heap[h]? = some (.map (entries h) 10) → (Instr.lookup 57 (.map (some h)) (.int .i64 k) false).run Try.prog w = .ok (.slice none 0 0) w := by
  intro w h hb
  by_cases h10 : k = 10
  · subst h10; exact run_look 10 9 _ hb rfl
  · have hf : Instr.findNow (.int .i64) (.int .i64 k) (entries h).toList 0 = some none := by
      have g1 : ((k : Int) == 1) = false := beq_eq_false_iff_ne.2 h1
      have g2 : ((k : Int) == 2) = false := beq_eq_false_iff_ne.2 h2
      have g3 : ((k : Int) == 3) = false := beq_eq_false_iff_ne.2 h3
      have g4 : ((k : Int) == 4) = false := beq_eq_false_iff_ne.2 h4
      have g5 : ((k : Int) == 5) = false := beq_eq_false_iff_ne.2 h5
      have g6 : ((k : Int) == 6) = false := beq_eq_false_iff_ne.2 h6
      have g7 : ((k : Int) == 7) = false := beq_eq_false_iff_ne.2 h7
      have g8 : ((k : Int) == 8) = false := beq_eq_false_iff_ne.2 h8
      have g9 : ((k : Int) == 9) = false := beq_eq_false_iff_ne.2 h9
      have g10 : ((k : Int) == 10) = false := beq_eq_false_iff_ne.2 h10
      simp [entries, Instr.findNow, Instr.sameNow, g1, g2, g3, g4, g5, g6, g7, g8, g9, g10]
    have q1 := MapKept.run_getObj_map (P := Try.prog) hb
    have q3 := MapKept.run_findKey (P := Try.prog) (w := w) Try.underlying3 hf
    have q4 := fun e => MapKept.run_checkKey (P := Try.prog) (w := w) (k := .int .i64 k) Try.underlying3 rfl e 9999
    have q5 : ∀ w, (zeroValue 56).run Try.prog w = .ok (.slice none 0 0) w := fun w => by kernel_rfl
    simp only [Instr.lookup, Sem.run_bind, run_underlying Try.underlying57, Result.andThen, q1, q3, q4, q5, Sem.run_pure]
    rfl

set_option maxRecDepth 100000 in
set_option maxHeartbeats 2000000 in
theorem lay_zero (k s who port conn n : Int) (b : List Int) {P : Nat → Prop} (a0 : Option Addr) (c0 : Nat) (w : World) (hk0 : -9223372036854775807 ≤ k) (hk1 : k ≤ 9223372036854775807) (h1 : k ≠ 1) (h2 : k ≠ 2) (h3 : k ≠ 3) (h4 : k ≠ 4) (h5 : k ≠ 5) (h6 : k ≠ 6) (h7 : k ≠ 7) (h8 : k ≠ 8) (h9 : k ≠ 9) :
    Calls Try.prog 31 #[.agg (evCells ⟨k, s, who, port, conn, n, b⟩ (.slice a0 b.length c0))] w fun e w' => ∃ v, e = .returned v ∧ w'.ownsRow w.heap.size 5 1 v (layE ⟨k, s, who, port, conn, n, b⟩).length ((layE ⟨k, s, who, port, conn, n, b⟩).map (Value.int .u8)) ∧ Chg (fun _ => False) w w' := by
  have hlay : layE ⟨k, s, who, port, conn, n, b⟩ = [((k - 1) % 256)] := by simp [layE, nms, h1, h2, h3, h4, h5, h6, h7, h8, h9]
  have hl := look_nil k h1 h2 h3 h4 h5 h6 h7 h8 h9
  obtain ⟨o, ho⟩ : ∃ o, Obj.cells (evCells ⟨k, s, who, port, conn, n, b⟩ (.slice a0 b.length c0)) 34 = o := ⟨_, rfl⟩
  obtain ⟨W0, hW0⟩ : ∃ W, W = (w.alloc o).alloc (.cells #[.int .u8 ((k - 1) % 256)] 5) := ⟨_, rfl⟩
  have C0 : Chg (fun _ => False) w W0 := by rw [hW0]; exact ((Chg.refl _ w).alloc _).alloc _
  have S0 : W0.heap.size = w.heap.size + 2 := by rw [hW0]; simp
  have E0 : W0.heap[w.heap.size]? = some (.cells (evCells ⟨k, s, who, port, conn, n, b⟩ (.slice a0 b.length c0)) 34 (0, 0)) := by
    rw [hW0, Below.heap_alloc _ _ _ (by simp), ho]; exact heap_alloc_new w _
  have OK : W0.ownsRow w.heap.size 5 1 (.slice (some ⟨w.heap.size + 1, 0, none⟩) 1 1) 1 [.int .u8 ((k - 1) % 256)] := by
    have h1 := World.ownsRow_lit (base := w.heap.size) (e := 5) (size := 1) (w.alloc o) #[.int .u8 ((k - 1) % 256)] 1 (by simp) (by unfold maxLen; omega) rfl
    rw [show (w.alloc o).heap.size = w.heap.size + 1 by simp] at h1
    rw [hW0]; exact h1
  have d0 : W0.drew.cell? ⟨w.heap.size, 0, none⟩ = some (.int .i64 k) := cell_of_row W0 w.heap.size 0 _ _ _ E0
  have hcs : o = .cells #[.int .i64 k, .int .i64 s, .int .i64 who, .int .i64 port, .int .i64 conn, .int .i64 n, .slice a0 b.length c0] 34 := by rw [← ho]; rfl
  replace hlay := Lib.hid hlay; replace hl := Lib.hid hl; replace ho := Lib.hid ho; replace hW0 := Lib.hid hW0; replace C0 := Lib.hid C0; replace E0 := Lib.hid E0; replace OK := Lib.hid OK; replace hcs := Lib.hid hcs
  have w8 : IntKind.u8.wrap (k - 1) = (k - 1) % 256 := by rw [IntKind.wrap_u8]
  clear h1 h2 h3 h4 h5 h6 h7 h8 h9
  simp only [evCells]
  go_enter Try.func31, Try.ntmps31
  go_wp2_with fail
  rw [← hcs.out, ← hW0.out]
  go_region_held3 (fun w' => w'.cell? ⟨w.heap.size, 0, none⟩ = some (.int .i64 k)) (first | exact d0 | exact ((Hid.out ‹Hid (Flds W0.drew _)›).chg.cell (p := ⟨w.heap.size, 0, none⟩) (lt_of_block (show W0.drew.heap[w.heap.size]? = _ from E0.out)) (fun h => h)).trans d0)
    (first | (go_at_call 37; (with_reducible refine (fields_fd _).mono ?_); rintro e w5 ⟨rfl, h5⟩; have m5 := h5.map; rw [show W0.drew.heap.size = w.heap.size + 2 from S0] at m5; have L5 := hl.out w5 _ m5; clear m5; have H5 := Lib.hid h5; clear h5))
  clear L5 d0
  have C5 : Chg (fun _ => False) W0 w5 := ((Chg.refl _ W0).drewN 1).trans H5.out.chg
  have O5 := Lib.hid (owns_kept OK.out C5 (fun _ _ h => h)); have CW := Lib.hid (C0.out.trans C5); clear C5
  go_wp2_with fail
  refine wp_loop_rounds 1 ?_
  rw [rounds_succ]
  go_wp2_with fail
  go_ret
  exact ⟨_, rfl, by rw [hlay.out]; exact O5.out, CW.out⟩

set_option maxRecDepth 100000 in
set_option maxHeartbeats 2000000 in
theorem lay_min (s who port conn n : Int) (b : List Int) {P : Nat → Prop} (a0 : Option Addr) (c0 : Nat) (w : World) :
    Calls Try.prog 31 #[.agg (evCells ⟨(-9223372036854775808), s, who, port, conn, n, b⟩ (.slice a0 b.length c0))] w fun e w' => ∃ v, e = .returned v ∧ w'.ownsRow w.heap.size 5 1 v (layE ⟨(-9223372036854775808), s, who, port, conn, n, b⟩).length ((layE ⟨(-9223372036854775808), s, who, port, conn, n, b⟩).map (Value.int .u8)) ∧ Chg (fun _ => False) w w' := by
  have hlay : layE ⟨(-9223372036854775808), s, who, port, conn, n, b⟩ = [255] := by simp [layE, nms]
  have hl := look_nil (-9223372036854775808) (by decide) (by decide) (by decide) (by decide) (by decide) (by decide) (by decide) (by decide) (by decide)
  obtain ⟨o, ho⟩ : ∃ o, Obj.cells (evCells ⟨(-9223372036854775808), s, who, port, conn, n, b⟩ (.slice a0 b.length c0)) 34 = o := ⟨_, rfl⟩
  obtain ⟨W0, hW0⟩ : ∃ W, W = (w.alloc o).alloc (.cells #[.int .u8 255] 5) := ⟨_, rfl⟩
  have C0 : Chg (fun _ => False) w W0 := by rw [hW0]; exact ((Chg.refl _ w).alloc _).alloc _
  have S0 : W0.heap.size = w.heap.size + 2 := by rw [hW0]; simp
  have E0 : W0.heap[w.heap.size]? = some (.cells (evCells ⟨(-9223372036854775808), s, who, port, conn, n, b⟩ (.slice a0 b.length c0)) 34 (0, 0)) := by
    rw [hW0, Below.heap_alloc _ _ _ (by simp), ho]; exact heap_alloc_new w _
  have OK : W0.ownsRow w.heap.size 5 1 (.slice (some ⟨w.heap.size + 1, 0, none⟩) 1 1) 1 [.int .u8 255] := by
    have h1 := World.ownsRow_lit (base := w.heap.size) (e := 5) (size := 1) (w.alloc o) #[.int .u8 255] 1 (by simp) (by unfold maxLen; omega) rfl
    rw [show (w.alloc o).heap.size = w.heap.size + 1 by simp] at h1
    rw [hW0]; exact h1
  have d0 : W0.drew.cell? ⟨w.heap.size, 0, none⟩ = some (.int .i64 (-9223372036854775808)) := cell_of_row W0 w.heap.size 0 _ _ _ E0
  have hcs : o = .cells #[.int .i64 (-9223372036854775808), .int .i64 s, .int .i64 who, .int .i64 port, .int .i64 conn, .int .i64 n, .slice a0 b.length c0] 34 := by rw [← ho]; rfl
  replace hlay := Lib.hid hlay; replace hl := Lib.hid hl; replace ho := Lib.hid ho; replace hW0 := Lib.hid hW0; replace C0 := Lib.hid C0; replace E0 := Lib.hid E0; replace OK := Lib.hid OK; replace hcs := Lib.hid hcs
  have hw64 : wrap64 (-9223372036854775809) % 256 = 255 := by unfold wrap64; omega
  simp only [evCells]
  go_enter Try.func31, Try.ntmps31
  go_wp2_with fail
  rw [← hcs.out, ← hW0.out]
  go_region_held3 (fun w' => w'.cell? ⟨w.heap.size, 0, none⟩ = some (.int .i64 (-9223372036854775808))) (first | exact d0 | exact ((Hid.out ‹Hid (Flds W0.drew _)›).chg.cell (p := ⟨w.heap.size, 0, none⟩) (lt_of_block (show W0.drew.heap[w.heap.size]? = _ from E0.out)) (fun h => h)).trans d0)
    (first | (go_at_call 37; (with_reducible refine (fields_fd _).mono ?_); rintro e w5 ⟨rfl, h5⟩; have m5 := h5.map; rw [show W0.drew.heap.size = w.heap.size + 2 from S0] at m5; have L5 := hl.out w5 _ m5; clear m5; have H5 := Lib.hid h5; clear h5))
  clear L5 d0
  have C5 : Chg (fun _ => False) W0 w5 := ((Chg.refl _ W0).drewN 1).trans H5.out.chg
  have O5 := Lib.hid (owns_kept OK.out C5 (fun _ _ h => h)); have CW := Lib.hid (C0.out.trans C5); clear C5
  go_wp2_with fail
  refine wp_loop_rounds 1 ?_
  rw [rounds_succ]
  go_wp2_with fail
  go_ret
  exact ⟨_, rfl, by rw [hlay.out]; exact O5.out, CW.out⟩

/-- An event's bytes. -/
theorem lay_any (ev : Ev) {P : Nat → Prop} (a0 : Option Addr) (c0 : Nat) (w : World) (ok : EvOk ev) (h : IsB P w a0 ev.b.length c0 ev.b) (hm : ev.b.length ≤ 1000000) :
    Calls Try.prog 31 #[.agg (evCells ev (.slice a0 ev.b.length c0))] w fun e w' => ∃ v, e = .returned v ∧ w'.ownsRow w.heap.size 5 1 v (layE ev).length ((layE ev).map (Value.int .u8)) ∧ Chg (fun _ => False) w w' := by
  by_cases hk : ev.k = 1 ∨ ev.k = 2 ∨ ev.k = 3 ∨ ev.k = 4 ∨ ev.k = 5 ∨ ev.k = 6 ∨ ev.k = 7 ∨ ev.k = 8 ∨ ev.k = 9
  · exact lay_some ev a0 c0 w ok h hm hk
  · obtain ⟨k, s, who, port, conn, n, b⟩ := ev
    have k0 : -9223372036854775808 ≤ k := ok.k0
    have k1 : k ≤ 9223372036854775807 := ok.k1
    simp only at hk
    by_cases h11 : k = -9223372036854775808
    · subst h11; exact lay_min s who port conn n b (P := P) a0 c0 w
    · exact lay_zero k s who port conn n b (P := P) a0 c0 w (by omega) k1 (by omega) (by omega) (by omega) (by omega) (by omega) (by omega) (by omega) (by omega) (by omega)

end Go.Proofs.Ythdobpfojdcagaa.Lay
