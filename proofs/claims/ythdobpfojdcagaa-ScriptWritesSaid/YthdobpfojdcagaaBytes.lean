/-
  The walk of Bytes and Check.
-/
import Derived.Test.YthdobpfojdcagaaBytes0
import Derived.Test.YthdobpfojdcagaaLay
import Derived.Test.YthdobpfojdcagaaSame2
set_option linter.unusedVariables false
namespace Go.Proofs.Ythdobpfojdcagaa.Bytes
open Go.RowKit Go.Proofs.Ythdobpfojdcagaa.Ev Go.Proofs.Ythdobpfojdcagaa.Fold Go.Proofs.Ythdobpfojdcagaa.Lay0 Go.Proofs.Ythdobpfojdcagaa.Bytes0 Go.Proofs.Ythdobpfojdcagaa.Next Go.Proofs.Ythdobpfojdcagaa.Li Go.Proofs.Ythdobpfojdcagaa.Event Go.Proofs.Ythdobpfojdcagaa.EventAny Go.Proofs.Ythdobpfojdcagaa.Events Go.Proofs.Ythdobpfojdcagaa.Same Go.Proofs.Ythdobpfojdcagaa.SameEv Go.Proofs.Ythdobpfojdcagaa.Same2 Go.Proofs.Ythdobpfojdcagaa.Is Go.Proofs.Ythdobpfojdcagaa.App Go.Proofs.Ythdobpfojdcagaa.RBytes Go.Proofs.Ythdobpfojdcagaa.Lay

theorem lay_isb (ev : Ev) {P : Nat → Prop} (a0 : Option Addr) (c0 : Nat) (w : World) (ok : EvOk ev) (h : IsB P w a0 ev.b.length c0 ev.b) (hm : ev.b.length ≤ 1000000) :
    Calls Try.prog 31 #[.agg (evCells ev (.slice a0 ev.b.length c0))] w fun e w' => ∃ a c, e = .returned (.slice a (layE ev).length c) ∧ IsB (fun _ => True) w' a (layE ev).length c (layE ev) ∧ Chg (fun _ => False) w w' :=
  (lay_any ev a0 c0 w ok h hm).mono fun e w' ⟨v, he, ho, hc⟩ => by
    obtain ⟨a, c, rfl, hb⟩ := isb_of_own ho (layE_bd h.bytes.2.1)
    exact ⟨a, c, he, IsB.weak hb (fun _ _ _ => trivial), hc⟩

/-- What event leaves: its B, and the reader's block turned. -/
theorem event_isb (A B : Nat) (a0 : Option Addr) (len cap : Nat) (bs : List Int) (w : World) (hA : One w A (.int .i64 (min 0 len : Nat)) 3) (hR : Rd w A B a0 len cap bs) (hp : 0 < len) :
    Calls Try.prog 27 #[nextV A B] w fun e w' => ∃ a c, e = .returned (.agg (evCells (evAt bs 0) (.slice a (evAt bs 0).b.length c))) ∧ IsB (fun _ => True) w' a (evAt bs 0).b.length c (evAt bs 0).b ∧ Chg (· = A) w w' :=
  (event_any A B a0 len cap 0 bs w (by rw [Nat.zero_min] at hA; exact hA) hR hp).mono fun e w' ⟨vb, he, ho, _, _, hc⟩ => by
    obtain ⟨a, c, rfl, hb⟩ := isb_of_own ho (evAt_bd hR.bytes.2.1 0)
    exact ⟨a, c, he, IsB.weak hb (fun _ _ _ => trivial), hc⟩

set_option maxRecDepth 100000 in
set_option maxHeartbeats 4000000 in
theorem bytes_any {P : Nat → Prop} (a0 : Option Addr) (len cap : Nat) (es : List Ev) (w : World) (h : IsEvs P w a0 len cap es) (ok : ∀ e ∈ es, EvOk e) :
    Calls Try.prog 17 #[.slice a0 len cap] w fun e w' => ∃ v, e = .returned (.tuple #[v, .int .i64 (errOf es)]) ∧ w'.ownsRow w.heap.size 5 1 v (outOf es).length ((outOf es).map (Value.int .u8)) ∧ Chg (fun _ => False) w w' := by
  obtain ⟨i0, hi0, hz0, hz1, hz2⟩ := info_parts Try.info5
  replace hi0 := Lib.hid hi0; replace hz0 := Lib.hid hz0; replace hz1 := Lib.hid hz1; replace hz2 := Lib.hid hz2
  have hlen := h.len_eq
  have hcm : len ≤ 9223372036854775807 := by have := h.capl; have := h.capm; unfold maxLen at this; omega
  have H := Lib.hid h; have OKs := Lib.hid ok; clear h ok
  by_cases hl : 4096 < len
  · obtain ⟨e1, e2⟩ := err_long (es := es) (by omega)
    have E1 := Lib.hid e1; have E2 := Lib.hid e2; clear e1 e2 hlen
    go_enter Try.func17, Try.ntmps17
    go_wp2_with fail
    go_ret2
    exact ⟨.slice none 0 0, by rw [E1.out]; rfl, by rw [E2.out]; exact World.ownsRow_nil _ _ _ _, Chg.refl _ _⟩
  · have Hlen := Lib.hid hlen; clear hlen
    go_enter Try.func17, Try.ntmps17
    go_wp2_with fail
    go_loopg [4, 15] len (fun g v4 v15 wr => ∃ (i : Nat) (F : List Int) (ao : Option Addr) (cp : Nat), i ≤ len ∧ g = len - i ∧ v15 = .int .i64 i ∧ (es.take i).flatMap layE = F ∧ v4 = .slice ao F.length cp ∧ wr.ownsRow w.heap.size 5 1 (.slice ao F.length cp) F.length (F.map (Value.int .u8)) ∧ (∀ e ∈ es.take i, OkE e) ∧ Chg (fun _ => False) w wr)
    case atStart => exact ⟨0, [], none, 0, Nat.zero_le _, rfl, rfl, rfl, rfl, World.ownsRow_nil _ _ _ _, (fun _ h => by cases h), Chg.refl _ _⟩
    case round =>
      obtain ⟨i, F, ao, cp, hi, hg, rfl, hF, rfl, hown, hall, hch⟩ := hrel
      have HF := Lib.hid hF; clear hF
      have Hg := Lib.hid hg; have Hown := Lib.hid hown; have Hall := Lib.hid hall; have Hch := Lib.hid hch; clear hg hown hall hch
      by_cases hlt : i < len
      · obtain ⟨ev, hev⟩ := evs_none H.out i hlt
        have hmem := List.mem_of_getElem? hev
        have hok := OKs.out ev hmem
        have H2 := H.out.kept Hch.out (fun _ _ _ h => h)
        rcases H2.cells with h0 | ⟨g0, o0, rfl, _, _, hc0⟩
        · omega
        obtain ⟨b0, p0, ⟨d0, d1, d2, d3, d4, d5, d6, hb0⟩⟩ := hc0 i ev hev
        clear H2 hc0
        have hbl63 : ev.b.length ≤ 9223372036854775807 := by have := hb0.capl; have := hb0.capm; unfold maxLen at this; omega
        obtain ⟨o, ho⟩ : ∃ o, Obj.cells (evCells ev (.slice b0 ev.b.length p0)) 34 = o := ⟨_, rfl⟩
        have hcs : o = .cells #[.int .i64 ev.k, .int .i64 ev.s, .int .i64 ev.who, .int .i64 ev.port, .int .i64 ev.conn, .int .i64 ev.n, .slice b0 ev.b.length p0] 34 := ho.symm
        have CA : Chg (fun _ => False) wr (wr.alloc o) := (Chg.refl _ wr).alloc o
        have EA : (wr.alloc o).heap[wr.heap.size]? = some (.cells (evCells ev (.slice b0 ev.b.length p0)) 34 (0, 0)) := by rw [ho]; exact heap_alloc_new wr _
        have hbA := keptT hb0 CA
        replace hev := Lib.hid hev; replace hmem := Lib.hid hmem; replace hok := Lib.hid hok; replace hb0 := Lib.hid hb0; replace ho := Lib.hid ho; replace hcs := Lib.hid hcs; replace CA := Lib.hid CA; replace EA := Lib.hid EA; replace hbA := Lib.hid hbA
        by_cases hbig : 4096 < ev.b.length
        · obtain ⟨e1, e2⟩ := err_bad (es := es) (e := ev) (by rw [Hlen.out]; exact hl) hmem.out (fun k => absurd k.1 (by omega))
          have E1 := Lib.hid e1; have E2 := Lib.hid e2; clear e1 e2
          go_wp2_with fail
          go_ret2
          exact ⟨.slice none 0 0, by rw [E1.out]; rfl, by rw [E2.out]; exact World.ownsRow_nil _ _ _ _, Hch.out.trans ((Chg.refl _ wr).alloc _)⟩
        · have hb4 : ev.b.length ≤ 4096 := by omega
          have LI := Lib.hid (lay_isb ev b0 p0 (wr.alloc o) hok.out hbA.out (by omega))
          go_wp2_with fail
          rw [← hcs.out]
          refine LI.out.mono ?_
          rintro e w2 ⟨la, lc, rfl, il, cl⟩
          have IL := Lib.hid il; have C2 := Lib.hid (CA.out.trans cl)
          have hb2 := Lib.hid (keptT hbA.out cl)
          have R2 := Lib.hid ((cl.block wr.heap.size (lt_of_block EA.out) (fun h => h)).trans EA.out)
          have hpos := layE_pos ev
          have hll := layE_len ev
          obtain ⟨ln, hln⟩ : ∃ l, (layE ev).length = l := ⟨_, rfl⟩
          rw [hln] at IL hpos hll ⊢
          have hlnB : ln ≤ 20000 := by omega
          clear il cl LI
          replace hln := Lib.hid hln; replace hll := Lib.hid hll
          go_wp2_with fail
          refine (reader_new (fun _ => True) la ln lc (layE ev) w2 IL.out (by omega)).mono ?_
          rintro e w3 ⟨rfl, r3⟩
          obtain ⟨x, hx⟩ : ∃ x, evAt (layE ev) 0 = x := ⟨_, rfl⟩
          have hA3 : One w3.drew (w2.heap.size + 1) (.int .i64 (min 0 ln : Nat)) 3 := r3.at'
          have hR3 : Rd w3.drew (w2.heap.size + 1) w2.heap.size la ln lc (layE ev) := r3.rd.kept ((Chg.refl (fun _ => False) w3).drewN 1) (fun _ _ h => h.elim)
          have EVT := event_isb (w2.heap.size + 1) w2.heap.size la ln lc (layE ev) w3.drew hA3 hR3 hpos
          rw [hx] at EVT
          have C3 := Lib.hid (C2.out.trans r3.chg)
          have z2 := C2.out.size
          have R3 := Lib.hid (show w3.drew.heap[wr.heap.size]? = _ from (r3.chg.block wr.heap.size (lt_of_block R2.out) (fun h => h)).trans R2.out)
          have hb3 := Lib.hid (keptT hb2.out r3.chg)
          have D3 := Lib.hid r3.chg
          replace EVT := Lib.hid EVT; replace hx := Lib.hid hx
          have HZ := Lib.hid (show wr.heap.size < w2.heap.size + 1 by omega)
          clear r3 hA3 hR3 hpos z2
          by_cases hsame : x = ev
          · have hd : decide (x = ev) = true := by simpa using hsame
            have hgood : OkE ev := ⟨hb4, by rw [hx.out, hsame]⟩
            replace hgood := Lib.hid hgood; replace hd := Lib.hid hd
            clear hsame
            go_wp2_with fail
            go_region_held3 (fun w' => w'.cell? ⟨wr.heap.size, 0, none⟩ = some (.int .i64 ev.k) ∧ w'.cell? ⟨wr.heap.size, 1, none⟩ = some (.int .i64 ev.s) ∧ w'.cell? ⟨wr.heap.size, 2, none⟩ = some (.int .i64 ev.who) ∧ w'.cell? ⟨wr.heap.size, 3, none⟩ = some (.int .i64 ev.port) ∧
                w'.cell? ⟨wr.heap.size, 4, none⟩ = some (.int .i64 ev.conn) ∧ w'.cell? ⟨wr.heap.size, 5, none⟩ = some (.int .i64 ev.n) ∧ w'.cell? ⟨wr.heap.size, 6, none⟩ = some (.slice b0 ev.b.length p0))
              (first | exact c7_of R3.out | exact c7_of R4.out | exact c7_of R5.out)
              (first
                | (go_at_call 27; (with_reducible refine EVT.out.mono ?_); rintro e w4 ⟨va, vc, rfl, iv, cv⟩; have cv3 : Chg (· = w2.heap.size + 1) w3 w4 := ((Chg.refl _ w3).drewN 1).trans cv; have R4 := Lib.hid ((cv.block wr.heap.size (lt_of_block R3.out) (by have := HZ.out; omega)).trans R3.out); have C4 := Lib.hid (Chg_after C3.out cv3 (fun i hi e => by have := HZ.out; omega)); have hb4' := keptT hb0.out C4.out; have SE := script_same x ev w4 iv hb4'; rw [hd.out] at SE; have SE' := Lib.hid SE; have CV := Lib.hid cv3; clear SE iv cv cv3 hb4')
                | (go_at_call 32; refine SE'.out.mono ?_; rintro e w5 ⟨rfl, c5⟩; have R5 := Lib.hid ((c5.block wr.heap.size (lt_of_block R4.out) (fun h => h)).trans R4.out); have C5 := Lib.hid (C4.out.trans c5); have CX := Lib.hid c5; clear c5))
            have IL5 := Lib.hid (keptT (keptT IL.out (Chg_after D3.out CV.out (fun i hi e => by omega))) CX.out)
            have CW := Lib.hid (Hch.out.trans C5.out)
            have OW := Lib.hid (owns_kept Hown.out C5.out (fun _ _ h => h))
            have hfl := flat_snoc es i ev hev.out
            have htk := take_snoc es i ev hev.out
            have hflen := flatMap_len (es.take i) 4096 (fun e he => (Hall.out e he).1)
            have htl : (es.take i).length ≤ 4096 := by rw [List.length_take, Hlen.out]; omega
            rw [HF.out] at hfl hflen
            have hFl : F.length ≤ 4096 * (13 + 3 * 4096) := Nat.le_trans hflen (Nat.mul_le_mul_right _ htl)
            have hFl2 : F.length ≤ 100000000 := by omega
            have B1 := Lib.hid (show F.length + ln ≤ maxLen by unfold maxLen; omega)
            have B2 := Lib.hid (show (F.length + ln) * 1 ≤ 140737488355328 by omega)
            have B3 := Lib.hid CW.out.size
            have hall2 : ∀ e ∈ es.take (i + 1), OkE e := by
              intro e he
              rw [htk, List.mem_append] at he
              rcases he with he | he
              · exact Hall.out e he
              · simp only [List.mem_singleton] at he; subst he; exact hgood.out
            have Hall2 := Lib.hid hall2
            have Hfl := Lib.hid hfl
            clear hfl htk hflen htl hFl hFl2 hall2
            go_wp2_with (at_builtin; refine wpList_append_isb _ rfl _ _ _ rfl w.heap.size i0 Try.underlying22 hi0.out hz0.out hz1.out hz2.out _ _ _ rfl OW.out (fun _ => True) _ _ _ (layE ev) rfl IL5.out B1.out B2.out B3.out ?_; intro v9 w9 hown9 hgrow)
            have ON : w9.ownsRow w.heap.size 5 1 v9 (F ++ layE ev).length ((F ++ layE ev).map (Value.int .u8)) := by
              rw [List.length_append, List.map_append, hln.out]; exact hown9
            obtain ⟨a9, c9, hv9⟩ := own_form ON
            subst hv9
            have ON' := Lib.hid ON
            have CN := Lib.hid (CW.out.grown hgrow (fun b hb => .inr (OW.out.lt b hb).1))
            clear hown9 hgrow ON
            go_wp2_with fail
            go_roundg (len - (i + 1))
            case measure => have := Hg.out; omega
            case rel => exact ⟨i + 1, F ++ layE ev, a9, c9, by omega, rfl, by go_num, Hfl.out, rfl, ON'.out, Hall2.out, CN.out⟩
          · have hd : decide (x = ev) = false := by simpa using hsame
            obtain ⟨e1, e2⟩ := err_bad (es := es) (e := ev) (by rw [Hlen.out]; exact hl) hmem.out (fun k => hsame (by rw [← hx.out]; exact k.2))
            have E1 := Lib.hid e1; have E2 := Lib.hid e2; clear e1 e2
            replace hd := Lib.hid hd
            clear hsame
            go_wp2_with fail
            go_region_held3 (fun w' => w'.cell? ⟨wr.heap.size, 0, none⟩ = some (.int .i64 ev.k) ∧ w'.cell? ⟨wr.heap.size, 1, none⟩ = some (.int .i64 ev.s) ∧ w'.cell? ⟨wr.heap.size, 2, none⟩ = some (.int .i64 ev.who) ∧ w'.cell? ⟨wr.heap.size, 3, none⟩ = some (.int .i64 ev.port) ∧
                w'.cell? ⟨wr.heap.size, 4, none⟩ = some (.int .i64 ev.conn) ∧ w'.cell? ⟨wr.heap.size, 5, none⟩ = some (.int .i64 ev.n) ∧ w'.cell? ⟨wr.heap.size, 6, none⟩ = some (.slice b0 ev.b.length p0))
              (first | exact c7_of R3.out | exact c7_of R4.out | exact c7_of R5.out)
              (first
                | (go_at_call 27; (with_reducible refine EVT.out.mono ?_); rintro e w4 ⟨va, vc, rfl, iv, cv⟩; have cv3 : Chg (· = w2.heap.size + 1) w3 w4 := ((Chg.refl _ w3).drewN 1).trans cv; have R4 := Lib.hid ((cv.block wr.heap.size (lt_of_block R3.out) (by have := HZ.out; omega)).trans R3.out); have C4 := Lib.hid (Chg_after C3.out cv3 (fun i hi e => by have := HZ.out; omega)); have hb4' := keptT hb0.out C4.out; have SE := script_same x ev w4 iv hb4'; rw [hd.out] at SE; have SE' := Lib.hid SE; have CV := Lib.hid cv3; clear SE iv cv cv3 hb4')
                | (go_at_call 32; refine SE'.out.mono ?_; rintro e w5 ⟨rfl, c5⟩; have R5 := Lib.hid ((c5.block wr.heap.size (lt_of_block R4.out) (fun h => h)).trans R4.out); have C5 := Lib.hid (C4.out.trans c5); have CX := Lib.hid c5; clear c5))
            go_wp2_with fail
            go_ret2
            exact ⟨.slice none 0 0, by rw [E1.out]; rfl, by rw [E2.out]; exact World.ownsRow_nil _ _ _ _, Hch.out.trans C5.out⟩
      · have hie : i = len := by omega
        subst hie
        have hall : es.take i = es := List.take_of_length_le (by rw [Hlen.out]; exact Nat.le_refl _)
        have A2 := Hall.out
        rw [hall] at A2
        obtain ⟨e1, e2⟩ := err_ok (es := es) (by rw [Hlen.out]; exact hl) A2
        have hF2 := HF.out
        rw [hall] at hF2
        rw [hF2] at e2
        have E1 := Lib.hid e1; have E2 := Lib.hid e2; clear e1 e2 A2 hall hF2
        go_wp2_with fail
        go_ret2
        exact ⟨.slice ao F.length cp, by rw [E1.out]; rfl, by rw [E2.out]; exact Hown.out, Hch.out⟩

end Go.Proofs.Ythdobpfojdcagaa.Bytes
