/-
  The walks of the document's Check and Bytes.
-/
import Derived.Test.YthdobpfojdcagaaKnownW
import Derived.Test.YthdobpfojdcagaaREvents
import Derived.StillTailTactics
set_option linter.unusedVariables false
namespace Go.Proofs.Ythdobpfojdcagaa.RCheck
open Go.RowKit Go.Proofs.Ythdobpfojdcagaa.Ev Go.Proofs.Ythdobpfojdcagaa.Fold Go.Proofs.Ythdobpfojdcagaa.Lay0 Go.Proofs.Ythdobpfojdcagaa.Bytes0 Go.Proofs.Ythdobpfojdcagaa.Next Go.Proofs.Ythdobpfojdcagaa.Li Go.Proofs.Ythdobpfojdcagaa.Event Go.Proofs.Ythdobpfojdcagaa.EventAny Go.Proofs.Ythdobpfojdcagaa.Events Go.Proofs.Ythdobpfojdcagaa.Same Go.Proofs.Ythdobpfojdcagaa.SameEv Go.Proofs.Ythdobpfojdcagaa.Same2 Go.Proofs.Ythdobpfojdcagaa.Is Go.Proofs.Ythdobpfojdcagaa.App Go.Proofs.Ythdobpfojdcagaa.RRead Go.Proofs.Ythdobpfojdcagaa.REvent Go.Proofs.Ythdobpfojdcagaa.RBytes Go.Proofs.Ythdobpfojdcagaa.Lay Go.Proofs.Ythdobpfojdcagaa.Bytes Go.Proofs.Ythdobpfojdcagaa.KnownW

theorem rbytes_isb (ev : Ev) {P : Nat → Prop} (a0 : Option Addr) (c0 : Nat) (w : World) (ok : EvOk ev) (h : IsB P w a0 ev.b.length c0 ev.b) (hm : ev.b.length ≤ 1000000) :
    Calls Try.prog 33 #[.agg (evCells ev (.slice a0 ev.b.length c0))] w fun e w' => ∃ a c, e = .returned (.slice a (layE ev).length c) ∧ IsB (fun _ => True) w' a (layE ev).length c (layE ev) ∧ Chg (fun _ => False) w w' :=
  (rbytes_any ev a0 c0 w ok h hm).mono fun e w' ⟨v, he, ho, hc⟩ => by
    obtain ⟨a, c, rfl, hb⟩ := isb_of_own ho (layE_bd h.bytes.2.1)
    exact ⟨a, c, he, IsB.weak hb (fun _ _ _ => trivial), hc⟩

/-- The document's event, from a reader that was made now. -/
theorem revent_isb (la : Option Addr) (ln lc : Nat) (bs : List Int) (w : World) (h : IsB (fun _ => True) w la ln lc bs) (hm : ln ≤ 1000000) :
    Calls Try.prog 28 #[.pointer (some ⟨w.heap.size, 0, none⟩)] (w.alloc (.cells #[.slice la ln lc, .int .i64 0] 51)) fun e w' => ∃ a c, e = .returned (.agg (evCells (evAt bs 0) (.slice a (evAt bs 0).b.length c))) ∧ IsB (fun _ => True) w' a (evAt bs 0).b.length c (evAt bs 0).b ∧ Chg (fun _ => False) w w' := by
  have c1 : Chg (fun _ => False) w (w.alloc (.cells #[.slice la ln lc, .int .i64 0] 51)) := (Chg.refl _ w).alloc _
  have hr : RR (w.alloc (.cells #[.slice la ln lc, .int .i64 0] 51)) w.heap.size la ln lc 0 bs := by
    refine ⟨heap_alloc_new w _, h.bytes.kept c1 (fun _ _ _ _ k => k), fun b o e h0 => ?_⟩
    rcases h.bytes.2.2 with h1 | ⟨b', o', e', hb', _⟩
    · exact absurd h1 h0
    · rw [e] at e'; injection e' with e'; injection e' with e1 _ _; omega
  refine (revent_any w.heap.size la ln lc 0 bs _ hr (by omega) (by omega)).mono ?_
  rintro e w' ⟨vb, he, ho, _, _, hc⟩
  obtain ⟨a, c, rfl, hb⟩ := isb_of_own ho (evAt_bd h.bytes.2.1 0)
  exact ⟨a, c, he, IsB.weak hb (fun _ _ _ => trivial), Chg_after c1 hc (fun i hi e => by omega)⟩

set_option maxRecDepth 100000 in
set_option maxHeartbeats 4000000 in
theorem rcheck_any {P : Nat → Prop} (a0 : Option Addr) (len cap : Nat) (es : List Ev) (w : World) (h : IsEvs P w a0 len cap es) (ok : ∀ e ∈ es, EvOk e) :
    Calls Try.prog 25 #[.slice a0 len cap] w fun e w' => e = .returned (.int .i64 (errOf es)) ∧ Chg (fun _ => False) w w' := by
  have hlen := h.len_eq
  have hcm : len ≤ 9223372036854775807 := by have := h.capl; have := h.capm; unfold maxLen at this; omega
  have H := Lib.hid h; have OKs := Lib.hid ok; clear h ok
  by_cases hl : 4096 < len
  · obtain ⟨e1, e2⟩ := err_long (es := es) (by omega)
    have E1 := Lib.hid e1; clear e1 e2 hlen
    go_enter Try.func25, Try.ntmps25
    go_wp2_with fail
    go_ret
    exact ⟨by rw [E1.out]; rfl, Chg.refl _ _⟩
  · have Hlen := Lib.hid hlen; clear hlen
    go_enter Try.func25, Try.ntmps25
    go_wp2_with fail
    go_loopg [3] len (fun g v3 wr => ∃ i : Nat, i ≤ len ∧ g = len - i ∧ v3 = .int .i64 i ∧ (∀ e ∈ es.take i, OkE e) ∧ Chg (fun _ => False) w wr)
    case atStart => exact ⟨0, Nat.zero_le _, rfl, rfl, (fun _ h => by cases h), Chg.refl _ _⟩
    case round =>
      obtain ⟨i, hi, hg, rfl, hall, hch⟩ := hrel
      have Hg := Lib.hid hg; have Hall := Lib.hid hall; have Hch := Lib.hid hch; clear hg hall hch
      by_cases hlt : i < len
      · obtain ⟨ev, hev⟩ := evs_none H.out i hlt
        have hmem := List.mem_of_getElem? hev
        have hok := OKs.out ev hmem
        have H2 := H.out.kept Hch.out (fun _ _ _ h => h)
        rcases H2.cells with h0 | ⟨g0, o0, rfl, hpg, hgl, hc0⟩
        · omega
        obtain ⟨b0, p0, EV⟩ := hc0 i ev hev
        obtain ⟨d0, d1, d2, d3, d4, d5, d6, hb0⟩ := EV
        clear H2 hc0
        have hbl63 : ev.b.length ≤ 9223372036854775807 := by have := hb0.capl; have := hb0.capm; unfold maxLen at this; omega
        replace hev := Lib.hid hev; replace hmem := Lib.hid hmem; replace hok := Lib.hid hok; have HB0 := Lib.hid hb0; clear hb0
        have HGL := Lib.hid hgl; have HPG := Lib.hid hpg; clear hgl hpg
        by_cases hbig : 4096 < ev.b.length
        · obtain ⟨e1, e2⟩ := err_bad (es := es) (e := ev) (by rw [Hlen.out]; exact hl) hmem.out (fun k => absurd k.1 (by omega))
          have E1 := Lib.hid e1; clear e1 e2
          go_wp2_with fail
          go_ret
          exact ⟨by rw [E1.out]; rfl, Hch.out⟩
        · have hb4 : ev.b.length ≤ 4096 := by omega
          have LI := Lib.hid (rbytes_isb ev b0 p0 wr hok.out HB0.out (by omega))
          have hll := layE_len ev
          obtain ⟨ln, hln⟩ : ∃ l, (layE ev).length = l := ⟨_, rfl⟩
          have hlnB : ln ≤ 20000 := by omega
          rw [hln] at LI
          replace hln := Lib.hid hln; replace hll := Lib.hid hll
          obtain ⟨x, hx⟩ : ∃ x, evAt (layE ev) 0 = x := ⟨_, rfl⟩
          have RV := fun la lc w h => revent_isb la ln lc (layE ev) w h (by omega)
          rw [hx] at RV
          replace RV := Lib.hid RV; replace hx := Lib.hid hx
          have DD := Lib.hid (show EvAt P wr g0 (o0 + i * 7) ev b0 p0 from ⟨d0, d1, d2, d3, d4, d5, d6, HB0.out⟩)
          go_wp2_with fail
          refine LI.out.mono ?_
          rintro e w2 ⟨la, lc, rfl, il, cl⟩
          have IL := Lib.hid il; have C2 := Lib.hid cl; clear il cl
          clear d0 d1 d2 d3 d4 d5 d6
          go_wp2_with fail
          refine (RV.out la lc w2 IL.out).mono ?_
          rintro e w3 ⟨va, vc, rfl, iv, c3⟩
          have IV := Lib.hid iv; have C3 := Lib.hid (C2.out.trans c3); clear iv c3
          obtain ⟨o, ho⟩ : ∃ o, Obj.cells (evCells x (.slice va x.b.length vc)) 34 = o := ⟨_, rfl⟩
          have hcs : o = .cells #[.int .i64 x.k, .int .i64 x.s, .int .i64 x.who, .int .i64 x.port, .int .i64 x.conn, .int .i64 x.n, .slice va x.b.length vc] 34 := ho.symm
          obtain ⟨W4, hW4⟩ : ∃ W, W = w3.alloc o := ⟨_, rfl⟩
          have C34 : Chg (fun _ => False) w3 W4 := by rw [hW4]; exact (Chg.refl _ w3).alloc o
          have E4 : W4.heap[w3.heap.size]? = some (.cells (evCells x (.slice va x.b.length vc)) 34 (0, 0)) := by rw [hW4, ho]; exact heap_alloc_new w3 _
          have C4 := Lib.hid (C3.out.trans C34)
          obtain ⟨f0, f1, f2, f3, f4, f5, f6, fb⟩ := DD.out.kept C4.out (fun _ _ _ k => k) HPG.out HGL.out
          have t0 := cell_of_row W4 w3.heap.size 0 _ _ _ E4
          have t1 := cell_of_row W4 w3.heap.size 1 _ _ _ E4
          have t2 := cell_of_row W4 w3.heap.size 2 _ _ _ E4
          have t3 := cell_of_row W4 w3.heap.size 3 _ _ _ E4
          have t4 := cell_of_row W4 w3.heap.size 4 _ _ _ E4
          have t5 := cell_of_row W4 w3.heap.size 5 _ _ _ E4
          have t6 := cell_of_row W4 w3.heap.size 6 _ _ _ E4
          simp only [evCells] at t0 t1 t2 t3 t4 t5 t6
          have hD : Chg (fun _ => False) W4 W4.drew := (Chg.refl _ W4).drewN 1
          have IV4 := keptT (keptT IV.out C34) hD
          have SE := ref_same x ev W4.drew IV4 (keptT fb hD)
          have FB := Lib.hid fb
          have C5 := Lib.hid ((Hch.out.trans C4.out).trans hD)
          replace hcs := Lib.hid hcs; replace ho := Lib.hid ho; replace hW4 := Lib.hid hW4; replace E4 := Lib.hid E4
          clear C34 hD IV4 fb
          by_cases hsame : x = ev
          · have hd : decide (x = ev) = true := by simpa using hsame
            have hgood : OkE ev := ⟨hb4, by rw [hx.out, hsame]⟩
            rw [hd] at SE
            have htk := take_snoc es i ev hev.out
            have hall2 : ∀ e ∈ es.take (i + 1), OkE e := by
              intro e he
              rw [htk, List.mem_append] at he
              rcases he with he | he
              · exact Hall.out e he
              · simp only [List.mem_singleton] at he; subst he; exact hgood
            have Hall2 := Lib.hid hall2
            replace SE := Lib.hid SE
            clear hsame hd hgood htk hall2
            simp only [evCells]
            go_wp2_with fail
            rw [← hcs.out, ← hW4.out]
            refine wp_region_still_tail 5 (by kernel_rfl) (by kernel_rfl) ?_
            simp only [List.take_succ_cons, List.take_zero, List.drop_succ_cons, List.drop_zero]
            repeat still_step
            refine wpStill_nil ?_
            change wpList _ _ _ _ _ W4.drew
            clear f0 f1 f2 f3 f4 f5 f6 t0 t1 t2 t3 t4 t5 t6
            obtain ⟨W5, hW5⟩ : ∃ W, W = W4.drew := ⟨_, rfl⟩
            rw [← hW5] at SE C5 ⊢
            clear hW5
            go_wp2_with fail
            refine SE.out.mono ?_
            rintro e w6 ⟨rfl, c6⟩
            have C6 := Lib.hid (C5.out.trans c6); clear c6
            go_wp2_with fail
            go_roundg (len - (i + 1))
            case measure => have := Hg.out; omega
            case rel => exact ⟨i + 1, by omega, rfl, by go_num, Hall2.out, C6.out⟩
          · have hd : decide (x = ev) = false := by simpa using hsame
            obtain ⟨e1, e2⟩ := err_bad (es := es) (e := ev) (by rw [Hlen.out]; exact hl) hmem.out (fun k => hsame (by rw [← hx.out]; exact k.2))
            have E1 := Lib.hid e1; clear e1 e2
            rw [hd] at SE
            replace SE := Lib.hid SE
            clear hsame hd
            simp only [evCells]
            go_wp2_with fail
            rw [← hcs.out, ← hW4.out]
            refine wp_region_still_tail 5 (by kernel_rfl) (by kernel_rfl) ?_
            simp only [List.take_succ_cons, List.take_zero, List.drop_succ_cons, List.drop_zero]
            repeat still_step
            refine wpStill_nil ?_
            change wpList _ _ _ _ _ W4.drew
            clear f0 f1 f2 f3 f4 f5 f6 t0 t1 t2 t3 t4 t5 t6
            obtain ⟨W5, hW5⟩ : ∃ W, W = W4.drew := ⟨_, rfl⟩
            rw [← hW5] at SE C5 ⊢
            clear hW5
            go_wp2_with fail
            refine SE.out.mono ?_
            rintro e w6 ⟨rfl, c6⟩
            have C6 := Lib.hid (C5.out.trans c6); clear c6
            go_wp2_with fail
            go_ret
            exact ⟨by rw [E1.out]; rfl, C6.out⟩
      · have hie : i = len := by omega
        subst hie
        have hall : es.take i = es := List.take_of_length_le (by rw [Hlen.out]; exact Nat.le_refl _)
        have A2 := Hall.out
        rw [hall] at A2
        obtain ⟨e1, e2⟩ := err_ok (es := es) (by rw [Hlen.out]; exact hl) A2
        have E1 := Lib.hid e1; clear e1 e2 A2 hall
        go_wp2_with fail
        go_ret
        exact ⟨by rw [E1.out]; rfl, Hch.out⟩

set_option maxRecDepth 100000 in
set_option maxHeartbeats 4000000 in
theorem rbytesL_any {P : Nat → Prop} (a0 : Option Addr) (len cap : Nat) (es : List Ev) (w : World) (h : IsEvs P w a0 len cap es) (ok : ∀ e ∈ es, EvOk e) :
    Calls Try.prog 23 #[.slice a0 len cap] w fun e w' => ∃ v, e = .returned (.tuple #[v, .int .i64 (errOf es)]) ∧ w'.ownsRow w.heap.size 5 1 v (outOf es).length ((outOf es).map (Value.int .u8)) ∧ Chg (fun _ => False) w w' := by
  obtain ⟨i0, hi0, hz0, hz1, hz2⟩ := info_parts Try.info5
  replace hi0 := Lib.hid hi0; replace hz0 := Lib.hid hz0; replace hz1 := Lib.hid hz1; replace hz2 := Lib.hid hz2
  have hlen := h.len_eq
  have hcm : len ≤ 9223372036854775807 := by have := h.capl; have := h.capm; unfold maxLen at this; omega
  have CK := rcheck_any a0 len cap es w h ok
  have H := Lib.hid h; have OKs := Lib.hid ok; have Hlen := Lib.hid hlen; clear h ok hlen
  by_cases hr : errOf es = 0
  · have h1 : ¬ 4096 < es.length := by
      intro k
      rw [(err_long k).1] at hr; cases hr
    have h2 : ∀ e ∈ es, OkE e := by
      intro e he
      refine Decidable.byContradiction fun k => ?_
      rw [(err_bad h1 he k).1] at hr; cases hr
    have h3 := (err_ok h1 h2).2
    rw [hr] at CK
    have hl : len ≤ 4096 := by rw [← Hlen.out]; omega
    have H2 := Lib.hid h2; have H3 := Lib.hid h3; have CK' := Lib.hid CK; have HR := Lib.hid hr
    clear h1 h2 h3 CK hr
    go_enter Try.func23, Try.ntmps23
    go_wp2_with fail
    refine CK'.out.mono ?_
    rintro e w0 ⟨rfl, c0⟩
    have C0 := Lib.hid c0; clear c0
    go_wp2_with fail
    go_loopg [5, 6] len (fun g v5 v6 wr => ∃ (i : Nat) (F : List Int) (ao : Option Addr) (cp : Nat), i ≤ len ∧ g = len - i ∧ v6 = .int .i64 i ∧ (es.take i).flatMap layE = F ∧ v5 = .slice ao F.length cp ∧ wr.ownsRow w.heap.size 5 1 (.slice ao F.length cp) F.length (F.map (Value.int .u8)) ∧ Chg (fun _ => False) w wr)
    case atStart => exact ⟨0, [], none, 0, Nat.zero_le _, rfl, rfl, rfl, rfl, World.ownsRow_nil _ _ _ _, C0.out⟩
    case round =>
      obtain ⟨i, F, ao, cp, hi, hg, rfl, hF, rfl, hown, hch⟩ := hrel
      have Hg := Lib.hid hg; have HF := Lib.hid hF; have Hown := Lib.hid hown; have Hch := Lib.hid hch; clear hg hF hown hch
      by_cases hlt : i < len
      · obtain ⟨ev, hev⟩ := evs_none H.out i hlt
        have hmem := List.mem_of_getElem? hev
        have hok := OKs.out ev hmem
        have hgood := H2.out ev hmem
        have HK := H.out.kept Hch.out (fun _ _ _ h => h)
        rcases HK.cells with h0 | ⟨g0, o0, rfl, hpg, hgl, hc0⟩
        · omega
        obtain ⟨b0, p0, ⟨d0, d1, d2, d3, d4, d5, d6, hb0⟩⟩ := hc0 i ev hev
        have hb4 : ev.b.length ≤ 4096 := hgood.1
        have LI := Lib.hid (rbytes_isb ev b0 p0 wr hok hb0 (by omega))
        have hll := layE_len ev
        obtain ⟨ln, hln⟩ : ∃ l, (layE ev).length = l := ⟨_, rfl⟩
        have hlnB : ln ≤ 20000 := by omega
        rw [hln] at LI
        have hfl := flat_snoc es i ev hev
        have hflen := flatMap_len (es.take i) 4096 (fun e he => (H2.out e (List.mem_of_mem_take he)).1)
        have htl : (es.take i).length ≤ 4096 := by rw [List.length_take, Hlen.out]; omega
        rw [HF.out] at hfl hflen
        have hFl : F.length ≤ 4096 * (13 + 3 * 4096) := Nat.le_trans hflen (Nat.mul_le_mul_right _ htl)
        have B1 := Lib.hid (show F.length + ln ≤ maxLen by unfold maxLen; omega)
        have B2 := Lib.hid (show (F.length + ln) * 1 ≤ 140737488355328 by omega)
        have Hfl := Lib.hid hfl
        replace hln := Lib.hid hln
        clear hfl hflen htl hFl HK hc0 hb0 hev hmem hok hgood hll hpg hgl
        go_wp2_with fail
        refine LI.out.mono ?_
        rintro e w2 ⟨la, lc, rfl, il, cl⟩
        have IL := Lib.hid il; have C2 := Lib.hid (Hch.out.trans cl); have O2 := Lib.hid (owns_kept Hown.out cl (fun _ _ h => h)); clear il cl d0 d1 d2 d3 d4 d5 d6
        have B3 := Lib.hid C2.out.size
        go_wp2_with (at_builtin; refine wpList_append_isb _ rfl _ _ _ rfl w.heap.size i0 Try.underlying22 hi0.out hz0.out hz1.out hz2.out _ _ _ rfl O2.out (fun _ => True) _ _ _ (layE ev) rfl IL.out B1.out B2.out B3.out ?_; intro v9 w9 hown9 hgrow)
        have ON : w9.ownsRow w.heap.size 5 1 v9 (F ++ layE ev).length ((F ++ layE ev).map (Value.int .u8)) := by
          rw [List.length_append, List.map_append, hln.out]; exact hown9
        obtain ⟨a9, c9, hv9⟩ := own_form ON
        subst hv9
        have ON' := Lib.hid ON
        have CN := Lib.hid (C2.out.grown hgrow (fun b hb => .inr (O2.out.lt b hb).1))
        clear hown9 hgrow ON
        go_wp2_with fail
        go_roundg (len - (i + 1))
        case measure => have := Hg.out; omega
        case rel => exact ⟨i + 1, F ++ layE ev, a9, c9, by omega, rfl, by go_num, Hfl.out, rfl, ON'.out, CN.out⟩
      · have hie : i = len := by omega
        subst hie
        have hall : es.take i = es := List.take_of_length_le (by rw [Hlen.out]; exact Nat.le_refl _)
        have hF2 := HF.out
        rw [hall] at hF2
        have hout : outOf es = F := by rw [H3.out, hF2]
        have HO := Lib.hid hout; clear hall hF2 hout
        go_wp2_with fail
        go_ret2
        exact ⟨.slice ao F.length cp, by rw [HR.out]; rfl, by rw [HO.out]; exact Hown.out, Hch.out⟩
  · have hout : outOf es = [] := by unfold outOf; rw [if_neg hr]
    obtain ⟨r, hrr⟩ : ∃ r, errOf es = r := ⟨_, rfl⟩
    rw [hrr] at CK hr ⊢
    rw [hout]
    have hr0 : (r == 0) = false := beq_eq_false_iff_ne.2 hr
    have CK' := Lib.hid CK
    clear CK hout hrr
    go_enter Try.func23, Try.ntmps23
    go_wp2_with fail
    refine CK'.out.mono ?_
    rintro e w0 ⟨rfl, c0⟩
    have C0 := Lib.hid c0; clear c0
    go_wp2_with fail
    go_ret2
    exact ⟨.slice none 0 0, rfl, World.ownsRow_nil _ _ _ _, C0.out⟩
theorem rbytesL_is {P : Nat → Prop} (a0 : Option Addr) (len cap : Nat) (es : List Ev) (w : World) (h : IsEvs P w a0 len cap es) (ok : ∀ e ∈ es, EvOk e) :
    Calls Try.prog 23 #[.slice a0 len cap] w fun e w' => ∃ a c, e = .returned (.tuple #[.slice a (outOf es).length c, .int .i64 (errOf es)]) ∧ IsB (fun _ => True) w' a (outOf es).length c (outOf es) ∧ Chg (fun _ => False) w w' :=
  (rbytesL_any a0 len cap es w h ok).mono fun e w' ⟨v, he, ho, hc⟩ => by
    obtain ⟨a, c, rfl, hb⟩ := isb_of_own ho (outOf_bd (isEvs_bd h))
    exact ⟨a, c, he, IsB.weak hb (fun _ _ _ => trivial), hc⟩

end Go.Proofs.Ythdobpfojdcagaa.RCheck
