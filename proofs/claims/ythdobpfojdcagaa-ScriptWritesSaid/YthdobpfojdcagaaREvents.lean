/-
  The walk of the document's Events.
-/
import Derived.Test.YthdobpfojdcagaaREvent
set_option linter.unusedVariables false
namespace Go.Proofs.Ythdobpfojdcagaa.REvents
open Go.RowKit Go.Proofs.Ythdobpfojdcagaa.Ev Go.Proofs.Ythdobpfojdcagaa.Next Go.Proofs.Ythdobpfojdcagaa.Fields Go.Proofs.Ythdobpfojdcagaa.Event Go.Proofs.Ythdobpfojdcagaa.Fold Go.Proofs.Ythdobpfojdcagaa.U8 Go.Proofs.Ythdobpfojdcagaa.Li Go.Proofs.Ythdobpfojdcagaa.EventAny Go.Proofs.Ythdobpfojdcagaa.Events Go.Proofs.Ythdobpfojdcagaa.RRead Go.Proofs.Ythdobpfojdcagaa.REvent

set_option maxRecDepth 100000 in
set_option maxHeartbeats 2000000 in
theorem revents_any (P : Nat → Prop) (a0 : Option Addr) (len cap : Nat) (bs : List Int) (w : World) (h : IsB P w a0 len cap bs) (hm : len ≤ 1000000000) :
    Calls Try.prog 11 #[.slice a0 len cap] w fun e w' => ∃ v xs, e = .returned v ∧ evs bs = xs.map (·.1) ∧ OwnEvs w.heap.size w' v xs ∧ Chg (fun _ => False) w w' := by
  have H := Lib.hid h; clear h
  obtain ⟨MX, hMX⟩ : ∃ m : Nat, m = 4096 := ⟨_, rfl⟩
  have HMX := Lib.hid hMX; clear hMX
  have Hm := Lib.hid hm; clear hm
  obtain ⟨i0, hi0, hz0, hz1, hz2⟩ := info_parts Try.info34
  replace hi0 := Lib.hid hi0; replace hz0 := Lib.hid hz0; replace hz1 := Lib.hid hz1; replace hz2 := Lib.hid hz2
  go_enter Try.func11, Try.ntmps11
  go_wp2_with fail
  obtain ⟨w1, hw1⟩ : ∃ x, x = w.alloc (.cells #[.slice a0 len cap, .int .i64 0] 51) := ⟨_, rfl⟩
  rw [← hw1]
  have S1 : w1.heap.size = w.heap.size + 1 := by rw [hw1]; simp
  have C1 : Chg (fun _ => False) w w1 := by rw [hw1]; exact (Chg.refl _ w).alloc _
  have B1 : RB w1 w1 w.heap.size a0 len cap 0 bs := by
    refine RB.refl ⟨by rw [hw1]; exact heap_alloc_new w _, H.out.bytes.kept C1 (fun _ _ _ _ h => h), fun b o e h0 => ?_⟩
    rcases H.out.bytes.2.2 with h1 | ⟨b', o', e', hb', _⟩
    · exact absurd h1 h0
    · rw [e] at e'; injection e' with e'; injection e' with e1 _ _; omega
  clear hw1
  replace S1 := Lib.hid S1; replace C1 := Lib.hid C1; replace B1 := Lib.hid B1
  go_loopg [4] MX (fun g v4 wr => ∃ (xs : List (Ev × Value)) (p : Nat) (ao : Option Addr) (cp : Nat), g = MX - xs.length ∧ v4 = .slice ao xs.length cp ∧ Got bs xs p ∧ OwnEvs (w.heap.size + 1) wr (.slice ao xs.length cp) xs ∧ RB w1 wr w.heap.size a0 len cap p bs)
  case atStart => exact ⟨[], 0, none, 0, rfl, rfl, Got.zero bs, ⟨World.ownsRow_nil _ _ _ _, fun _ h => by cases h⟩, B1.out⟩
  case round =>
    obtain ⟨xs, p, ao, cp, hg, rfl, hgot, hown, hrb⟩ := hrel
    have hxl := hgot.2
    have c1 := cell_of_row wr w.heap.size 1 _ _ _ hrb.rr.blk
    simp only [List.getElem?_toArray, List.getElem?_cons_zero, List.getElem?_cons_succ] at c1
    have Hg := Lib.hid hg; have Hgot := Lib.hid hgot; have Hown := Lib.hid hown; have Hrb := Lib.hid hrb
    clear hg hgot hown hrb
    have hbl := Lib.hid H.out.bytes.1
    by_cases hp : p < len
    · by_cases hx : xs.length < 4096
      · go_wp2_with fail
        refine (revent_any w.heap.size a0 len cap p bs wr Hrb.out.rr (by have := Hm.out; omega) (by have := Hm.out; omega)).mono ?_
        rintro e w3 ⟨vb, rfl, ho3, hu3, hr3, hc3⟩
        have gn := Lib.hid (Hgot.out.next (by rw [hbl.out]; exact hp) hx vb)
        obtain ⟨ev, hev⟩ : ∃ ev, evAt bs p = ev := ⟨_, rfl⟩
        rw [hev] at ho3 gn ⊢
        obtain ⟨q, hq⟩ : ∃ q, p + evLen bs p = q := ⟨_, rfl⟩
        rw [hq] at hr3 gn
        clear hev hq c1
        have hs1 := Hrb.out.chg.size
        have hs2 := S1.out
        have hs3 := hc3.size
        obtain ⟨C, hC⟩ : ∃ C, Obj.cells (evCells ev vb) 34 = C := ⟨_, rfl⟩
        have CA : Chg (fun _ => False) w3 ((w3.alloc C).alloc C) := ((Chg.refl _ w3).alloc C).alloc C
        have ownA := Lib.hid ((Hown.out.kept hc3 (fun b hb e => by omega)).kept (w' := (w3.alloc C).alloc C) CA (fun _ _ h => h))
        have oB := Lib.hid (((ho3.mono (by omega : w.heap.size + 1 ≤ wr.heap.size)).alloc C).alloc C)
        have uB := Lib.hid (hu3.kept ho3 CA (fun _ _ h => h))
        have rbA := Lib.hid (((Hrb.out.step hr3 hc3).alloc C).alloc C)
        have hlo : w.heap.size + 1 ≤ ((w3.alloc C).alloc C).heap.size := by simp; omega
        have hnews : ∀ j u, (evCells ev vb).toList[j]? = some u → ((w3.alloc C).alloc C).cell? ((⟨w3.heap.size + 1, 0, none⟩ : Addr).add j) = some u := by
          have h1 := heap_alloc_new (w3.alloc C) C
          rw [show (w3.alloc C).heap.size = w3.heap.size + 1 by simp] at h1
          rw [← hC] at h1 ⊢
          exact news_of_block h1
        have h1c : ∀ u ∈ (evCells ev vb).toList, u.oneCell' = true := cells_one ev ho3
        obtain ⟨bo, bl, bc, hvb⟩ : ∃ ao ln cp, vb = Value.slice ao ln cp := by
          rcases ho3.2 with ⟨h, _⟩ | ⟨g', cap', cur, h, _⟩
          · exact ⟨_, _, _, h⟩
          · exact ⟨_, _, _, h⟩
        subst hC
        subst hvb
        have r1 : xs.length + 1 ≤ maxLen := by unfold maxLen; omega
        have r2 : (xs.length + 1) * 72 ≤ 140737488355328 := by omega
        replace hlo := Lib.hid hlo; replace hnews := Lib.hid hnews; replace h1c := Lib.hid h1c; replace r1 := Lib.hid r1; replace r2 := Lib.hid r2
        clear hr3 hc3 ho3 hu3 hs1 hs2 hs3 CA
        simp only [evCells]
        go_wp2_with (at_builtin; refine wpList_append_lies _ rfl _ _ _ rfl (w.heap.size + 1) 34 i0 _ 7 72 Try.underlying24 hi0.out hz0.out hz1.out hz2.out rfl (by omega) _ _ _ rfl ownA.out.row _ 1 1 (evCells ev (.slice bo bl bc)).toList rfl rfl hnews.out h1c.out (by omega) r1.out r2.out hlo.out _ rfl ?_; intro g cap9 w9 hown9 hgrow hat9 hlt9)
        have own9 := Lib.hid (ownA.out.snoc (v' := .slice (some ⟨g, 0, none⟩) (xs.length + 1) cap9) oB.out uB.out hown9 hgrow)
        have rb9 := Lib.hid (rbA.out.grown hgrow (fun k hk => by rw [S1.out]; exact (ownA.out.row.lt k hk).1))
        have hM := HMX.out; have hG := Hg.out
        clear hown9 hgrow hat9
        go_roundg (MX - (xs.length + 1))
        case measure => omega
        case rel => exact ⟨xs ++ [(ev, .slice bo bl bc)], q, some ⟨g, 0, none⟩, cap9, by simp, by simp, gn.out, by simpa using own9.out, rb9.out⟩
      · go_wp2_with fail
        go_ret
        exact ⟨_, xs, rfl, Hgot.out.done (fun h => hx h.2), Hown.out.mono (by omega), Chg_after C1.out Hrb.out.chg (fun i hi e => by omega)⟩
    · go_wp2_with fail
      go_ret
      exact ⟨_, xs, rfl, Hgot.out.done (fun h => hp (by have := hbl.out; omega)), Hown.out.mono (by omega), Chg_after C1.out Hrb.out.chg (fun i hi e => by omega)⟩

end Go.Proofs.Ythdobpfojdcagaa.REvents
