/-
  The walks of SameEvent and SameEvents.
-/
import Derived.Test.YthdobpfojdcagaaSame
import Derived.StillTailTactics
set_option linter.unusedVariables false
namespace Go.Proofs.Ythdobpfojdcagaa.SameEv
open Go.RowKit Go.Proofs.Ythdobpfojdcagaa.Ev Go.Proofs.Ythdobpfojdcagaa.Next Go.Proofs.Ythdobpfojdcagaa.Fields Go.Proofs.Ythdobpfojdcagaa.Event Go.Proofs.Ythdobpfojdcagaa.Fold Go.Proofs.Ythdobpfojdcagaa.U8 Go.Proofs.Ythdobpfojdcagaa.Li Go.Proofs.Ythdobpfojdcagaa.EventAny Go.Proofs.Ythdobpfojdcagaa.Events Go.Proofs.Ythdobpfojdcagaa.Same

set_option maxRecDepth 100000 in
set_option maxHeartbeats 2000000 in
theorem same_event {P Q : Nat → Prop} (x y : Ev) {a0 a1 : Option Addr} {c0 c1 : Nat} (w : World) (h : IsB P w a0 x.b.length c0 x.b) (k : IsB Q w a1 y.b.length c1 y.b) :
    Calls Try.prog 29 #[.agg (evCells x (.slice a0 x.b.length c0)), .agg (evCells y (.slice a1 y.b.length c1))] w fun e w' => e = .returned (.bool (decide (x = y))) ∧ Chg (fun _ => False) w w' := by
  obtain ⟨k0, s0, who0, port0, conn0, n0, b0⟩ := x
  obtain ⟨k1, s1, who1, port1, conn1, n1, b1⟩ := y
  simp only at h k
  simp only [evCells]
  have HH := Lib.hid h; have HK := Lib.hid k; clear h k
  obtain ⟨L0, hL0⟩ : ∃ L, b0.length = L := ⟨_, rfl⟩
  obtain ⟨L1, hL1⟩ : ∃ L, b1.length = L := ⟨_, rfl⟩
  rw [hL0] at HH ⊢; rw [hL1] at HK ⊢
  clear hL0 hL1
  by_cases e0 : k0 = k1
  · subst e0
    by_cases e1 : s0 = s1
    · subst e1
      by_cases e2 : who0 = who1
      · subst e2
        by_cases e3 : port0 = port1
        · subst e3
          by_cases e4 : conn0 = conn1
          · subst e4
            by_cases e5 : n0 = n1
            · subst e5
              have hd : decide ((⟨k0, s0, who0, port0, conn0, n0, b0⟩ : Ev) = ⟨k0, s0, who0, port0, conn0, n0, b1⟩) = decide (b0 = b1) := by simp
              rw [hd]
              clear hd
              have CC := Lib.hid (((Chg.refl (fun _ => False) w).alloc (.cells #[.int .i64 k0, .int .i64 s0, .int .i64 who0, .int .i64 port0, .int .i64 conn0, .int .i64 n0, .slice a0 L0 c0] 34)).alloc (.cells #[.int .i64 k0, .int .i64 s0, .int .i64 who0, .int .i64 port0, .int .i64 conn0, .int .i64 n0, .slice a1 L1 c1] 34))
              go_enter Try.func29, Try.ntmps29
              go_wp2_with fail
              refine (same_bytes _ (HH.out.kept CC.out (fun _ _ _ h => h)) (HK.out.kept CC.out (fun _ _ _ h => h))).mono ?_
              rintro e w' ⟨rfl, rfl⟩
              go_wp2_with fail
              go_ret
              exact ⟨rfl, CC.out⟩
            · have hd : decide ((⟨k0, s0, who0, port0, conn0, n0, b0⟩ : Ev) = ⟨k0, s0, who0, port0, conn0, n1, b1⟩) = false := by simp [e5]
              rw [hd]
              clear hd
              have e5' : ((n0 : Int) == n1) = false := by simpa using e5
              go_enter Try.func29, Try.ntmps29
              go_wp2_with fail
              go_ret
              exact ⟨rfl, ((Chg.refl _ w).alloc _).alloc _⟩
          · have hd : decide ((⟨k0, s0, who0, port0, conn0, n0, b0⟩ : Ev) = ⟨k0, s0, who0, port0, conn1, n1, b1⟩) = false := by simp [e4]
            rw [hd]
            clear hd
            have e4' : ((conn0 : Int) == conn1) = false := by simpa using e4
            go_enter Try.func29, Try.ntmps29
            go_wp2_with fail
            go_ret
            exact ⟨rfl, ((Chg.refl _ w).alloc _).alloc _⟩
        · have hd : decide ((⟨k0, s0, who0, port0, conn0, n0, b0⟩ : Ev) = ⟨k0, s0, who0, port1, conn1, n1, b1⟩) = false := by simp [e3]
          rw [hd]
          clear hd
          have e3' : ((port0 : Int) == port1) = false := by simpa using e3
          go_enter Try.func29, Try.ntmps29
          go_wp2_with fail
          go_ret
          exact ⟨rfl, ((Chg.refl _ w).alloc _).alloc _⟩
      · have hd : decide ((⟨k0, s0, who0, port0, conn0, n0, b0⟩ : Ev) = ⟨k0, s0, who1, port1, conn1, n1, b1⟩) = false := by simp [e2]
        rw [hd]
        clear hd
        have e2' : ((who0 : Int) == who1) = false := by simpa using e2
        go_enter Try.func29, Try.ntmps29
        go_wp2_with fail
        go_ret
        exact ⟨rfl, ((Chg.refl _ w).alloc _).alloc _⟩
    · have hd : decide ((⟨k0, s0, who0, port0, conn0, n0, b0⟩ : Ev) = ⟨k0, s1, who1, port1, conn1, n1, b1⟩) = false := by simp [e1]
      rw [hd]
      clear hd
      have e1' : ((s0 : Int) == s1) = false := by simpa using e1
      go_enter Try.func29, Try.ntmps29
      go_wp2_with fail
      go_ret
      exact ⟨rfl, ((Chg.refl _ w).alloc _).alloc _⟩
  · have hd : decide ((⟨k0, s0, who0, port0, conn0, n0, b0⟩ : Ev) = ⟨k1, s1, who1, port1, conn1, n1, b1⟩) = false := by simp [e0]
    rw [hd]
    clear hd
    have e0' : ((k0 : Int) == k1) = false := by simpa using e0
    go_enter Try.func29, Try.ntmps29
    go_wp2_with fail
    go_ret
    exact ⟨rfl, ((Chg.refl _ w).alloc _).alloc _⟩

theorem evs_none {P : Nat → Prop} {w : World} {a : Option Addr} {len cap : Nat} {es : List Ev} (h : IsEvs P w a len cap es) (i : Nat) (hi : i < len) : ∃ e, es[i]? = some e :=
  ⟨es[i]'(by rw [h.len_eq]; exact hi), List.getElem?_eq_getElem _⟩

set_option maxRecDepth 100000 in
set_option maxHeartbeats 2000000 in
theorem same_events {P Q : Nat → Prop} {a0 a1 : Option Addr} {l0 c0 l1 c1 : Nat} (es fs : List Ev) (w : World) (h : IsEvs P w a0 l0 c0 es) (k : IsEvs Q w a1 l1 c1 fs) :
    Calls Try.prog 12 #[.slice a0 l0 c0, .slice a1 l1 c1] w fun e w' => e = .returned (.bool (decide (es = fs))) ∧ Chg (fun _ => False) w w' := by
  by_cases hl : l0 = l1
  · subst hl
    have hm0 : l0 ≤ 9223372036854775807 := by have := h.capl; have := h.capm; unfold maxLen at this; omega
    have HH := Lib.hid h; have HK := Lib.hid k; clear h k
    go_enter Try.func12, Try.ntmps12
    go_wp2_with fail
    go_loopg [5] l0 (fun g v5 wr => ∃ i : Nat, i ≤ l0 ∧ g = l0 - i ∧ v5 = .int .i64 i ∧ es.take i = fs.take i ∧ Chg (fun _ => False) w wr)
    case atStart => exact ⟨0, Nat.zero_le _, rfl, rfl, rfl, Chg.refl _ _⟩
    case round =>
      obtain ⟨i, hi, hg, rfl, heq, hch⟩ := hrel
      have Hg := Lib.hid hg; clear hg
      have Heq := Lib.hid heq; have Hch := Lib.hid hch; clear heq hch
      by_cases hlt : i < l0
      · obtain ⟨x, hx⟩ := evs_none HH.out i hlt
        obtain ⟨y, hy⟩ := evs_none HK.out i hlt
        have HH2 := HH.out.kept Hch.out (fun _ _ _ h => h)
        have HK2 := HK.out.kept Hch.out (fun _ _ _ h => h)
        rcases HH2.cells with h0 | ⟨g0, o0, rfl, _, _, hc0⟩
        · omega
        rcases HK2.cells with h0 | ⟨g1, o1, rfl, _, _, hc1⟩
        · omega
        obtain ⟨b0, p0, ⟨d0, d1, d2, d3, d4, d5, d6, hb0⟩⟩ := hc0 i x hx
        obtain ⟨b1, p1, ⟨f0, f1, f2, f3, f4, f5, f6, hb1⟩⟩ := hc1 i y hy
        have tk : es.take (i + 1) = fs.take (i + 1) ↔ x = y := by
          have e1 : i < es.length := by rw [HH.out.len_eq]; exact hlt
          have e2 : i < fs.length := by rw [HK.out.len_eq]; exact hlt
          rw [List.getElem?_eq_getElem e1] at hx; rw [List.getElem?_eq_getElem e2] at hy
          injection hx with hx; injection hy with hy
          rw [List.take_succ_eq_append_getElem e1, List.take_succ_eq_append_getElem e2, Heq.out, hx, hy]
          simp
        replace hx := Lib.hid hx; replace hy := Lib.hid hy; replace tk := Lib.hid tk
        replace hb0 := Lib.hid hb0; replace hb1 := Lib.hid hb1
        clear HH2 HK2 hc0 hc1
        go_wp2_with fail
        refine wp_region_still_tail 8 (by kernel_rfl) (by kernel_rfl) ?_
        simp only [List.take_succ_cons, List.take_zero, List.drop_succ_cons, List.drop_zero]
        repeat still_step
        refine wpStill_nil ?_
        change wpList _ _ _ _ _ wr.drew
        have CD : Chg (fun _ => False) wr wr.drew := (Chg.refl _ wr).drewN 1
        have hb0' := hb0.out.kept CD (fun _ _ _ h => h)
        have hb1' := hb1.out.kept CD (fun _ _ _ h => h)
        replace hb0' := Lib.hid hb0'; replace hb1' := Lib.hid hb1'; replace CD := Lib.hid CD
        clear d0 d1 d2 d3 d4 d5 d6 f0 f1 f2 f3 f4 f5 f6
        obtain ⟨W, hW⟩ : ∃ W, W = wr.drew := ⟨_, rfl⟩
        rw [← hW] at hb0' hb1' CD ⊢
        clear hW
        by_cases hxy : x = y
        · have hd : decide (x = y) = true := by simpa using hxy
          replace tk := Lib.hid (tk.out.2 hxy)
          clear hxy
          have SE := same_event x y W hb0'.out hb1'.out
          rw [hd] at SE
          replace SE := Lib.hid SE
          clear hd
          go_wp2_with fail
          refine SE.out.mono ?_
          rintro e w2 ⟨rfl, hc2⟩
          have Hc2 := Lib.hid ((Hch.out.trans CD.out).trans hc2); clear hc2
          go_wp2_with fail
          go_roundg (l0 - (i + 1))
          case measure => have := Hg.out; omega
          case rel => exact ⟨i + 1, by omega, rfl, by go_num, tk.out, Hc2.out⟩
        · have hd : decide (x = y) = false := by simpa using hxy
          have hne : decide (es = fs) = false := by
            rw [decide_eq_false_iff_not]
            intro e; subst e
            have h1 := hx.out; rw [hy.out] at h1; injection h1 with h1; exact hxy h1.symm
          replace tk := Lib.hid tk
          clear hxy
          have SE := same_event x y W hb0'.out hb1'.out
          rw [hd] at SE
          replace SE := Lib.hid SE
          replace hne := Lib.hid hne
          clear hd
          go_wp2_with fail
          refine SE.out.mono ?_
          rintro e w2 ⟨rfl, hc2⟩
          have Hc2 := Lib.hid ((Hch.out.trans CD.out).trans hc2); clear hc2
          go_wp2_with fail
          go_ret
          exact ⟨by rw [hne.out]; rfl, Hc2.out⟩
      · have hie : i = l0 := by omega
        subst hie
        have hq : decide (es = fs) = true := by
          have h1 := Heq.out
          rw [List.take_of_length_le (by rw [HH.out.len_eq]; exact Nat.le_refl _), List.take_of_length_le (by rw [HK.out.len_eq]; exact Nat.le_refl _)] at h1
          simpa using h1
        replace hq := Lib.hid hq
        go_wp2_with fail
        go_ret
        exact ⟨by rw [hq.out]; rfl, Hch.out⟩
  · have hq : decide (es = fs) = false := by
      rw [decide_eq_false_iff_not]
      rintro rfl
      exact hl (h.len_eq.symm.trans k.len_eq)
    replace hq := Lib.hid hq
    have hl' : ((l0 : Int) == (l1 : Int)) = false := by rw [beq_eq_false_iff_ne]; intro e; exact hl (by omega)
    clear h k
    go_enter Try.func12, Try.ntmps12
    go_wp2_with fail
    go_ret
    exact ⟨by rw [hq.out]; rfl, Chg.refl _ _⟩

end Go.Proofs.Ythdobpfojdcagaa.SameEv
