/-
  The walk of ScriptReads.
-/
import Derived.Test.YthdobpfojdcagaaIs
import Derived.Test.YthdobpfojdcagaaKept
import Derived.Test.YthdobpfojdcagaaOver
import Derived.Test.YthdobpfojdcagaaREvents
import Derived.Test.YthdobpfojdcagaaOpen
set_option linter.unusedVariables false
namespace Go.Proofs.Ythdobpfojdcagaa.Reads
open Go.RowKit Go.Proofs.Ythdobpfojdcagaa.Ev Go.Proofs.Ythdobpfojdcagaa.Next Go.Proofs.Ythdobpfojdcagaa.Events Go.Proofs.Ythdobpfojdcagaa.Same Go.Proofs.Ythdobpfojdcagaa.SameEv Go.Proofs.Ythdobpfojdcagaa.Is Go.Proofs.Ythdobpfojdcagaa.Lent Go.Proofs.Ythdobpfojdcagaa.Kept Go.Proofs.Ythdobpfojdcagaa.Over

theorem revents_is (P : Nat → Prop) (a0 : Option Addr) (len cap : Nat) (bs : List Int) (w : World) (h : IsB P w a0 len cap bs) (hm : len ≤ 1000000000) :
    Calls Try.prog 11 #[.slice a0 len cap] w fun e w' => ∃ a cp, e = .returned (.slice a (evs bs).length cp) ∧ Res w w' a cp (evs bs) :=
  (REvents.revents_any P a0 len cap bs w h hm).mono fun e w' ⟨v, xs, he, hx, ho, hc⟩ => by
    obtain ⟨a, cp, rfl, hr⟩ := Res.of hx (evs_bd h.bytes.2.1) ho hc
    exact ⟨a, cp, he, hr⟩
theorem same_yes {P Q : Nat → Prop} {a0 a1 : Option Addr} {l c0 c1 : Nat} (es : List Ev) (w : World) (h : IsEvs P w a0 l c0 es) (k : IsEvs Q w a1 l c1 es) :
    Calls Try.prog 12 #[.slice a0 l c0, .slice a1 l c1] w fun e w' => e = .returned (.bool true) ∧ Chg (fun _ => False) w w' :=
  (same_events es es w h k).mono fun e w' h => ⟨by rw [h.1]; simp, h.2⟩
theorem toBelow {w w' : World} (h : Chg (fun _ => False) w w') : Below w.heap.size w w' := ⟨h.os, h.tape, h.output, h.size, fun k hk => h.block k hk (fun h => h)⟩

set_option maxRecDepth 100000 in
set_option maxHeartbeats 2000000 in
theorem scriptReads_walk (a0 : Option Addr) (len cap : Nat) (W : World) (hb : ∃ bs, IsB (fun b => b < W.heap.size) W a0 len cap bs) :
    Calls Try.prog 3 #[.slice a0 len cap] W fun e w' => e = .returned (.bool true) ∧ Below W.heap.size W w' := by
  obtain ⟨bs, h⟩ := hb
  have hbl := h.bytes.1
  have hbd := h.bytes.2.1
  have hcm : len ≤ 9223372036854775807 := by have := h.capl; have := h.capm; unfold maxLen at this; omega
  by_cases hl : 20000 < len
  · clear h hbl hbd
    go_enter Try.func3, Try.ntmps3
    go_wp2_with fail
    go_ret
    exact ⟨rfl, Below.refl _ _⟩
  · have hm : len ≤ 1000000000 := by omega
    have H := Lib.hid h; have Hbd := Lib.hid hbd; have Hbl := Lib.hid hbl
    clear h hbd hbl
    go_enter Try.func3, Try.ntmps3
    go_wp2_with fail
    refine (lent_any _ a0 len cap bs W H.out hm).mono ?_
    rintro e w1 ⟨rfl, r1, c1⟩
    have R1 := Lib.hid r1; have C1 := Lib.hid c1; clear r1 c1
    have I1 : IsB (fun _ => True) w1 (some ⟨W.heap.size, 0, none⟩) len (len + 3) bs := by
      have h1 := R1.out.isb (P := fun _ => True) len (len + 3) (by rw [lent_length, Hbl.out]; omega) (by omega) (by unfold maxLen; omega) (lent_bd Hbd.out) trivial
      have h2 := lent_take bs
      rw [Hbl.out] at h2
      rw [h2] at h1; exact h1
    replace I1 := Lib.hid I1
    go_wp2_with fail
    refine (events_is _ _ len (len + 3) bs w1 I1.out hm).mono ?_
    rintro e w2 ⟨ax, cx, rfl, r2⟩
    have R2 := Lib.hid r2; clear r2
    have H2 := Lib.hid (H.out.kept (C1.out.trans R2.out.chg) (fun _ _ _ h => h))
    go_wp2_with fail
    refine (revents_is _ a0 len cap bs w2 H2.out hm).mono ?_
    rintro e w3 ⟨ay, cy, rfl, r3⟩
    have R3 := Lib.hid r3; clear r3
    go_wp2_with fail
    refine (same_yes (evs bs) w3 (R2.out.is.kept R3.out.chg (fun _ _ _ h => h)) R3.out.is).mono ?_
    rintro e w4 ⟨rfl, c4⟩
    have C4 := Lib.hid c4; clear c4
    obtain ⟨xs, ox⟩ := R2.out.own
    have OX := Lib.hid ox; clear ox
    go_wp2_with fail
    refine (over_events w1.heap.size _ xs w2 w4 OX.out (R3.out.chg.trans C4.out)).mono ?_
    rintro e w5 ⟨rfl, c5⟩
    have C5 := Lib.hid c5; clear c5
    have z1 := C1.out.size
    have z2 := R2.out.chg.size
    have r10 := lt_of_block R1.out
    have CW4 := Lib.hid (((C1.out.trans R2.out.chg).trans R3.out.chg).trans C4.out)
    have H5 := Lib.hid ((H.out.kept CW4.out (fun _ _ _ h => h)).kept C5.out (fun b _ hb hs => by omega))
    have R5 := Lib.hid ((((R1.out.kept R2.out.chg (fun h => h)).kept R3.out.chg (fun h => h)).kept C4.out (fun h => h)).kept C5.out (by omega))
    have Y5 := Lib.hid ((R3.out.is.kept C4.out (fun _ _ _ h => h)).kept C5.out (fun b _ hb hs => by omega))
    have CW5 : Chg (fun _ => False) W w5 := Li.Chg_after CW4.out C5.out (fun i hi e => by omega)
    replace CW5 := Lib.hid CW5
    clear z1 z2 r10
    go_wp2_with fail
    refine (kept_any _ _ a0 len cap bs w5 H5.out hm R5.out).mono ?_
    rintro e w6 ⟨rfl, c6⟩
    have C6 := Lib.hid c6; clear c6
    go_wp2_with fail
    refine (events_is _ a0 len cap bs w6 (H5.out.kept C6.out (fun _ _ _ h => h)) hm).mono ?_
    rintro e w7 ⟨az, cz, rfl, r7⟩
    have R7 := Lib.hid r7; clear r7
    go_wp2_with fail
    refine (same_yes (evs bs) w7 R7.out.is ((Y5.out.kept C6.out (fun _ _ _ h => h)).kept R7.out.chg (fun _ _ _ h => h))).mono ?_
    rintro e w8 ⟨rfl, c8⟩
    have C8 := Lib.hid c8; clear c8
    go_wp2_with fail
    refine (awake_any w8).mono ?_
    rintro e w9 ⟨rfl, c9⟩
    have C9 := Lib.hid c9; clear c9
    go_wp2_with fail
    go_ret
    exact ⟨rfl, toBelow ((((CW5.out.trans C6.out).trans R7.out.chg).trans C8.out).trans C9.out)⟩

end Go.Proofs.Ythdobpfojdcagaa.Reads
