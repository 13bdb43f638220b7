/-
  The walk of ScriptWrites.
-/
import Derived.Test.YthdobpfojdcagaaLong
import Derived.Test.YthdobpfojdcagaaRCheck
import Derived.Test.YthdobpfojdcagaaCopyEv
import Derived.Test.YthdobpfojdcagaaBehind
import Derived.Test.YthdobpfojdcagaaOpenEv
set_option linter.unusedVariables false
namespace Go.Proofs.Ythdobpfojdcagaa.Writes
open Go.RowKit Go.Proofs.Ythdobpfojdcagaa.Ev Go.Proofs.Ythdobpfojdcagaa.Fold Go.Proofs.Ythdobpfojdcagaa.Lay0 Go.Proofs.Ythdobpfojdcagaa.Bytes0 Go.Proofs.Ythdobpfojdcagaa.Plain Go.Proofs.Ythdobpfojdcagaa.Next Go.Proofs.Ythdobpfojdcagaa.Li Go.Proofs.Ythdobpfojdcagaa.Events Go.Proofs.Ythdobpfojdcagaa.Same Go.Proofs.Ythdobpfojdcagaa.SameEv Go.Proofs.Ythdobpfojdcagaa.Is Go.Proofs.Ythdobpfojdcagaa.RBytes Go.Proofs.Ythdobpfojdcagaa.Reads Go.Proofs.Ythdobpfojdcagaa.KnownW Go.Proofs.Ythdobpfojdcagaa.Behind Go.Proofs.Ythdobpfojdcagaa.Long Go.Proofs.Ythdobpfojdcagaa.RCheck Go.Proofs.Ythdobpfojdcagaa.CopyEv

theorem same_b_yes {P Q : Nat → Prop} {a0 a1 : Option Addr} {l c0 c1 : Nat} (xs : List Int) (w : World) (h : IsB P w a0 l c0 xs) (k : IsB Q w a1 l c1 xs) :
    Calls Try.prog 20 #[.slice a0 l c0, .slice a1 l c1] w fun e w' => e = .returned (.bool true) ∧ w = w' :=
  (same_bytes w h k).mono fun e w' h => ⟨by rw [h.1]; simp, h.2⟩
theorem not_long {es : List Ev} (h : ¬ LongP es) : es.length ≤ 5000 ∧ ∀ e ∈ es, e.b.length ≤ 5000 := by
  refine ⟨?_, fun e he => ?_⟩
  · refine Nat.le_of_not_lt fun k => h (.inr (.inl k))
  · refine Nat.le_of_not_lt fun k => h (.inl ⟨e, he, k⟩)

set_option maxRecDepth 100000 in
set_option maxHeartbeats 4000000 in
theorem scriptWrites_walk (a0 : Option Addr) (len0 cap0 : Nat) (W : World) (hl : ∃ es, IsEvs (fun b => b < W.heap.size) W a0 len0 cap0 es ∧ ∀ x ∈ es, EvOk x) :
    Calls Try.prog 7 #[.slice a0 len0 cap0] W fun e w' => e = .returned (.bool true) ∧ Below W.heap.size W w' := by
  obtain ⟨es, hes, ok⟩ := hl
  have hc1 : len0 ≤ 9223372036854775807 := by have := hes.capl; have := hes.capm; unfold maxLen at this; omega
  have HE := Lib.hid hes; have OK := Lib.hid ok
  clear hes ok
  by_cases hlong : LongP es
  · have LY := Lib.hid (long_yes (P := fun b => b < W.heap.size) a0 len0 cap0 es W HE.out hlong)
    clear hlong
    go_enter Try.func7, Try.ntmps7
    go_wp2_with fail
    refine LY.out.mono ?_
    rintro e w2 ⟨rfl, rfl⟩
    go_wp2_with fail
    go_ret
    exact ⟨rfl, toBelow (Chg.refl _ _)⟩
  obtain ⟨q1, q2⟩ := not_long hlong
  have LN := Lib.hid (long_no (P := fun b => b < W.heap.size) a0 len0 cap0 es W HE.out hlong)
  have hlen := HE.out.len_eq
  have CE := Lib.hid (copy_events a0 len0 cap0 es W HE.out (by omega) q2 (isEvs_bd HE.out))
  have hBl := fun a c w h => bytes_is (P := fun _ => True) a len0 c es w h OK.out
  have hRl := fun w h => rbytesL_is (P := fun b => b < W.heap.size) a0 len0 cap0 es w h OK.out
  have hCk := fun a c w h => check_any (P := fun _ => True) a len0 c es w h OK.out
  have hRk := fun w h => rcheck_any (P := fun b => b < W.heap.size) a0 len0 cap0 es w h OK.out
  have hSb := fun (a0 a1 : Option Addr) (c0 c1 : Nat) w h k => same_b_yes (P := fun _ => True) (Q := fun _ => True) (l := (outOf es).length) (a0 := a0) (a1 := a1) (c0 := c0) (c1 := c1) (outOf es) w h k
  obtain ⟨r, hrr⟩ : ∃ r, errOf es = r := ⟨_, rfl⟩
  obtain ⟨X, hX⟩ : ∃ X, outOf es = X := ⟨_, rfl⟩
  rw [hrr, hX] at hBl hRl
  rw [hrr] at hCk hRk
  rw [hX] at hSb
  have hr0 : (r == r) = true := beq_self_eq_true r
  have BL := Lib.hid hBl; have RL := Lib.hid hRl; have CK := Lib.hid hCk; have RK := Lib.hid hRk; have SB := Lib.hid hSb
  clear hBl hRl hCk hRk hSb hX hrr hlong q1 q2 hlen
  obtain ⟨n, hn⟩ : ∃ n, X.length = n := ⟨_, rfl⟩
  rw [hn] at BL RL SB
  clear hn
  go_enter Try.func7, Try.ntmps7
  go_wp2_with fail
  refine LN.out.mono ?_
  rintro e w0 ⟨rfl, rfl⟩
  go_wp2_with fail
  refine CE.out.mono ?_
  rintro e w1 ⟨ai, ci, rfl, ii, c1⟩
  have II := Lib.hid ii; have C1 := Lib.hid c1; clear ii c1
  go_wp2_with fail
  refine (BL.out ai ci w1 II.out).mono ?_
  rintro e w2 ⟨ax, cx, rfl, ix, c2⟩
  have IX := Lib.hid ix; replace II := Lib.hid (II.out.kept c2 (fun _ _ _ k => k)); have C2 := Lib.hid (C1.out.trans c2); clear ix c2
  go_wp2_with fail
  refine (RL.out w2 (HE.out.kept C2.out (fun _ _ _ k => k))).mono ?_
  rintro e w3 ⟨ay, cy, rfl, iy, c3⟩
  have IY := Lib.hid iy; replace IX := Lib.hid (keptT IX.out c3); replace II := Lib.hid (II.out.kept c3 (fun _ _ _ k => k)); have C3 := Lib.hid (C2.out.trans c3); clear iy c3
  go_wp2_with fail
  refine (SB.out ax ay cx cy w3 IX.out IY.out).mono ?_
  rintro e w3' ⟨rfl, rfl⟩
  go_wp2_with fail
  refine (CK.out ai ci w3 II.out).mono ?_
  rintro e w4 ⟨rfl, c4⟩
  replace II := Lib.hid (II.out.kept c4 (fun _ _ _ k => k)); have C4 := Lib.hid (C3.out.trans c4); clear c4
  go_wp2_with fail
  refine (RK.out w4 (HE.out.kept C4.out (fun _ _ _ k => k))).mono ?_
  rintro e w5 ⟨rfl, c5⟩
  replace II := Lib.hid (II.out.kept c5 (fun _ _ _ k => k)); have C5 := Lib.hid (C4.out.trans c5); clear c5
  go_wp2_with fail
  refine (same_yes es w5 II.out (HE.out.kept C5.out (fun _ _ _ k => k))).mono ?_
  rintro e w6 ⟨rfl, c6⟩
  have C6 := Lib.hid (C5.out.trans c6); clear c6
  go_wp2_with fail
  refine (awake_any w6).mono ?_
  rintro e w7 ⟨rfl, c7⟩
  have C7 := Lib.hid (C6.out.trans c7); clear c7
  go_wp2_with fail
  go_ret
  exact ⟨rfl, toBelow C7.out⟩

end Go.Proofs.Ythdobpfojdcagaa.Writes
