/-
  The walk of ScriptBack.
-/
import Derived.Test.YthdobpfojdcagaaLong
import Derived.Test.YthdobpfojdcagaaBehind
import Derived.Test.YthdobpfojdcagaaOpenEv
set_option linter.unusedVariables false
namespace Go.Proofs.Ythdobpfojdcagaa.Back
open Go.RowKit Go.Proofs.Ythdobpfojdcagaa.Ev Go.Proofs.Ythdobpfojdcagaa.Fold Go.Proofs.Ythdobpfojdcagaa.Lay0 Go.Proofs.Ythdobpfojdcagaa.Bytes0 Go.Proofs.Ythdobpfojdcagaa.Plain Go.Proofs.Ythdobpfojdcagaa.Next Go.Proofs.Ythdobpfojdcagaa.Li Go.Proofs.Ythdobpfojdcagaa.Events Go.Proofs.Ythdobpfojdcagaa.Same Go.Proofs.Ythdobpfojdcagaa.SameEv Go.Proofs.Ythdobpfojdcagaa.Is Go.Proofs.Ythdobpfojdcagaa.RBytes Go.Proofs.Ythdobpfojdcagaa.Reads Go.Proofs.Ythdobpfojdcagaa.KnownW Go.Proofs.Ythdobpfojdcagaa.Behind Go.Proofs.Ythdobpfojdcagaa.Long

theorem err_cases (es : List Ev) : errOf es = 0 ∨ errOf es = 2 ∨ errOf es = 3 := by
  unfold errOf
  split
  · exact .inr (.inr rfl)
  · split
    · exact .inl rfl
    · exact .inr (.inl rfl)
/-- Events that may be, as bytes. -/
theorem back_of {es : List Ev} (h : errOf es = 0) (hb : ∀ e ∈ es, ∀ y ∈ e.b, 0 ≤ y ∧ y ≤ 255) : outOf es = es.flatMap layE ∧ evs (outOf es) = es ∧ (outOf es).length ≤ 100000000 := by
  have h1 : ¬ 4096 < es.length := by
    intro k
    rw [(err_long k).1] at h; cases h
  have h2 : ∀ e ∈ es, OkE e := by
    intro e he
    refine Decidable.byContradiction fun k => ?_
    rw [(err_bad h1 he k).1] at h; cases h
  have h3 := (err_ok h1 h2).2
  refine ⟨h3, by rw [h3]; exact evs_lay hb h2 (by omega), ?_⟩
  rw [h3]
  have h4 := flatMap_len es 4096 (fun e he => (h2 e he).1)
  have h5 : es.length * (13 + 3 * 4096) ≤ 4096 * (13 + 3 * 4096) := Nat.mul_le_mul_right _ (by omega)
  omega

set_option maxRecDepth 100000 in
set_option maxHeartbeats 4000000 in
theorem scriptBack_walk (a0 a1 : Option Addr) (len0 cap0 len1 cap1 : Nat) (W : World) (hb : ∃ bs, IsB (fun b => b < W.heap.size) W a0 len0 cap0 bs) (hl : ∃ es, IsEvs (fun b => b < W.heap.size) W a1 len1 cap1 es ∧ ∀ x ∈ es, EvOk x) :
    Calls Try.prog 8 #[.slice a0 len0 cap0, .slice a1 len1 cap1] W fun e w' => e = .returned (.bool true) ∧ Below W.heap.size W w' := by
  obtain ⟨bs, hbs⟩ := hb
  obtain ⟨es, hes, ok⟩ := hl
  have hc0 : len0 ≤ 9223372036854775807 := by have := hbs.capl; have := hbs.capm; unfold maxLen at this; omega
  have hc1 : len1 ≤ 9223372036854775807 := by have := hes.capl; have := hes.capm; unfold maxLen at this; omega
  have HB := Lib.hid hbs; have HE := Lib.hid hes; have OK := Lib.hid ok
  clear hbs hes ok
  by_cases hl0 : 5000 < len0
  · go_enter Try.func8, Try.ntmps8
    go_wp2_with fail
    refine (awake_any W).mono ?_
    rintro e w1 ⟨rfl, c1⟩
    have C1 := Lib.hid c1; clear c1
    go_wp2_with fail
    go_ret
    exact ⟨rfl, toBelow C1.out⟩
  by_cases hlong : LongP es
  · have LY := Lib.hid (fun w h => long_yes (P := fun b => b < W.heap.size) a1 len1 cap1 es w h hlong)
    clear hlong
    go_enter Try.func8, Try.ntmps8
    go_wp2_with fail
    refine (awake_any W).mono ?_
    rintro e w1 ⟨rfl, c1⟩
    have C1 := Lib.hid c1; clear c1
    go_wp2_with fail
    refine (LY.out w1 (HE.out.kept C1.out (fun _ _ _ k => k))).mono ?_
    rintro e w2 ⟨rfl, rfl⟩
    go_wp2_with fail
    go_ret
    exact ⟨rfl, toBelow C1.out⟩
  have LN := Lib.hid (fun w h => long_no (P := fun b => b < W.heap.size) a1 len1 cap1 es w h hlong)
  clear hlong
  have bdb := Lib.hid HB.out.bytes.2.1
  have lnb := Lib.hid HB.out.bytes.1
  have bde := Lib.hid (isEvs_bd HE.out)
  -- the events of the bytes, and their bytes
  obtain ⟨fs, hfs⟩ : ∃ fs, evs bs = fs := ⟨_, rfl⟩
  have hEb := fun w h => events_is (fun b => b < W.heap.size) a0 len0 cap0 bs w h (by omega)
  rw [hfs] at hEb
  have hBy := fun a cap w h => bytes_read (P := fun _ => True) a cap fs bs w hfs bdb.out h
  have hfl : (fs.flatMap layE).length ≤ 100000000 := by rw [← hfs]; exact flat_read_len bdb.out (by rw [lnb.out]; omega)
  have hev : evs (fs.flatMap layE) = fs := by rw [← hfs]; exact evs_lay (evs_bd bdb.out) (evs_ok bdb.out) (evs_len bs)
  obtain ⟨O, hO⟩ : ∃ O, fs.flatMap layE = O := ⟨_, rfl⟩
  rw [hO] at hBy hfl hev
  have hEO := fun a c w h => events_is (fun _ => True) a O.length c O w h (by omega)
  rw [hev] at hEO
  have EB := Lib.hid hEb; have BY := Lib.hid hBy; have EO := Lib.hid hEO
  clear hEb hBy hEO hev hfl hO hfs
  -- the list's own
  have hBl := fun w h => bytes_is (P := fun b => b < W.heap.size) a1 len1 cap1 es w h OK.out
  have hCk := fun w h => check_any (P := fun b => b < W.heap.size) a1 len1 cap1 es w h OK.out
  by_cases hr : errOf es = 0
  · obtain ⟨q1, q2, q3⟩ := back_of hr bde.out
    obtain ⟨X, hX⟩ : ∃ X, outOf es = X := ⟨_, rfl⟩
    rw [hX] at q2 q3
    rw [hr, hX] at hBl
    rw [hr] at hCk
    have hEX := fun a c w h => events_is (fun _ => True) a X.length c X w h (by omega)
    rw [q2] at hEX
    have BL := Lib.hid hBl; have CK := Lib.hid hCk; have EX := Lib.hid hEX
    clear hBl hCk hEX hr hX q1 q2 q3
    go_enter Try.func8, Try.ntmps8
    go_wp2_with fail
    refine (awake_any W).mono ?_
    rintro e w1 ⟨rfl, c1⟩
    have C1 := Lib.hid c1; clear c1
    go_wp2_with fail
    refine (LN.out w1 (HE.out.kept C1.out (fun _ _ _ k => k))).mono ?_
    rintro e w2 ⟨rfl, rfl⟩
    go_wp2_with fail
    refine (BL.out w1 (HE.out.kept C1.out (fun _ _ _ k => k))).mono ?_
    rintro e w3 ⟨ax, cx, rfl, ix, c3⟩
    have IX := Lib.hid ix; have C3 := Lib.hid (C1.out.trans c3); clear ix c3
    go_wp2_with fail
    refine (CK.out w3 (HE.out.kept C3.out (fun _ _ _ k => k))).mono ?_
    rintro e w4 ⟨rfl, c4⟩
    have C4 := Lib.hid (C3.out.trans c4); replace IX := Lib.hid (keptT IX.out c4); clear c4
    go_wp2_with fail
    refine (EX.out ax cx w4 IX.out).mono ?_
    rintro e w5 ⟨ay, cy, rfl, r5⟩
    have C5 := Lib.hid (C4.out.trans r5.chg); have Y5 := Lib.hid r5.is; clear r5
    have hlen := HE.out.len_eq
    have SE := same_yes es w5 Y5.out (by have h := HE.out.kept C5.out (fun _ _ _ k => k); rw [← hlen] at h; exact h)
    rw [hlen] at SE ⊢
    replace SE := Lib.hid SE; replace hlen := Lib.hid hlen
    go_wp2_with fail
    refine SE.out.mono ?_
    rintro e w6 ⟨rfl, c6⟩
    have C6 := Lib.hid (C5.out.trans c6); clear c6
    go_wp2_with fail
    refine (EB.out w6 (keptT HB.out C6.out)).mono ?_
    rintro e w7 ⟨am, cm, rfl, r7⟩
    have C7 := Lib.hid (C6.out.trans r7.chg); have M7 := Lib.hid (r7.is.weak (P' := fun _ => True) (fun _ _ _ => trivial)); clear r7
    go_wp2_with fail
    refine (BY.out am cm w7 M7.out).mono ?_
    rintro e w8 ⟨ao, co, rfl, io, c8⟩
    have C8 := Lib.hid (C7.out.trans c8); have M8 := Lib.hid (M7.out.kept c8 (fun _ _ _ k => k)); have I8 := Lib.hid io; clear io c8
    go_wp2_with fail
    refine (EO.out ao co w8 I8.out).mono ?_
    rintro e w9 ⟨ap, cp, rfl, r9⟩
    have C9 := Lib.hid (C8.out.trans r9.chg); have M9 := Lib.hid (M8.out.kept r9.chg (fun _ _ _ k => k)); have P9 := Lib.hid r9.is; clear r9
    go_wp2_with fail
    refine (same_yes fs w9 P9.out M9.out).mono ?_
    rintro e w10 ⟨rfl, c10⟩
    have C10 := Lib.hid (C9.out.trans c10); clear c10
    go_wp2_with fail
    go_ret
    exact ⟨rfl, toBelow C10.out⟩
  · obtain ⟨r, hrr⟩ : ∃ r, errOf es = r := ⟨_, rfl⟩
    obtain ⟨n, hn⟩ : ∃ n, (outOf es).length = n := ⟨_, rfl⟩
    rw [hrr] at hBl hCk hr
    rw [hn] at hBl
    have hr0 : (r == 0) = false := beq_eq_false_iff_ne.2 hr
    have BL := Lib.hid hBl; have CK := Lib.hid hCk
    clear hBl hCk hn hrr
    go_enter Try.func8, Try.ntmps8
    go_wp2_with fail
    refine (awake_any W).mono ?_
    rintro e w1 ⟨rfl, c1⟩
    have C1 := Lib.hid c1; clear c1
    go_wp2_with fail
    refine (LN.out w1 (HE.out.kept C1.out (fun _ _ _ k => k))).mono ?_
    rintro e w2 ⟨rfl, rfl⟩
    go_wp2_with fail
    refine (BL.out w1 (HE.out.kept C1.out (fun _ _ _ k => k))).mono ?_
    rintro e w3 ⟨ax, cx, rfl, ix, c3⟩
    have C3 := Lib.hid (C1.out.trans c3); clear ix c3
    go_wp2_with fail
    refine (CK.out w3 (HE.out.kept C3.out (fun _ _ _ k => k))).mono ?_
    rintro e w6 ⟨rfl, c4⟩
    have C6 := Lib.hid (C3.out.trans c4); clear c4
    go_wp2_with fail
    refine (EB.out w6 (keptT HB.out C6.out)).mono ?_
    rintro e w7 ⟨am, cm, rfl, r7⟩
    have C7 := Lib.hid (C6.out.trans r7.chg); have M7 := Lib.hid (r7.is.weak (P' := fun _ => True) (fun _ _ _ => trivial)); clear r7
    go_wp2_with fail
    refine (BY.out am cm w7 M7.out).mono ?_
    rintro e w8 ⟨ao, co, rfl, io, c8⟩
    have C8 := Lib.hid (C7.out.trans c8); have M8 := Lib.hid (M7.out.kept c8 (fun _ _ _ k => k)); have I8 := Lib.hid io; clear io c8
    go_wp2_with fail
    refine (EO.out ao co w8 I8.out).mono ?_
    rintro e w9 ⟨ap, cp, rfl, r9⟩
    have C9 := Lib.hid (C8.out.trans r9.chg); have M9 := Lib.hid (M8.out.kept r9.chg (fun _ _ _ k => k)); have P9 := Lib.hid r9.is; clear r9
    go_wp2_with fail
    refine (same_yes fs w9 P9.out M9.out).mono ?_
    rintro e w10 ⟨rfl, c10⟩
    have C10 := Lib.hid (C9.out.trans c10); clear c10
    go_wp2_with fail
    go_ret
    exact ⟨rfl, toBelow C10.out⟩

end Go.Proofs.Ythdobpfojdcagaa.Back
