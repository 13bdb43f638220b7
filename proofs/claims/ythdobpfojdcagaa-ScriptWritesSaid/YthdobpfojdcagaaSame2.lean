/-
  The walks of script's same, of the document's Same, of bytes.Equal.
-/
import Derived.Test.YthdobpfojdcagaaSameEv
set_option linter.unusedVariables false
namespace Go.Proofs.Ythdobpfojdcagaa.Same2
open Go.RowKit Go.Proofs.Ythdobpfojdcagaa.Ev Go.Proofs.Ythdobpfojdcagaa.Next Go.Proofs.Ythdobpfojdcagaa.Li Go.Proofs.Ythdobpfojdcagaa.Events Go.Proofs.Ythdobpfojdcagaa.Same Go.Proofs.Ythdobpfojdcagaa.SameEv

theorem bytes_equal {P Q : Nat → Prop} {a0 a1 : Option Addr} {l0 c0 l1 c1 : Nat} {xs ys : List Int} (w : World) (h : IsB P w a0 l0 c0 xs) (k : IsB Q w a1 l1 c1 ys) :
    Calls Try.prog 41 #[.slice a0 l0 c0, .slice a1 l1 c1] w fun e w' => e = .returned (.bool (decide (xs = ys))) ∧ w = w' := by
  have h0 := conv_isb h
  have h1 := conv_isb k
  have hi := Lib.hid (str_eq h.bytes.2.1 k.bytes.2.1)
  clear h k
  go_enter Try.func41, Try.ntmps41
  go_wp2_with fail
  go_ret
  exact ⟨by rw [← hi.out]; rfl, rfl⟩

set_option maxRecDepth 100000 in
set_option maxHeartbeats 2000000 in
theorem script_same {P Q : Nat → Prop} (x y : Ev) {a0 a1 : Option Addr} {c0 c1 : Nat} (w : World) (h : IsB P w a0 x.b.length c0 x.b) (k : IsB Q w a1 y.b.length c1 y.b) :
    Calls Try.prog 32 #[.agg (evCells x (.slice a0 x.b.length c0)), .agg (evCells y (.slice a1 y.b.length c1))] w fun e w' => e = .returned (.bool (decide (x = y))) ∧ Chg (fun _ => False) w w' := by
  obtain ⟨k0, s0, who0, port0, conn0, n0, b0⟩ := x
  obtain ⟨k1, s1, who1, port1, conn1, n1, b1⟩ := y
  simp only at h k
  simp only [evCells]
  have HH := Lib.hid h; have HK := Lib.hid k; clear h k
  obtain ⟨L0, hL0⟩ : ∃ L, b0.length = L := ⟨_, rfl⟩
  obtain ⟨L1, hL1⟩ : ∃ L, b1.length = L := ⟨_, rfl⟩
  rw [hL0] at HH ⊢; rw [hL1] at HK ⊢
  clear hL0 hL1
  by_cases e0 : k0 = k1
  · subst e0
    by_cases e1 : s0 = s1
    · subst e1
      by_cases e2 : who0 = who1
      · subst e2
        by_cases e3 : port0 = port1
        · subst e3
          by_cases e4 : conn0 = conn1
          · subst e4
            by_cases e5 : n0 = n1
            · subst e5
              have hd : decide ((⟨k0, s0, who0, port0, conn0, n0, b0⟩ : Ev) = ⟨k0, s0, who0, port0, conn0, n0, b1⟩) = decide (b0 = b1) := by simp
              rw [hd]
              clear hd
              have CC := Lib.hid (((Chg.refl (fun _ => False) w).alloc (.cells #[.int .i64 k0, .int .i64 s0, .int .i64 who0, .int .i64 port0, .int .i64 conn0, .int .i64 n0, .slice a0 L0 c0] 34)).alloc (.cells #[.int .i64 k0, .int .i64 s0, .int .i64 who0, .int .i64 port0, .int .i64 conn0, .int .i64 n0, .slice a1 L1 c1] 34))
              go_enter Try.func32, Try.ntmps32
              go_wp2_with fail
              refine (bytes_equal _ (HH.out.kept CC.out (fun _ _ _ h => h)) (HK.out.kept CC.out (fun _ _ _ h => h))).mono ?_
              rintro e w' ⟨rfl, rfl⟩
              go_wp2_with fail
              go_ret
              exact ⟨rfl, CC.out⟩
            · have hd : decide ((⟨k0, s0, who0, port0, conn0, n0, b0⟩ : Ev) = ⟨k0, s0, who0, port0, conn0, n1, b1⟩) = false := by simp [e5]
              rw [hd]
              clear hd
              have e5' : ((n0 : Int) == n1) = false := by simpa using e5
              go_enter Try.func32, Try.ntmps32
              go_wp2_with fail
              go_ret
              exact ⟨rfl, ((Chg.refl _ w).alloc _).alloc _⟩
          · have hd : decide ((⟨k0, s0, who0, port0, conn0, n0, b0⟩ : Ev) = ⟨k0, s0, who0, port0, conn1, n1, b1⟩) = false := by simp [e4]
            rw [hd]
            clear hd
            have e4' : ((conn0 : Int) == conn1) = false := by simpa using e4
            go_enter Try.func32, Try.ntmps32
            go_wp2_with fail
            go_ret
            exact ⟨rfl, ((Chg.refl _ w).alloc _).alloc _⟩
        · have hd : decide ((⟨k0, s0, who0, port0, conn0, n0, b0⟩ : Ev) = ⟨k0, s0, who0, port1, conn1, n1, b1⟩) = false := by simp [e3]
          rw [hd]
          clear hd
          have e3' : ((port0 : Int) == port1) = false := by simpa using e3
          go_enter Try.func32, Try.ntmps32
          go_wp2_with fail
          go_ret
          exact ⟨rfl, ((Chg.refl _ w).alloc _).alloc _⟩
      · have hd : decide ((⟨k0, s0, who0, port0, conn0, n0, b0⟩ : Ev) = ⟨k0, s0, who1, port1, conn1, n1, b1⟩) = false := by simp [e2]
        rw [hd]
        clear hd
        have e2' : ((who0 : Int) == who1) = false := by simpa using e2
        go_enter Try.func32, Try.ntmps32
        go_wp2_with fail
        go_ret
        exact ⟨rfl, ((Chg.refl _ w).alloc _).alloc _⟩
    · have hd : decide ((⟨k0, s0, who0, port0, conn0, n0, b0⟩ : Ev) = ⟨k0, s1, who1, port1, conn1, n1, b1⟩) = false := by simp [e1]
      rw [hd]
      clear hd
      have e1' : ((s0 : Int) == s1) = false := by simpa using e1
      go_enter Try.func32, Try.ntmps32
      go_wp2_with fail
      go_ret
      exact ⟨rfl, ((Chg.refl _ w).alloc _).alloc _⟩
  · have hd : decide ((⟨k0, s0, who0, port0, conn0, n0, b0⟩ : Ev) = ⟨k1, s1, who1, port1, conn1, n1, b1⟩) = false := by simp [e0]
    rw [hd]
    clear hd
    have e0' : ((k0 : Int) == k1) = false := by simpa using e0
    go_enter Try.func32, Try.ntmps32
    go_wp2_with fail
    go_ret
    exact ⟨rfl, ((Chg.refl _ w).alloc _).alloc _⟩

set_option maxRecDepth 100000 in
set_option maxHeartbeats 2000000 in
theorem ref_same {P Q : Nat → Prop} (x y : Ev) {a0 a1 : Option Addr} {c0 c1 : Nat} (w : World) (h : IsB P w a0 x.b.length c0 x.b) (k : IsB Q w a1 y.b.length c1 y.b) :
    Calls Try.prog 34 #[.agg (evCells x (.slice a0 x.b.length c0)), .agg (evCells y (.slice a1 y.b.length c1))] w fun e w' => e = .returned (.bool (decide (x = y))) ∧ Chg (fun _ => False) w w' := by
  obtain ⟨k0, s0, who0, port0, conn0, n0, b0⟩ := x
  obtain ⟨k1, s1, who1, port1, conn1, n1, b1⟩ := y
  simp only at h k
  simp only [evCells]
  have HH := Lib.hid h; have HK := Lib.hid k; clear h k
  obtain ⟨L0, hL0⟩ : ∃ L, b0.length = L := ⟨_, rfl⟩
  obtain ⟨L1, hL1⟩ : ∃ L, b1.length = L := ⟨_, rfl⟩
  rw [hL0] at HH ⊢; rw [hL1] at HK ⊢
  clear hL0 hL1
  by_cases e0 : k0 = k1
  · subst e0
    by_cases e1 : s0 = s1
    · subst e1
      by_cases e2 : who0 = who1
      · subst e2
        by_cases e3 : port0 = port1
        · subst e3
          by_cases e4 : conn0 = conn1
          · subst e4
            by_cases e5 : n0 = n1
            · subst e5
              have hd : decide ((⟨k0, s0, who0, port0, conn0, n0, b0⟩ : Ev) = ⟨k0, s0, who0, port0, conn0, n0, b1⟩) = decide (b0 = b1) := by simp
              rw [hd]
              clear hd
              have CC := Lib.hid (((Chg.refl (fun _ => False) w).alloc (.cells #[.int .i64 k0, .int .i64 s0, .int .i64 who0, .int .i64 port0, .int .i64 conn0, .int .i64 n0, .slice a0 L0 c0] 34)).alloc (.cells #[.int .i64 k0, .int .i64 s0, .int .i64 who0, .int .i64 port0, .int .i64 conn0, .int .i64 n0, .slice a1 L1 c1] 34))
              have v0 := conv_isb (HH.out.kept CC.out (fun _ _ _ h => h))
              have v1 := conv_isb (HK.out.kept CC.out (fun _ _ _ h => h))
              have hi := Lib.hid (str_eq HH.out.bytes.2.1 HK.out.bytes.2.1)
              go_enter Try.func34, Try.ntmps34
              go_wp2_with fail
              go_ret
              exact ⟨by rw [← hi.out]; rfl, CC.out⟩
            · have hd : decide ((⟨k0, s0, who0, port0, conn0, n0, b0⟩ : Ev) = ⟨k0, s0, who0, port0, conn0, n1, b1⟩) = false := by simp [e5]
              rw [hd]
              clear hd
              have e5' : ((n0 : Int) == n1) = false := by simpa using e5
              go_enter Try.func34, Try.ntmps34
              go_wp2_with fail
              go_ret
              exact ⟨rfl, ((Chg.refl _ w).alloc _).alloc _⟩
          · have hd : decide ((⟨k0, s0, who0, port0, conn0, n0, b0⟩ : Ev) = ⟨k0, s0, who0, port0, conn1, n1, b1⟩) = false := by simp [e4]
            rw [hd]
            clear hd
            have e4' : ((conn0 : Int) == conn1) = false := by simpa using e4
            go_enter Try.func34, Try.ntmps34
            go_wp2_with fail
            go_ret
            exact ⟨rfl, ((Chg.refl _ w).alloc _).alloc _⟩
        · have hd : decide ((⟨k0, s0, who0, port0, conn0, n0, b0⟩ : Ev) = ⟨k0, s0, who0, port1, conn1, n1, b1⟩) = false := by simp [e3]
          rw [hd]
          clear hd
          have e3' : ((port0 : Int) == port1) = false := by simpa using e3
          go_enter Try.func34, Try.ntmps34
          go_wp2_with fail
          go_ret
          exact ⟨rfl, ((Chg.refl _ w).alloc _).alloc _⟩
      · have hd : decide ((⟨k0, s0, who0, port0, conn0, n0, b0⟩ : Ev) = ⟨k0, s0, who1, port1, conn1, n1, b1⟩) = false := by simp [e2]
        rw [hd]
        clear hd
        have e2' : ((who0 : Int) == who1) = false := by simpa using e2
        go_enter Try.func34, Try.ntmps34
        go_wp2_with fail
        go_ret
        exact ⟨rfl, ((Chg.refl _ w).alloc _).alloc _⟩
    · have hd : decide ((⟨k0, s0, who0, port0, conn0, n0, b0⟩ : Ev) = ⟨k0, s1, who1, port1, conn1, n1, b1⟩) = false := by simp [e1]
      rw [hd]
      clear hd
      have e1' : ((s0 : Int) == s1) = false := by simpa using e1
      go_enter Try.func34, Try.ntmps34
      go_wp2_with fail
      go_ret
      exact ⟨rfl, ((Chg.refl _ w).alloc _).alloc _⟩
  · have hd : decide ((⟨k0, s0, who0, port0, conn0, n0, b0⟩ : Ev) = ⟨k1, s1, who1, port1, conn1, n1, b1⟩) = false := by simp [e0]
    rw [hd]
    clear hd
    have e0' : ((k0 : Int) == k1) = false := by simpa using e0
    go_enter Try.func34, Try.ntmps34
    go_wp2_with fail
    go_ret
    exact ⟨rfl, ((Chg.refl _ w).alloc _).alloc _⟩

end Go.Proofs.Ythdobpfojdcagaa.Same2
