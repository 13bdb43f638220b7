/-
  The walk of KeptBytes: what was lent is as it was.
-/
import Derived.Test.YthdobpfojdcagaaLent
import Derived.Deep.RegionHeld3
set_option linter.unusedVariables false
namespace Go.Proofs.Ythdobpfojdcagaa.Kept
open Go.RowKit Go.Proofs.Ythdobpfojdcagaa.Ev Go.Proofs.Ythdobpfojdcagaa.Next Go.Proofs.Ythdobpfojdcagaa.Fields Go.Proofs.Ythdobpfojdcagaa.Event Go.Proofs.Ythdobpfojdcagaa.Fold Go.Proofs.Ythdobpfojdcagaa.U8 Go.Proofs.Ythdobpfojdcagaa.Li Go.Proofs.Ythdobpfojdcagaa.EventAny Go.Proofs.Ythdobpfojdcagaa.Events Go.Proofs.Ythdobpfojdcagaa.Same Go.Proofs.Ythdobpfojdcagaa.Lent

theorem lent_all {w : World} {g : Nat} {bs : List Int} {len : Nat} (h : Row w g (lent bs)) (hl : bs.length = len) (hb : ∀ x ∈ bs, 0 ≤ x ∧ x ≤ 255) (hm : len ≤ 1000000000) : IsB (fun _ => True) w (some ⟨g, 0, none⟩) (len + 3) (len + 3) (lent bs) := by
  have h1 := h.isb (P := fun _ => True) (len + 3) (len + 3) (by rw [lent_length, hl]; exact Nat.le_refl _) (Nat.le_refl _) (by unfold maxLen; omega) (lent_bd hb) trivial
  rw [List.take_of_length_le (by rw [lent_length, hl]; exact Nat.le_refl _)] at h1
  exact h1

set_option maxRecDepth 100000 in
set_option maxHeartbeats 2000000 in
theorem kept_any (P : Nat → Prop) (g : Nat) (a0 : Option Addr) (len cap : Nat) (bs : List Int) (w : World) (h : IsB P w a0 len cap bs) (hm : len ≤ 1000000000) (hr : Row w g (lent bs)) :
    Calls Try.prog 14 #[.slice (some ⟨g, 0, none⟩) len (len + 3), .slice a0 len cap] w fun e w' => e = .returned (.bool true) ∧ Chg (fun _ => False) w w' := by
  have H := Lib.hid h; have R := Lib.hid hr; clear h hr
  have D : Chg (fun _ => False) w w.drew := (Chg.refl _ w).drewN 1
  have LA := Lib.hid (lent_any P a0 len cap bs w.drew (H.out.kept D (fun _ _ _ h => h)) hm)
  replace D := Lib.hid D
  have hw3 : IntKind.i64.wrap ((len : Int) + 3) = (len : Int) + 3 := by rw [IntKind.wrap_i64]; omega
  have b1 : (0 : Int) ≤ (len : Int) + 3 := by omega
  have b2 : ((len : Int) + 3).toNat = len + 3 := by omega
  go_enter Try.func14, Try.ntmps14
  go_wp2_with fail
  go_region_held3 (fun _ => True) (trivial)
    (first
      | (go_at_call 9; (with_reducible refine LA.out.mono ?_); rintro e w1 ⟨rfl, hr1, hc1⟩; have R1 := Lib.hid hr1; have C1 := Lib.hid (D.out.trans hc1); clear hr1 hc1)
      | (go_at_call 20; refine (same_bytes (P := fun _ => True) (Q := fun _ => True) _ (lent_all (R.out.kept C1.out (fun h => h)) H.out.bytes.1 H.out.bytes.2.1 hm) (lent_all R1.out H.out.bytes.1 H.out.bytes.2.1 hm)).mono ?_; rintro e w2 ⟨rfl, rfl⟩))
  go_wp2_with fail
  go_ret
  exact ⟨rfl, C1.out⟩

end Go.Proofs.Ythdobpfojdcagaa.Kept
