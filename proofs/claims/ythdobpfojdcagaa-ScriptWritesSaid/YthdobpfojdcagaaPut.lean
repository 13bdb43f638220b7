/-
  The walk of put: a number's lowest bytes.
-/
import Derived.Test.YthdobpfojdcagaaLay0
import Derived.Test.YthdobpfojdcagaaSame
set_option linter.unusedVariables false
namespace Go.Proofs.Ythdobpfojdcagaa.Put
open Go.RowKit Go.Proofs.Ythdobpfojdcagaa.Ev Go.Proofs.Ythdobpfojdcagaa.Fold Go.Proofs.Ythdobpfojdcagaa.Lay0 Go.Proofs.Ythdobpfojdcagaa.Next Go.Proofs.Ythdobpfojdcagaa.U8 Go.Proofs.Ythdobpfojdcagaa.Li Go.Proofs.Ythdobpfojdcagaa.EventAny Go.Proofs.Ythdobpfojdcagaa.Events Go.Proofs.Ythdobpfojdcagaa.Same

set_option maxRecDepth 100000 in
set_option maxHeartbeats 2000000 in
theorem put_any (x : Int) (size : Nat) (w : World) (hx0 : -9223372036854775808 ≤ x) (hx1 : x ≤ 9223372036854775807) (hs : size ≤ 4) :
    Calls Try.prog 42 #[.int .i64 x, .int .i64 size] w fun e w' => ∃ v, e = .returned v ∧ w'.ownsRow w.heap.size 5 1 v size ((putN x size).map (Value.int .u8)) ∧ Chg (fun _ => False) w w' := by
  obtain ⟨i0, hi0, hz0, hz1, hz2⟩ := info_parts Try.info5
  replace hi0 := Lib.hid hi0; replace hz0 := Lib.hid hz0; replace hz1 := Lib.hid hz1; replace hz2 := Lib.hid hz2
  go_enter Try.func42, Try.ntmps42
  go_wp2_with fail
  go_loopg [5, 6] size (fun g v5 v6 wr => ∃ (i m : Nat) (pre : List Int) (ao : Option Addr) (cp : Nat), m + i = size ∧ g = i ∧ v6 = .int .i64 ((i : Int) - 1) ∧ v5 = .slice ao m cp ∧ pre ++ putN x i = putN x size ∧ wr.ownsRow w.heap.size 5 1 (.slice ao m cp) m (pre.map (Value.int .u8)) ∧ Chg (fun _ => False) w wr)
  case atStart => exact ⟨size, 0, [], none, 0, by omega, rfl, rfl, rfl, rfl, World.ownsRow_nil _ _ _ _, Chg.refl _ _⟩
  case round =>
    obtain ⟨i, m, pre, ao, cp, hi, hg, rfl, rfl, hpre, hown, hch⟩ := hrel
    by_cases hlt : 1 ≤ i
    · obtain ⟨j, rfl⟩ : ∃ j, i = j + 1 := ⟨i - 1, by omega⟩
      rw [show (((j + 1 : Nat) : Int) - 1) = (j : Int) by omega]
      have hm4 : m ≤ 4 := by omega
      have hj4 : j ≤ 3 := by omega
      have hp2 : (pre ++ [bX x j]) ++ putN x j = putN x size := by rw [← hpre, List.append_assoc]; rfl
      obtain ⟨y0, y1⟩ := bX_bd x j
      obtain ⟨Y, hY⟩ : ∃ Y, bX x j = Y := ⟨_, rfl⟩
      rw [hY] at hp2 y0 y1
      have hY2 : x / 2 ^ (8 * j) % 256 = Y := hY
      have Hg := Lib.hid hg; have Hpre := Lib.hid hp2; have Hi := Lib.hid hi
      have OA := Lib.hid (hown.alloc (.cells #[.int .u8 Y] 5))
      have CA := Lib.hid (hch.alloc (.cells #[.int .u8 Y] 5))
      have B1 := Lib.hid (room1 (rfl : m = m) (by omega : m ≤ 4096)); have B2 := Lib.hid (room2 (rfl : m = m) (by omega : m ≤ 4096))
      have B3 := Lib.hid (show w.heap.size ≤ (wr.alloc (.cells #[.int .u8 Y] 5)).heap.size from CA.out.size)
      clear hg hpre hp2 hown hch hY hi
      go_wp2_with (at_builtin; refine wpList_append_lies _ rfl _ _ _ rfl w.heap.size 5 i0 _ 1 1 Try.underlying22 hi0.out hz0.out hz1.out hz2.out rfl (by omega) _ _ _ rfl OA.out _ 1 1 [.int .u8 Y] rfl rfl (cell_one_new _ _ _) (by simp [Value.oneCell']) (by omega) B1.out B2.out B3.out _ rfl ?_; intro g cap9 w9 hown9 hgrow hat9 hlt9)
      have ON := Lib.hid (show w9.ownsRow w.heap.size 5 1 (.slice (some ⟨g, 0, none⟩) (m + 1) cap9) (m + 1) ((pre ++ [Y]).map (Value.int .u8)) by rw [List.map_append]; exact hown9)
      have CN := Lib.hid (CA.out.grown hgrow (fun b hb => .inr (OA.out.lt b hb).1))
      clear hown9 hgrow hat9 hY2
      go_roundg j
      case measure => have := Hg.out; omega
      case rel => exact ⟨j, m + 1, pre ++ [Y], _, cap9, by have := Hi.out; omega, rfl, rfl, rfl, Hpre.out, ON.out, CN.out⟩
    · have hi0' : i = 0 := by omega
      subst hi0'
      have hm : m = size := by omega
      subst hm
      have hp2 : pre = putN x m := by rw [← hpre]; exact (List.append_nil pre).symm
      subst hp2
      have Hown := Lib.hid hown; have Hch := Lib.hid hch
      clear hown hch hpre hg hi
      go_wp2_with fail
      go_ret
      exact ⟨_, rfl, Hown.out, Hch.out⟩

end Go.Proofs.Ythdobpfojdcagaa.Put
