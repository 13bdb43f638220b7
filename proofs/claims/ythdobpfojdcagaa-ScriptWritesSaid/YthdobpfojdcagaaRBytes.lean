/-
  The walk of the document's bytes of an event. (Printed by tools/mk_rbytes.py.)
-/
import Derived.Test.YthdobpfojdcagaaJoin
import Derived.Test.YthdobpfojdcagaaPut
import Derived.Test.YthdobpfojdcagaaIs
import Derived.Deep.RegionHeld3
import Derived.Laws.OwnMore
set_option linter.unusedVariables false
namespace Go.Proofs.Ythdobpfojdcagaa.RBytes
open Go.RowKit Go.Proofs.Ythdobpfojdcagaa.Ev Go.Proofs.Ythdobpfojdcagaa.Fold Go.Proofs.Ythdobpfojdcagaa.Lay0 Go.Proofs.Ythdobpfojdcagaa.Next Go.Proofs.Ythdobpfojdcagaa.Li Go.Proofs.Ythdobpfojdcagaa.EventAny Go.Proofs.Ythdobpfojdcagaa.Events Go.Proofs.Ythdobpfojdcagaa.Same Go.Proofs.Ythdobpfojdcagaa.Is Go.Proofs.Ythdobpfojdcagaa.App Go.Proofs.Ythdobpfojdcagaa.Join Go.Proofs.Ythdobpfojdcagaa.Put Go.Proofs.Ythdobpfojdcagaa.Lent

/-- Slices, and what they hold. -/
def PartL (w : World) : List Value → List (List Int) → Prop
  | [], [] => True
  | v :: vs, p :: ps => (∃ a c, v = .slice a p.length c ∧ IsB (fun _ => True) w a p.length c p) ∧ PartL w vs ps
  | _, _ => False
theorem PartL.at {w : World} {vs : List Value} {ps : List (List Int)} (h : PartL w vs ps) (i : Nat) (p : List Int) (hp : ps[i]? = some p) : ∃ a c, vs[i]? = some (.slice a p.length c) ∧ IsB (fun _ => True) w a p.length c p := by
  induction vs generalizing ps i with
  | nil => cases ps with
    | nil => simp at hp
    | cons q ps => exact h.elim
  | cons v vs ih => cases ps with
    | nil => simp at hp
    | cons q ps =>
      rcases i with _ | i
      · simp only [List.getElem?_cons_zero, Option.some.injEq] at hp
        subst hp
        obtain ⟨⟨a, c, rfl, hb⟩, _⟩ := h
        exact ⟨a, c, by simp, hb⟩
      · exact ih h.2 i (by simpa using hp)
theorem parts_of {w : World} {T : TypeId} {vs : List Value} {ps : List (List Int)} (h : PartL w vs ps) : Parts (w.alloc (.cells vs.toArray T)) w.heap.size ps := by
  refine ⟨by simp, fun i p hp => ?_⟩
  obtain ⟨a, c, h1, h2⟩ := h.at i p hp
  exact ⟨a, c, by rw [cell_of_row _ w.heap.size i vs.toArray T (0, 0) (heap_alloc_new w _)]; simpa using h1, h2.kept ((Chg.refl (fun _ => False) w).alloc _) (fun _ _ _ k => k)⟩

/-- The ints of an event. -/
structure EvOk (e : Ev) : Prop where
  k0 : -9223372036854775808 ≤ e.k
  k1 : e.k ≤ 9223372036854775807
  s0 : -9223372036854775808 ≤ e.s
  s1 : e.s ≤ 9223372036854775807
  who0 : -9223372036854775808 ≤ e.who
  who1 : e.who ≤ 9223372036854775807
  port0 : -9223372036854775808 ≤ e.port
  port1 : e.port ≤ 9223372036854775807
  conn0 : -9223372036854775808 ≤ e.conn
  conn1 : e.conn ≤ 9223372036854775807
  n0 : -9223372036854775808 ≤ e.n
  n1 : e.n ≤ 9223372036854775807
theorem isb_of_put {w : World} {lo : Nat} {v : Value} {x : Int} {z : Nat} (h : w.ownsRow lo 5 1 v z ((putN x z).map (Value.int .u8))) : ∃ a c, v = .slice a z c ∧ IsB (fun _ => True) w a z c (putN x z) := by
  have hl := putN_length x z
  obtain ⟨a, c, hv, hb⟩ := isb_of_own (bs := putN x z) (v := v) (by rw [hl]; exact h) (putN_bd x z)
  rw [hl] at hv hb
  exact ⟨a, c, hv, IsB.weak hb (fun _ _ _ => trivial)⟩
theorem put_isb (x : Int) (z : Nat) (zi : Int) (hz : (z : Int) = zi) (hx0 : -9223372036854775808 ≤ x) (hx1 : x ≤ 9223372036854775807) (hs : z ≤ 4) (w : World) :
    Calls Try.prog 42 #[.int .i64 x, .int .i64 zi] w fun e w' => ∃ a c, e = .returned (.slice a z c) ∧ IsB (fun _ => True) w' a z c (putN x z) ∧ Chg (fun _ => False) w w' := by
  subst hz
  exact (put_any x z w hx0 hx1 hs).mono fun e w' ⟨v, he, ho, hc⟩ => by
    obtain ⟨a, c, rfl, hb⟩ := isb_of_put ho
    exact ⟨a, c, he, hb, hc⟩
theorem keptT {P : Nat → Prop} {w w' : World} {a : Option Addr} {len cap : Nat} {bs : List Int} (h : IsB P w a len cap bs) (c : Chg (fun _ => False) w w') : IsB P w' a len cap bs := h.kept c (fun _ _ _ k => k)

set_option maxRecDepth 100000 in
set_option maxHeartbeats 4000000 in
theorem rbytes_0 (k s who port conn n : Int) (b : List Int) {P : Nat → Prop} (a0 : Option Addr) (c0 : Nat) (w : World) (ok : EvOk ⟨k, s, who, port, conn, n, b⟩) (h : IsB P w a0 b.length c0 b) (hm : b.length ≤ 1000000) (hk0 : -9223372036854775807 ≤ k) (hk1 : k ≤ 9223372036854775807) (h1 : k ≠ 1) (h2 : k ≠ 2) (h3 : k ≠ 3) (h4 : k ≠ 4) (h5 : k ≠ 5) (h6 : k ≠ 6) (h7 : k ≠ 7) (h8 : k ≠ 8) (h9 : k ≠ 9) :
    Calls Try.prog 33 #[.agg (evCells ⟨k, s, who, port, conn, n, b⟩ (.slice a0 b.length c0))] w fun e w' => ∃ v, e = .returned v ∧ w'.ownsRow w.heap.size 5 1 v (layE ⟨k, s, who, port, conn, n, b⟩).length ((layE ⟨k, s, who, port, conn, n, b⟩).map (Value.int .u8)) ∧ Chg (fun _ => False) w w' := by
  have hlay : layE ⟨k, s, who, port, conn, n, b⟩ = [(k - 1) % 256] := by simp [layE, nms, h1, h2, h3, h4, h5, h6, h7, h8, h9]
  have g1 : ((k : Int) == 1) = false := by simpa using h1
  have g2 : ((k : Int) == 2) = false := by simpa using h2
  have g3 : ((k : Int) == 3) = false := by simpa using h3
  have g4 : ((k : Int) == 4) = false := by simpa using h4
  have g5 : ((k : Int) == 5) = false := by simpa using h5
  have g6 : ((k : Int) == 6) = false := by simpa using h6
  have g7 : ((k : Int) == 7) = false := by simpa using h7
  have g8 : ((k : Int) == 8) = false := by simpa using h8
  have g9 : ((k : Int) == 9) = false := by simpa using h9
  have hL := Lib.hid hlay; clear hlay
  have hbd := h.bytes.2.1
  have PS := Lib.hid (put_isb (b.length : Int) 2 2 rfl (by omega) (by omega) (by omega))
  obtain ⟨o, ho⟩ : ∃ o, Obj.cells (evCells ⟨k, s, who, port, conn, n, b⟩ (.slice a0 b.length c0)) 34 = o := ⟨_, rfl⟩
  obtain ⟨W0, hW0⟩ : ∃ W, W = (w.alloc o).alloc (.cells #[.int .u8 ((k - 1) % 256)] 5) := ⟨_, rfl⟩
  have C0 : Chg (fun _ => False) w W0 := by rw [hW0]; exact ((Chg.refl _ w).alloc _).alloc _
  have E0 : W0.heap[w.heap.size]? = some (.cells (evCells ⟨k, s, who, port, conn, n, b⟩ (.slice a0 b.length c0)) 34 (0, 0)) := by
    rw [hW0, Below.heap_alloc _ _ _ (by simp), ho]; exact heap_alloc_new w _
  have IK : IsB (fun _ => True) W0 (some ⟨w.heap.size + 1, 0, none⟩) 1 1 [((k - 1) % 256)] := by
    have h1 := isb_lit (w.alloc o) [((k - 1) % 256)] 1 rfl (by omega) (by intro x hx; simp only [List.mem_singleton] at hx; subst hx; omega)
    rw [show (w.alloc o).heap.size = w.heap.size + 1 by simp] at h1
    rw [hW0]; exact h1
  have OK : W0.ownsRow w.heap.size 5 1 (.slice (some ⟨w.heap.size + 1, 0, none⟩) 1 1) 1 [.int .u8 ((k - 1) % 256)] := by
    have h1 := World.ownsRow_lit (base := w.heap.size) (e := 5) (size := 1) (w.alloc o) #[.int .u8 ((k - 1) % 256)] 1 (by simp) (by unfold maxLen; omega) rfl
    rw [show (w.alloc o).heap.size = w.heap.size + 1 by simp] at h1
    rw [hW0]; exact h1
  have OK' := Lib.hid OK; clear OK
  have IB := keptT h C0
  have d0 := cell_of_row W0 w.heap.size 0 _ _ _ E0
  have d1 := cell_of_row W0 w.heap.size 1 _ _ _ E0
  have d2 := cell_of_row W0 w.heap.size 2 _ _ _ E0
  have d3 := cell_of_row W0 w.heap.size 3 _ _ _ E0
  have d4 := cell_of_row W0 w.heap.size 4 _ _ _ E0
  have d5 := cell_of_row W0 w.heap.size 5 _ _ _ E0
  have d6 := cell_of_row W0 w.heap.size 6 _ _ _ E0
  simp only [evCells] at d0 d1 d2 d3 d4 d5 d6
  have hb6 : b.length ≤ 1000000 := hm
  simp only [evCells]
  have hcs : o = .cells #[.int .i64 k, .int .i64 s, .int .i64 who, .int .i64 port, .int .i64 conn, .int .i64 n, .slice a0 b.length c0] 34 := ho.symm
  replace hcs := Lib.hid hcs; replace ho := Lib.hid ho; replace hW0 := Lib.hid hW0; replace C0 := Lib.hid C0; replace E0 := Lib.hid E0; replace IK := Lib.hid IK; replace IB := Lib.hid IB; replace hbd := Lib.hid hbd
  clear h hm ok
  have w8 : IntKind.u8.wrap (k - 1) = (k - 1) % 256 := by rw [IntKind.wrap_u8]
  clear h1 h2 h3 h4 h5 h6 h7 h8 h9
  go_enter Try.func33, Try.ntmps33
  go_wp2_with fail
  rw [← hcs.out, ← hW0.out]
  refine (PS.out W0).mono ?_
  rintro e w1 ⟨az, cz, rfl, iz, cc⟩
  have E1 := (cc.block w.heap.size (lt_of_block E0.out) (fun h => h)).trans E0.out
  have e0 := cell_of_row w1 w.heap.size 0 _ _ _ E1
  have e1 := cell_of_row w1 w.heap.size 1 _ _ _ E1
  have e2 := cell_of_row w1 w.heap.size 2 _ _ _ E1
  have e3 := cell_of_row w1 w.heap.size 3 _ _ _ E1
  have e4 := cell_of_row w1 w.heap.size 4 _ _ _ E1
  have e5 := cell_of_row w1 w.heap.size 5 _ _ _ E1
  have e6 := cell_of_row w1 w.heap.size 6 _ _ _ E1
  simp only [evCells] at e0 e1 e2 e3 e4 e5 e6
  have IZ := Lib.hid iz; replace IB := Lib.hid (keptT IB.out cc); replace IK := Lib.hid (keptT IK.out cc); have C1 := Lib.hid (C0.out.trans cc); have RX := Lib.hid E1
  replace OK' := Lib.hid (owns_kept OK'.out cc (fun _ _ h => h))
  clear iz cc E1 d0 d1 d2 d3 d4 d5 d6
  go_wp2_with fail
  go_ret
  exact ⟨_, rfl, by rw [hL.out]; exact OK'.out, C1.out⟩

set_option maxRecDepth 100000 in
set_option maxHeartbeats 4000000 in
theorem rbytes_1 (s who port conn n : Int) (b : List Int) {P : Nat → Prop} (a0 : Option Addr) (c0 : Nat) (w : World) (ok : EvOk ⟨1, s, who, port, conn, n, b⟩) (h : IsB P w a0 b.length c0 b) (hm : b.length ≤ 1000000) :
    Calls Try.prog 33 #[.agg (evCells ⟨1, s, who, port, conn, n, b⟩ (.slice a0 b.length c0))] w fun e w' => ∃ v, e = .returned v ∧ w'.ownsRow w.heap.size 5 1 v (layE ⟨1, s, who, port, conn, n, b⟩).length ((layE ⟨1, s, who, port, conn, n, b⟩).map (Value.int .u8)) ∧ Chg (fun _ => False) w w' := by
  have hlay : layE ⟨1, s, who, port, conn, n, b⟩ = ([[0], putN who 4, putN port 2, putN (b.length : Int) 2, b] : List (List Int)).flatten := by simp [layE, nms, fld]
  have hlen : ([[0], putN who 4, putN port 2, putN (b.length : Int) 2, b] : List (List Int)).flatten.length ≤ 1000000000 := by rw [← hlay]; have := layE_len ⟨1, s, who, port, conn, n, b⟩; simp only at this; omega
  have hL := Lib.hid hlay; clear hlay
  have hbd := h.bytes.2.1
  have PS := Lib.hid (put_isb (b.length : Int) 2 2 rfl (by omega) (by omega) (by omega))
  have Pwho := Lib.hid (put_isb who 4 4 rfl ok.who0 ok.who1 (by omega))
  have Pport := Lib.hid (put_isb port 2 2 rfl ok.port0 ok.port1 (by omega))
  obtain ⟨o, ho⟩ : ∃ o, Obj.cells (evCells ⟨1, s, who, port, conn, n, b⟩ (.slice a0 b.length c0)) 34 = o := ⟨_, rfl⟩
  obtain ⟨W0, hW0⟩ : ∃ W, W = (w.alloc o).alloc (.cells #[.int .u8 0] 5) := ⟨_, rfl⟩
  have C0 : Chg (fun _ => False) w W0 := by rw [hW0]; exact ((Chg.refl _ w).alloc _).alloc _
  have E0 : W0.heap[w.heap.size]? = some (.cells (evCells ⟨1, s, who, port, conn, n, b⟩ (.slice a0 b.length c0)) 34 (0, 0)) := by
    rw [hW0, Below.heap_alloc _ _ _ (by simp), ho]; exact heap_alloc_new w _
  have IK : IsB (fun _ => True) W0 (some ⟨w.heap.size + 1, 0, none⟩) 1 1 [0] := by
    have h1 := isb_lit (w.alloc o) [0] 1 rfl (by omega) (by intro x hx; simp only [List.mem_singleton] at hx; subst hx; omega)
    rw [show (w.alloc o).heap.size = w.heap.size + 1 by simp] at h1
    rw [hW0]; exact h1
  have IB := keptT h C0
  have d0 := cell_of_row W0 w.heap.size 0 _ _ _ E0
  have d1 := cell_of_row W0 w.heap.size 1 _ _ _ E0
  have d2 := cell_of_row W0 w.heap.size 2 _ _ _ E0
  have d3 := cell_of_row W0 w.heap.size 3 _ _ _ E0
  have d4 := cell_of_row W0 w.heap.size 4 _ _ _ E0
  have d5 := cell_of_row W0 w.heap.size 5 _ _ _ E0
  have d6 := cell_of_row W0 w.heap.size 6 _ _ _ E0
  simp only [evCells] at d0 d1 d2 d3 d4 d5 d6
  have hb6 : b.length ≤ 1000000 := hm
  simp only [evCells]
  have hcs : o = .cells #[.int .i64 1, .int .i64 s, .int .i64 who, .int .i64 port, .int .i64 conn, .int .i64 n, .slice a0 b.length c0] 34 := ho.symm
  replace hcs := Lib.hid hcs; replace ho := Lib.hid ho; replace hW0 := Lib.hid hW0; replace C0 := Lib.hid C0; replace E0 := Lib.hid E0; replace IK := Lib.hid IK; replace IB := Lib.hid IB; replace hbd := Lib.hid hbd
  clear h hm ok
  go_enter Try.func33, Try.ntmps33
  go_wp2_with fail
  rw [← hcs.out, ← hW0.out]
  refine (PS.out W0).mono ?_
  rintro e w1 ⟨az, cz, rfl, iz, cc⟩
  have E1 := (cc.block w.heap.size (lt_of_block E0.out) (fun h => h)).trans E0.out
  have e0 := cell_of_row w1 w.heap.size 0 _ _ _ E1
  have e1 := cell_of_row w1 w.heap.size 1 _ _ _ E1
  have e2 := cell_of_row w1 w.heap.size 2 _ _ _ E1
  have e3 := cell_of_row w1 w.heap.size 3 _ _ _ E1
  have e4 := cell_of_row w1 w.heap.size 4 _ _ _ E1
  have e5 := cell_of_row w1 w.heap.size 5 _ _ _ E1
  have e6 := cell_of_row w1 w.heap.size 6 _ _ _ E1
  simp only [evCells] at e0 e1 e2 e3 e4 e5 e6
  have IZ := Lib.hid iz; replace IB := Lib.hid (keptT IB.out cc); replace IK := Lib.hid (keptT IK.out cc); have C1 := Lib.hid (C0.out.trans cc); have RX := Lib.hid E1
  clear iz cc E1 d0 d1 d2 d3 d4 d5 d6
  go_wp2_with fail
  clear e0 e1 e2 e3 e4 e5 e6
  have CD : Chg (fun _ => False) w1 w1.drew := (Chg.refl _ w1).drewN 1
  replace IZ := Lib.hid (keptT IZ.out CD); replace IB := Lib.hid (keptT IB.out CD); replace IK := Lib.hid (keptT IK.out CD); replace C1 := Lib.hid (C1.out.trans CD); replace RX := Lib.hid (show w1.drew.heap[w.heap.size]? = _ from RX.out)
  clear CD
  go_region_held3 (fun w' => w'.cell? ⟨w.heap.size, 0, none⟩ = some (.int .i64 1) ∧ w'.cell? ⟨w.heap.size, 1, none⟩ = some (.int .i64 s) ∧ w'.cell? ⟨w.heap.size, 2, none⟩ = some (.int .i64 who) ∧ w'.cell? ⟨w.heap.size, 3, none⟩ = some (.int .i64 port) ∧ w'.cell? ⟨w.heap.size, 4, none⟩ = some (.int .i64 conn) ∧ w'.cell? ⟨w.heap.size, 5, none⟩ = some (.int .i64 n) ∧ w'.cell? ⟨w.heap.size, 6, none⟩ = some (.slice a0 b.length c0))
    (first | exact c7_of RX.out | exact c7_of ((Below.heap_alloc _ _ _ (lt_of_block RX.out)).trans RX.out))
    (first
      | (go_at_call 42; (with_reducible refine (Pwho.out _).mono ?_); rintro e wwho ⟨pawho, pcwho, rfl, ii, cc⟩; (try replace Iport := Lib.hid (keptT Iport.out cc)); have Iwho := Lib.hid ii; replace IZ := Lib.hid (keptT IZ.out cc); replace IB := Lib.hid (keptT IB.out cc); replace IK := Lib.hid (keptT IK.out cc); replace C1 := Lib.hid (C1.out.trans cc); replace RX := Lib.hid ((cc.block w.heap.size (lt_of_block RX.out) (fun h => h)).trans RX.out); clear ii cc)
      | (go_at_call 42; (with_reducible refine (Pport.out _).mono ?_); rintro e wport ⟨paport, pcport, rfl, ii, cc⟩; (try replace Iwho := Lib.hid (keptT Iwho.out cc)); have Iport := Lib.hid ii; replace IZ := Lib.hid (keptT IZ.out cc); replace IB := Lib.hid (keptT IB.out cc); replace IK := Lib.hid (keptT IK.out cc); replace C1 := Lib.hid (C1.out.trans cc); replace RX := Lib.hid ((cc.block w.heap.size (lt_of_block RX.out) (fun h => h)).trans RX.out); clear ii cc)
      | (go_at_call 43; refine (join_any _ 5 [[0], putN who 4, putN port 2, putN (b.length : Int) 2, b] _ rfl (parts_of (vs := [(.slice (some ⟨w.heap.size + 1, 0, none⟩) 1 1), (.slice pawho 4 pcwho), (.slice paport 2 pcport), (.slice az 2 cz), (.slice a0 b.length c0)]) ⟨⟨_, _, rfl, IK.out⟩, ⟨⟨_, _, rfl, Iwho.out⟩, ⟨⟨_, _, rfl, Iport.out⟩, ⟨⟨_, _, rfl, IZ.out⟩, ⟨⟨_, _, rfl, IsB.weak IB.out (fun _ _ _ => trivial)⟩, trivial⟩⟩⟩⟩⟩) hlen (by omega)).mono ?_; rintro e w9 ⟨v9, rfl, o9, cc⟩; obtain ⟨a9, l9, c9, hv9⟩ : ∃ a l c, v9 = Value.slice a l c := (by (obtain ⟨a, c, h⟩ := own_form o9; exact ⟨_, _, _, h⟩)); subst hv9; have O9 := Lib.hid (o9.mono (C1.out.alloc _).size); replace C1 := Lib.hid ((C1.out.alloc _).trans cc); replace RX := Lib.hid ((cc.block w.heap.size (Nat.lt_of_lt_of_le (lt_of_block RX.out) (by simp)) (fun h => h)).trans ((Below.heap_alloc _ _ _ (lt_of_block RX.out)).trans RX.out)); clear o9 cc))
  all_goals
    go_wp2_with fail
    go_ret
    exact ⟨_, rfl, by rw [hL.out]; exact O9.out, C1.out⟩

set_option maxRecDepth 100000 in
set_option maxHeartbeats 4000000 in
theorem rbytes_2 (s who port conn n : Int) (b : List Int) {P : Nat → Prop} (a0 : Option Addr) (c0 : Nat) (w : World) (ok : EvOk ⟨2, s, who, port, conn, n, b⟩) (h : IsB P w a0 b.length c0 b) (hm : b.length ≤ 1000000) :
    Calls Try.prog 33 #[.agg (evCells ⟨2, s, who, port, conn, n, b⟩ (.slice a0 b.length c0))] w fun e w' => ∃ v, e = .returned v ∧ w'.ownsRow w.heap.size 5 1 v (layE ⟨2, s, who, port, conn, n, b⟩).length ((layE ⟨2, s, who, port, conn, n, b⟩).map (Value.int .u8)) ∧ Chg (fun _ => False) w w' := by
  have hlay : layE ⟨2, s, who, port, conn, n, b⟩ = ([[1], putN s 1, putN who 4] : List (List Int)).flatten := by simp [layE, nms, fld]
  have hlen : ([[1], putN s 1, putN who 4] : List (List Int)).flatten.length ≤ 1000000000 := by rw [← hlay]; have := layE_len ⟨2, s, who, port, conn, n, b⟩; simp only at this; omega
  have hL := Lib.hid hlay; clear hlay
  have hbd := h.bytes.2.1
  have PS := Lib.hid (put_isb (b.length : Int) 2 2 rfl (by omega) (by omega) (by omega))
  have Ps := Lib.hid (put_isb s 1 1 rfl ok.s0 ok.s1 (by omega))
  have Pwho := Lib.hid (put_isb who 4 4 rfl ok.who0 ok.who1 (by omega))
  obtain ⟨o, ho⟩ : ∃ o, Obj.cells (evCells ⟨2, s, who, port, conn, n, b⟩ (.slice a0 b.length c0)) 34 = o := ⟨_, rfl⟩
  obtain ⟨W0, hW0⟩ : ∃ W, W = (w.alloc o).alloc (.cells #[.int .u8 1] 5) := ⟨_, rfl⟩
  have C0 : Chg (fun _ => False) w W0 := by rw [hW0]; exact ((Chg.refl _ w).alloc _).alloc _
  have E0 : W0.heap[w.heap.size]? = some (.cells (evCells ⟨2, s, who, port, conn, n, b⟩ (.slice a0 b.length c0)) 34 (0, 0)) := by
    rw [hW0, Below.heap_alloc _ _ _ (by simp), ho]; exact heap_alloc_new w _
  have IK : IsB (fun _ => True) W0 (some ⟨w.heap.size + 1, 0, none⟩) 1 1 [1] := by
    have h1 := isb_lit (w.alloc o) [1] 1 rfl (by omega) (by intro x hx; simp only [List.mem_singleton] at hx; subst hx; omega)
    rw [show (w.alloc o).heap.size = w.heap.size + 1 by simp] at h1
    rw [hW0]; exact h1
  have IB := keptT h C0
  have d0 := cell_of_row W0 w.heap.size 0 _ _ _ E0
  have d1 := cell_of_row W0 w.heap.size 1 _ _ _ E0
  have d2 := cell_of_row W0 w.heap.size 2 _ _ _ E0
  have d3 := cell_of_row W0 w.heap.size 3 _ _ _ E0
  have d4 := cell_of_row W0 w.heap.size 4 _ _ _ E0
  have d5 := cell_of_row W0 w.heap.size 5 _ _ _ E0
  have d6 := cell_of_row W0 w.heap.size 6 _ _ _ E0
  simp only [evCells] at d0 d1 d2 d3 d4 d5 d6
  have hb6 : b.length ≤ 1000000 := hm
  simp only [evCells]
  have hcs : o = .cells #[.int .i64 2, .int .i64 s, .int .i64 who, .int .i64 port, .int .i64 conn, .int .i64 n, .slice a0 b.length c0] 34 := ho.symm
  replace hcs := Lib.hid hcs; replace ho := Lib.hid ho; replace hW0 := Lib.hid hW0; replace C0 := Lib.hid C0; replace E0 := Lib.hid E0; replace IK := Lib.hid IK; replace IB := Lib.hid IB; replace hbd := Lib.hid hbd
  clear h hm ok
  go_enter Try.func33, Try.ntmps33
  go_wp2_with fail
  rw [← hcs.out, ← hW0.out]
  refine (PS.out W0).mono ?_
  rintro e w1 ⟨az, cz, rfl, iz, cc⟩
  have E1 := (cc.block w.heap.size (lt_of_block E0.out) (fun h => h)).trans E0.out
  have e0 := cell_of_row w1 w.heap.size 0 _ _ _ E1
  have e1 := cell_of_row w1 w.heap.size 1 _ _ _ E1
  have e2 := cell_of_row w1 w.heap.size 2 _ _ _ E1
  have e3 := cell_of_row w1 w.heap.size 3 _ _ _ E1
  have e4 := cell_of_row w1 w.heap.size 4 _ _ _ E1
  have e5 := cell_of_row w1 w.heap.size 5 _ _ _ E1
  have e6 := cell_of_row w1 w.heap.size 6 _ _ _ E1
  simp only [evCells] at e0 e1 e2 e3 e4 e5 e6
  have IZ := Lib.hid iz; replace IB := Lib.hid (keptT IB.out cc); replace IK := Lib.hid (keptT IK.out cc); have C1 := Lib.hid (C0.out.trans cc); have RX := Lib.hid E1
  clear iz cc E1 d0 d1 d2 d3 d4 d5 d6
  go_wp2_with fail
  clear e0 e1 e2 e3 e4 e5 e6
  have CD : Chg (fun _ => False) w1 w1.drew := (Chg.refl _ w1).drewN 1
  replace IZ := Lib.hid (keptT IZ.out CD); replace IB := Lib.hid (keptT IB.out CD); replace IK := Lib.hid (keptT IK.out CD); replace C1 := Lib.hid (C1.out.trans CD); replace RX := Lib.hid (show w1.drew.heap[w.heap.size]? = _ from RX.out)
  clear CD
  go_region_held3 (fun w' => w'.cell? ⟨w.heap.size, 0, none⟩ = some (.int .i64 2) ∧ w'.cell? ⟨w.heap.size, 1, none⟩ = some (.int .i64 s) ∧ w'.cell? ⟨w.heap.size, 2, none⟩ = some (.int .i64 who) ∧ w'.cell? ⟨w.heap.size, 3, none⟩ = some (.int .i64 port) ∧ w'.cell? ⟨w.heap.size, 4, none⟩ = some (.int .i64 conn) ∧ w'.cell? ⟨w.heap.size, 5, none⟩ = some (.int .i64 n) ∧ w'.cell? ⟨w.heap.size, 6, none⟩ = some (.slice a0 b.length c0))
    (first | exact c7_of RX.out | exact c7_of ((Below.heap_alloc _ _ _ (lt_of_block RX.out)).trans RX.out))
    (first
      | (go_at_call 42; (with_reducible refine (Ps.out _).mono ?_); rintro e ws ⟨pas, pcs, rfl, ii, cc⟩; (try replace Iwho := Lib.hid (keptT Iwho.out cc)); have Is := Lib.hid ii; replace IZ := Lib.hid (keptT IZ.out cc); replace IB := Lib.hid (keptT IB.out cc); replace IK := Lib.hid (keptT IK.out cc); replace C1 := Lib.hid (C1.out.trans cc); replace RX := Lib.hid ((cc.block w.heap.size (lt_of_block RX.out) (fun h => h)).trans RX.out); clear ii cc)
      | (go_at_call 42; (with_reducible refine (Pwho.out _).mono ?_); rintro e wwho ⟨pawho, pcwho, rfl, ii, cc⟩; (try replace Is := Lib.hid (keptT Is.out cc)); have Iwho := Lib.hid ii; replace IZ := Lib.hid (keptT IZ.out cc); replace IB := Lib.hid (keptT IB.out cc); replace IK := Lib.hid (keptT IK.out cc); replace C1 := Lib.hid (C1.out.trans cc); replace RX := Lib.hid ((cc.block w.heap.size (lt_of_block RX.out) (fun h => h)).trans RX.out); clear ii cc)
      | (go_at_call 43; refine (join_any _ 3 [[1], putN s 1, putN who 4] _ rfl (parts_of (vs := [(.slice (some ⟨w.heap.size + 1, 0, none⟩) 1 1), (.slice pas 1 pcs), (.slice pawho 4 pcwho)]) ⟨⟨_, _, rfl, IK.out⟩, ⟨⟨_, _, rfl, Is.out⟩, ⟨⟨_, _, rfl, Iwho.out⟩, trivial⟩⟩⟩) hlen (by omega)).mono ?_; rintro e w9 ⟨v9, rfl, o9, cc⟩; obtain ⟨a9, l9, c9, hv9⟩ : ∃ a l c, v9 = Value.slice a l c := (by (obtain ⟨a, c, h⟩ := own_form o9; exact ⟨_, _, _, h⟩)); subst hv9; have O9 := Lib.hid (o9.mono (C1.out.alloc _).size); replace C1 := Lib.hid ((C1.out.alloc _).trans cc); replace RX := Lib.hid ((cc.block w.heap.size (Nat.lt_of_lt_of_le (lt_of_block RX.out) (by simp)) (fun h => h)).trans ((Below.heap_alloc _ _ _ (lt_of_block RX.out)).trans RX.out)); clear o9 cc))
  all_goals
    go_wp2_with fail
    go_ret
    exact ⟨_, rfl, by rw [hL.out]; exact O9.out, C1.out⟩

set_option maxRecDepth 100000 in
set_option maxHeartbeats 4000000 in
theorem rbytes_3 (s who port conn n : Int) (b : List Int) {P : Nat → Prop} (a0 : Option Addr) (c0 : Nat) (w : World) (ok : EvOk ⟨3, s, who, port, conn, n, b⟩) (h : IsB P w a0 b.length c0 b) (hm : b.length ≤ 1000000) :
    Calls Try.prog 33 #[.agg (evCells ⟨3, s, who, port, conn, n, b⟩ (.slice a0 b.length c0))] w fun e w' => ∃ v, e = .returned v ∧ w'.ownsRow w.heap.size 5 1 v (layE ⟨3, s, who, port, conn, n, b⟩).length ((layE ⟨3, s, who, port, conn, n, b⟩).map (Value.int .u8)) ∧ Chg (fun _ => False) w w' := by
  have hlay : layE ⟨3, s, who, port, conn, n, b⟩ = ([[2], putN conn 2, putN (b.length : Int) 2, b] : List (List Int)).flatten := by simp [layE, nms, fld]
  have hlen : ([[2], putN conn 2, putN (b.length : Int) 2, b] : List (List Int)).flatten.length ≤ 1000000000 := by rw [← hlay]; have := layE_len ⟨3, s, who, port, conn, n, b⟩; simp only at this; omega
  have hL := Lib.hid hlay; clear hlay
  have hbd := h.bytes.2.1
  have PS := Lib.hid (put_isb (b.length : Int) 2 2 rfl (by omega) (by omega) (by omega))
  have Pconn := Lib.hid (put_isb conn 2 2 rfl ok.conn0 ok.conn1 (by omega))
  obtain ⟨o, ho⟩ : ∃ o, Obj.cells (evCells ⟨3, s, who, port, conn, n, b⟩ (.slice a0 b.length c0)) 34 = o := ⟨_, rfl⟩
  obtain ⟨W0, hW0⟩ : ∃ W, W = (w.alloc o).alloc (.cells #[.int .u8 2] 5) := ⟨_, rfl⟩
  have C0 : Chg (fun _ => False) w W0 := by rw [hW0]; exact ((Chg.refl _ w).alloc _).alloc _
  have E0 : W0.heap[w.heap.size]? = some (.cells (evCells ⟨3, s, who, port, conn, n, b⟩ (.slice a0 b.length c0)) 34 (0, 0)) := by
    rw [hW0, Below.heap_alloc _ _ _ (by simp), ho]; exact heap_alloc_new w _
  have IK : IsB (fun _ => True) W0 (some ⟨w.heap.size + 1, 0, none⟩) 1 1 [2] := by
    have h1 := isb_lit (w.alloc o) [2] 1 rfl (by omega) (by intro x hx; simp only [List.mem_singleton] at hx; subst hx; omega)
    rw [show (w.alloc o).heap.size = w.heap.size + 1 by simp] at h1
    rw [hW0]; exact h1
  have IB := keptT h C0
  have d0 := cell_of_row W0 w.heap.size 0 _ _ _ E0
  have d1 := cell_of_row W0 w.heap.size 1 _ _ _ E0
  have d2 := cell_of_row W0 w.heap.size 2 _ _ _ E0
  have d3 := cell_of_row W0 w.heap.size 3 _ _ _ E0
  have d4 := cell_of_row W0 w.heap.size 4 _ _ _ E0
  have d5 := cell_of_row W0 w.heap.size 5 _ _ _ E0
  have d6 := cell_of_row W0 w.heap.size 6 _ _ _ E0
  simp only [evCells] at d0 d1 d2 d3 d4 d5 d6
  have hb6 : b.length ≤ 1000000 := hm
  simp only [evCells]
  have hcs : o = .cells #[.int .i64 3, .int .i64 s, .int .i64 who, .int .i64 port, .int .i64 conn, .int .i64 n, .slice a0 b.length c0] 34 := ho.symm
  replace hcs := Lib.hid hcs; replace ho := Lib.hid ho; replace hW0 := Lib.hid hW0; replace C0 := Lib.hid C0; replace E0 := Lib.hid E0; replace IK := Lib.hid IK; replace IB := Lib.hid IB; replace hbd := Lib.hid hbd
  clear h hm ok
  go_enter Try.func33, Try.ntmps33
  go_wp2_with fail
  rw [← hcs.out, ← hW0.out]
  refine (PS.out W0).mono ?_
  rintro e w1 ⟨az, cz, rfl, iz, cc⟩
  have E1 := (cc.block w.heap.size (lt_of_block E0.out) (fun h => h)).trans E0.out
  have e0 := cell_of_row w1 w.heap.size 0 _ _ _ E1
  have e1 := cell_of_row w1 w.heap.size 1 _ _ _ E1
  have e2 := cell_of_row w1 w.heap.size 2 _ _ _ E1
  have e3 := cell_of_row w1 w.heap.size 3 _ _ _ E1
  have e4 := cell_of_row w1 w.heap.size 4 _ _ _ E1
  have e5 := cell_of_row w1 w.heap.size 5 _ _ _ E1
  have e6 := cell_of_row w1 w.heap.size 6 _ _ _ E1
  simp only [evCells] at e0 e1 e2 e3 e4 e5 e6
  have IZ := Lib.hid iz; replace IB := Lib.hid (keptT IB.out cc); replace IK := Lib.hid (keptT IK.out cc); have C1 := Lib.hid (C0.out.trans cc); have RX := Lib.hid E1
  clear iz cc E1 d0 d1 d2 d3 d4 d5 d6
  go_wp2_with fail
  clear e0 e1 e2 e3 e4 e5 e6
  have CD : Chg (fun _ => False) w1 w1.drew := (Chg.refl _ w1).drewN 1
  replace IZ := Lib.hid (keptT IZ.out CD); replace IB := Lib.hid (keptT IB.out CD); replace IK := Lib.hid (keptT IK.out CD); replace C1 := Lib.hid (C1.out.trans CD); replace RX := Lib.hid (show w1.drew.heap[w.heap.size]? = _ from RX.out)
  clear CD
  go_region_held3 (fun w' => w'.cell? ⟨w.heap.size, 0, none⟩ = some (.int .i64 3) ∧ w'.cell? ⟨w.heap.size, 1, none⟩ = some (.int .i64 s) ∧ w'.cell? ⟨w.heap.size, 2, none⟩ = some (.int .i64 who) ∧ w'.cell? ⟨w.heap.size, 3, none⟩ = some (.int .i64 port) ∧ w'.cell? ⟨w.heap.size, 4, none⟩ = some (.int .i64 conn) ∧ w'.cell? ⟨w.heap.size, 5, none⟩ = some (.int .i64 n) ∧ w'.cell? ⟨w.heap.size, 6, none⟩ = some (.slice a0 b.length c0))
    (first | exact c7_of RX.out | exact c7_of ((Below.heap_alloc _ _ _ (lt_of_block RX.out)).trans RX.out))
    (first
      | (go_at_call 42; (with_reducible refine (Pconn.out _).mono ?_); rintro e wconn ⟨paconn, pcconn, rfl, ii, cc⟩;  have Iconn := Lib.hid ii; replace IZ := Lib.hid (keptT IZ.out cc); replace IB := Lib.hid (keptT IB.out cc); replace IK := Lib.hid (keptT IK.out cc); replace C1 := Lib.hid (C1.out.trans cc); replace RX := Lib.hid ((cc.block w.heap.size (lt_of_block RX.out) (fun h => h)).trans RX.out); clear ii cc)
      | (go_at_call 43; refine (join_any _ 4 [[2], putN conn 2, putN (b.length : Int) 2, b] _ rfl (parts_of (vs := [(.slice (some ⟨w.heap.size + 1, 0, none⟩) 1 1), (.slice paconn 2 pcconn), (.slice az 2 cz), (.slice a0 b.length c0)]) ⟨⟨_, _, rfl, IK.out⟩, ⟨⟨_, _, rfl, Iconn.out⟩, ⟨⟨_, _, rfl, IZ.out⟩, ⟨⟨_, _, rfl, IsB.weak IB.out (fun _ _ _ => trivial)⟩, trivial⟩⟩⟩⟩) hlen (by omega)).mono ?_; rintro e w9 ⟨v9, rfl, o9, cc⟩; obtain ⟨a9, l9, c9, hv9⟩ : ∃ a l c, v9 = Value.slice a l c := (by (obtain ⟨a, c, h⟩ := own_form o9; exact ⟨_, _, _, h⟩)); subst hv9; have O9 := Lib.hid (o9.mono (C1.out.alloc _).size); replace C1 := Lib.hid ((C1.out.alloc _).trans cc); replace RX := Lib.hid ((cc.block w.heap.size (Nat.lt_of_lt_of_le (lt_of_block RX.out) (by simp)) (fun h => h)).trans ((Below.heap_alloc _ _ _ (lt_of_block RX.out)).trans RX.out)); clear o9 cc))
  all_goals
    go_wp2_with fail
    go_ret
    exact ⟨_, rfl, by rw [hL.out]; exact O9.out, C1.out⟩

set_option maxRecDepth 100000 in
set_option maxHeartbeats 4000000 in
theorem rbytes_4 (s who port conn n : Int) (b : List Int) {P : Nat → Prop} (a0 : Option Addr) (c0 : Nat) (w : World) (ok : EvOk ⟨4, s, who, port, conn, n, b⟩) (h : IsB P w a0 b.length c0 b) (hm : b.length ≤ 1000000) :
    Calls Try.prog 33 #[.agg (evCells ⟨4, s, who, port, conn, n, b⟩ (.slice a0 b.length c0))] w fun e w' => ∃ v, e = .returned v ∧ w'.ownsRow w.heap.size 5 1 v (layE ⟨4, s, who, port, conn, n, b⟩).length ((layE ⟨4, s, who, port, conn, n, b⟩).map (Value.int .u8)) ∧ Chg (fun _ => False) w w' := by
  have hlay : layE ⟨4, s, who, port, conn, n, b⟩ = ([[3], putN conn 2] : List (List Int)).flatten := by simp [layE, nms, fld]
  have hlen : ([[3], putN conn 2] : List (List Int)).flatten.length ≤ 1000000000 := by rw [← hlay]; have := layE_len ⟨4, s, who, port, conn, n, b⟩; simp only at this; omega
  have hL := Lib.hid hlay; clear hlay
  have hbd := h.bytes.2.1
  have PS := Lib.hid (put_isb (b.length : Int) 2 2 rfl (by omega) (by omega) (by omega))
  have Pconn := Lib.hid (put_isb conn 2 2 rfl ok.conn0 ok.conn1 (by omega))
  obtain ⟨o, ho⟩ : ∃ o, Obj.cells (evCells ⟨4, s, who, port, conn, n, b⟩ (.slice a0 b.length c0)) 34 = o := ⟨_, rfl⟩
  obtain ⟨W0, hW0⟩ : ∃ W, W = (w.alloc o).alloc (.cells #[.int .u8 3] 5) := ⟨_, rfl⟩
  have C0 : Chg (fun _ => False) w W0 := by rw [hW0]; exact ((Chg.refl _ w).alloc _).alloc _
  have E0 : W0.heap[w.heap.size]? = some (.cells (evCells ⟨4, s, who, port, conn, n, b⟩ (.slice a0 b.length c0)) 34 (0, 0)) := by
    rw [hW0, Below.heap_alloc _ _ _ (by simp), ho]; exact heap_alloc_new w _
  have IK : IsB (fun _ => True) W0 (some ⟨w.heap.size + 1, 0, none⟩) 1 1 [3] := by
    have h1 := isb_lit (w.alloc o) [3] 1 rfl (by omega) (by intro x hx; simp only [List.mem_singleton] at hx; subst hx; omega)
    rw [show (w.alloc o).heap.size = w.heap.size + 1 by simp] at h1
    rw [hW0]; exact h1
  have IB := keptT h C0
  have d0 := cell_of_row W0 w.heap.size 0 _ _ _ E0
  have d1 := cell_of_row W0 w.heap.size 1 _ _ _ E0
  have d2 := cell_of_row W0 w.heap.size 2 _ _ _ E0
  have d3 := cell_of_row W0 w.heap.size 3 _ _ _ E0
  have d4 := cell_of_row W0 w.heap.size 4 _ _ _ E0
  have d5 := cell_of_row W0 w.heap.size 5 _ _ _ E0
  have d6 := cell_of_row W0 w.heap.size 6 _ _ _ E0
  simp only [evCells] at d0 d1 d2 d3 d4 d5 d6
  have hb6 : b.length ≤ 1000000 := hm
  simp only [evCells]
  have hcs : o = .cells #[.int .i64 4, .int .i64 s, .int .i64 who, .int .i64 port, .int .i64 conn, .int .i64 n, .slice a0 b.length c0] 34 := ho.symm
  replace hcs := Lib.hid hcs; replace ho := Lib.hid ho; replace hW0 := Lib.hid hW0; replace C0 := Lib.hid C0; replace E0 := Lib.hid E0; replace IK := Lib.hid IK; replace IB := Lib.hid IB; replace hbd := Lib.hid hbd
  clear h hm ok
  go_enter Try.func33, Try.ntmps33
  go_wp2_with fail
  rw [← hcs.out, ← hW0.out]
  refine (PS.out W0).mono ?_
  rintro e w1 ⟨az, cz, rfl, iz, cc⟩
  have E1 := (cc.block w.heap.size (lt_of_block E0.out) (fun h => h)).trans E0.out
  have e0 := cell_of_row w1 w.heap.size 0 _ _ _ E1
  have e1 := cell_of_row w1 w.heap.size 1 _ _ _ E1
  have e2 := cell_of_row w1 w.heap.size 2 _ _ _ E1
  have e3 := cell_of_row w1 w.heap.size 3 _ _ _ E1
  have e4 := cell_of_row w1 w.heap.size 4 _ _ _ E1
  have e5 := cell_of_row w1 w.heap.size 5 _ _ _ E1
  have e6 := cell_of_row w1 w.heap.size 6 _ _ _ E1
  simp only [evCells] at e0 e1 e2 e3 e4 e5 e6
  have IZ := Lib.hid iz; replace IB := Lib.hid (keptT IB.out cc); replace IK := Lib.hid (keptT IK.out cc); have C1 := Lib.hid (C0.out.trans cc); have RX := Lib.hid E1
  clear iz cc E1 d0 d1 d2 d3 d4 d5 d6
  go_wp2_with fail
  refine (Pconn.out _).mono ?_
  rintro e w2 ⟨paconn, pcconn, rfl, ii, cc⟩
  have Iconn := Lib.hid ii; replace IK := Lib.hid (keptT IK.out cc); replace C1 := Lib.hid (C1.out.trans cc)
  clear ii cc e0 e1 e2 e3 e4 e5 e6
  go_wp2_with fail
  refine (join_any _ 2 [[3], putN conn 2] _ rfl (parts_of (vs := [(.slice (some ⟨w.heap.size + 1, 0, none⟩) 1 1), (.slice paconn 2 pcconn)]) ⟨⟨_, _, rfl, IK.out⟩, ⟨⟨_, _, rfl, Iconn.out⟩, trivial⟩⟩) hlen (by omega)).mono ?_
  rintro e w9 ⟨v9, rfl, o9, cc⟩
  obtain ⟨a9, l9, c9, hv9⟩ : ∃ a l c, v9 = Value.slice a l c := by (obtain ⟨a, c, h⟩ := own_form o9; exact ⟨_, _, _, h⟩)
  subst hv9
  have O9 := Lib.hid (o9.mono (C1.out.alloc _).size); replace C1 := Lib.hid ((C1.out.alloc _).trans cc)
  clear o9 cc
  go_wp2_with fail
  go_ret
  exact ⟨_, rfl, by rw [hL.out]; exact O9.out, C1.out⟩

set_option maxRecDepth 100000 in
set_option maxHeartbeats 4000000 in
theorem rbytes_5 (s who port conn n : Int) (b : List Int) {P : Nat → Prop} (a0 : Option Addr) (c0 : Nat) (w : World) (ok : EvOk ⟨5, s, who, port, conn, n, b⟩) (h : IsB P w a0 b.length c0 b) (hm : b.length ≤ 1000000) :
    Calls Try.prog 33 #[.agg (evCells ⟨5, s, who, port, conn, n, b⟩ (.slice a0 b.length c0))] w fun e w' => ∃ v, e = .returned v ∧ w'.ownsRow w.heap.size 5 1 v (layE ⟨5, s, who, port, conn, n, b⟩).length ((layE ⟨5, s, who, port, conn, n, b⟩).map (Value.int .u8)) ∧ Chg (fun _ => False) w w' := by
  have hlay : layE ⟨5, s, who, port, conn, n, b⟩ = ([[4], putN conn 2, putN n 2] : List (List Int)).flatten := by simp [layE, nms, fld]
  have hlen : ([[4], putN conn 2, putN n 2] : List (List Int)).flatten.length ≤ 1000000000 := by rw [← hlay]; have := layE_len ⟨5, s, who, port, conn, n, b⟩; simp only at this; omega
  have hL := Lib.hid hlay; clear hlay
  have hbd := h.bytes.2.1
  have PS := Lib.hid (put_isb (b.length : Int) 2 2 rfl (by omega) (by omega) (by omega))
  have Pconn := Lib.hid (put_isb conn 2 2 rfl ok.conn0 ok.conn1 (by omega))
  have Pn := Lib.hid (put_isb n 2 2 rfl ok.n0 ok.n1 (by omega))
  obtain ⟨o, ho⟩ : ∃ o, Obj.cells (evCells ⟨5, s, who, port, conn, n, b⟩ (.slice a0 b.length c0)) 34 = o := ⟨_, rfl⟩
  obtain ⟨W0, hW0⟩ : ∃ W, W = (w.alloc o).alloc (.cells #[.int .u8 4] 5) := ⟨_, rfl⟩
  have C0 : Chg (fun _ => False) w W0 := by rw [hW0]; exact ((Chg.refl _ w).alloc _).alloc _
  have E0 : W0.heap[w.heap.size]? = some (.cells (evCells ⟨5, s, who, port, conn, n, b⟩ (.slice a0 b.length c0)) 34 (0, 0)) := by
    rw [hW0, Below.heap_alloc _ _ _ (by simp), ho]; exact heap_alloc_new w _
  have IK : IsB (fun _ => True) W0 (some ⟨w.heap.size + 1, 0, none⟩) 1 1 [4] := by
    have h1 := isb_lit (w.alloc o) [4] 1 rfl (by omega) (by intro x hx; simp only [List.mem_singleton] at hx; subst hx; omega)
    rw [show (w.alloc o).heap.size = w.heap.size + 1 by simp] at h1
    rw [hW0]; exact h1
  have IB := keptT h C0
  have d0 := cell_of_row W0 w.heap.size 0 _ _ _ E0
  have d1 := cell_of_row W0 w.heap.size 1 _ _ _ E0
  have d2 := cell_of_row W0 w.heap.size 2 _ _ _ E0
  have d3 := cell_of_row W0 w.heap.size 3 _ _ _ E0
  have d4 := cell_of_row W0 w.heap.size 4 _ _ _ E0
  have d5 := cell_of_row W0 w.heap.size 5 _ _ _ E0
  have d6 := cell_of_row W0 w.heap.size 6 _ _ _ E0
  simp only [evCells] at d0 d1 d2 d3 d4 d5 d6
  have hb6 : b.length ≤ 1000000 := hm
  simp only [evCells]
  have hcs : o = .cells #[.int .i64 5, .int .i64 s, .int .i64 who, .int .i64 port, .int .i64 conn, .int .i64 n, .slice a0 b.length c0] 34 := ho.symm
  replace hcs := Lib.hid hcs; replace ho := Lib.hid ho; replace hW0 := Lib.hid hW0; replace C0 := Lib.hid C0; replace E0 := Lib.hid E0; replace IK := Lib.hid IK; replace IB := Lib.hid IB; replace hbd := Lib.hid hbd
  clear h hm ok
  go_enter Try.func33, Try.ntmps33
  go_wp2_with fail
  rw [← hcs.out, ← hW0.out]
  refine (PS.out W0).mono ?_
  rintro e w1 ⟨az, cz, rfl, iz, cc⟩
  have E1 := (cc.block w.heap.size (lt_of_block E0.out) (fun h => h)).trans E0.out
  have e0 := cell_of_row w1 w.heap.size 0 _ _ _ E1
  have e1 := cell_of_row w1 w.heap.size 1 _ _ _ E1
  have e2 := cell_of_row w1 w.heap.size 2 _ _ _ E1
  have e3 := cell_of_row w1 w.heap.size 3 _ _ _ E1
  have e4 := cell_of_row w1 w.heap.size 4 _ _ _ E1
  have e5 := cell_of_row w1 w.heap.size 5 _ _ _ E1
  have e6 := cell_of_row w1 w.heap.size 6 _ _ _ E1
  simp only [evCells] at e0 e1 e2 e3 e4 e5 e6
  have IZ := Lib.hid iz; replace IB := Lib.hid (keptT IB.out cc); replace IK := Lib.hid (keptT IK.out cc); have C1 := Lib.hid (C0.out.trans cc); have RX := Lib.hid E1
  clear iz cc E1 d0 d1 d2 d3 d4 d5 d6
  go_wp2_with fail
  clear e0 e1 e2 e3 e4 e5 e6
  have CD : Chg (fun _ => False) w1 w1.drew := (Chg.refl _ w1).drewN 1
  replace IZ := Lib.hid (keptT IZ.out CD); replace IB := Lib.hid (keptT IB.out CD); replace IK := Lib.hid (keptT IK.out CD); replace C1 := Lib.hid (C1.out.trans CD); replace RX := Lib.hid (show w1.drew.heap[w.heap.size]? = _ from RX.out)
  clear CD
  go_region_held3 (fun w' => w'.cell? ⟨w.heap.size, 0, none⟩ = some (.int .i64 5) ∧ w'.cell? ⟨w.heap.size, 1, none⟩ = some (.int .i64 s) ∧ w'.cell? ⟨w.heap.size, 2, none⟩ = some (.int .i64 who) ∧ w'.cell? ⟨w.heap.size, 3, none⟩ = some (.int .i64 port) ∧ w'.cell? ⟨w.heap.size, 4, none⟩ = some (.int .i64 conn) ∧ w'.cell? ⟨w.heap.size, 5, none⟩ = some (.int .i64 n) ∧ w'.cell? ⟨w.heap.size, 6, none⟩ = some (.slice a0 b.length c0))
    (first | exact c7_of RX.out | exact c7_of ((Below.heap_alloc _ _ _ (lt_of_block RX.out)).trans RX.out))
    (first
      | (go_at_call 42; (with_reducible refine (Pconn.out _).mono ?_); rintro e wconn ⟨paconn, pcconn, rfl, ii, cc⟩; (try replace In := Lib.hid (keptT In.out cc)); have Iconn := Lib.hid ii; replace IZ := Lib.hid (keptT IZ.out cc); replace IB := Lib.hid (keptT IB.out cc); replace IK := Lib.hid (keptT IK.out cc); replace C1 := Lib.hid (C1.out.trans cc); replace RX := Lib.hid ((cc.block w.heap.size (lt_of_block RX.out) (fun h => h)).trans RX.out); clear ii cc)
      | (go_at_call 42; (with_reducible refine (Pn.out _).mono ?_); rintro e wn ⟨pan, pcn, rfl, ii, cc⟩; (try replace Iconn := Lib.hid (keptT Iconn.out cc)); have In := Lib.hid ii; replace IZ := Lib.hid (keptT IZ.out cc); replace IB := Lib.hid (keptT IB.out cc); replace IK := Lib.hid (keptT IK.out cc); replace C1 := Lib.hid (C1.out.trans cc); replace RX := Lib.hid ((cc.block w.heap.size (lt_of_block RX.out) (fun h => h)).trans RX.out); clear ii cc)
      | (go_at_call 43; refine (join_any _ 3 [[4], putN conn 2, putN n 2] _ rfl (parts_of (vs := [(.slice (some ⟨w.heap.size + 1, 0, none⟩) 1 1), (.slice paconn 2 pcconn), (.slice pan 2 pcn)]) ⟨⟨_, _, rfl, IK.out⟩, ⟨⟨_, _, rfl, Iconn.out⟩, ⟨⟨_, _, rfl, In.out⟩, trivial⟩⟩⟩) hlen (by omega)).mono ?_; rintro e w9 ⟨v9, rfl, o9, cc⟩; obtain ⟨a9, l9, c9, hv9⟩ : ∃ a l c, v9 = Value.slice a l c := (by (obtain ⟨a, c, h⟩ := own_form o9; exact ⟨_, _, _, h⟩)); subst hv9; have O9 := Lib.hid (o9.mono (C1.out.alloc _).size); replace C1 := Lib.hid ((C1.out.alloc _).trans cc); replace RX := Lib.hid ((cc.block w.heap.size (Nat.lt_of_lt_of_le (lt_of_block RX.out) (by simp)) (fun h => h)).trans ((Below.heap_alloc _ _ _ (lt_of_block RX.out)).trans RX.out)); clear o9 cc))
  all_goals
    go_wp2_with fail
    go_ret
    exact ⟨_, rfl, by rw [hL.out]; exact O9.out, C1.out⟩

set_option maxRecDepth 100000 in
set_option maxHeartbeats 4000000 in
theorem rbytes_6 (s who port conn n : Int) (b : List Int) {P : Nat → Prop} (a0 : Option Addr) (c0 : Nat) (w : World) (ok : EvOk ⟨6, s, who, port, conn, n, b⟩) (h : IsB P w a0 b.length c0 b) (hm : b.length ≤ 1000000) :
    Calls Try.prog 33 #[.agg (evCells ⟨6, s, who, port, conn, n, b⟩ (.slice a0 b.length c0))] w fun e w' => ∃ v, e = .returned v ∧ w'.ownsRow w.heap.size 5 1 v (layE ⟨6, s, who, port, conn, n, b⟩).length ((layE ⟨6, s, who, port, conn, n, b⟩).map (Value.int .u8)) ∧ Chg (fun _ => False) w w' := by
  have hlay : layE ⟨6, s, who, port, conn, n, b⟩ = ([[5], putN n 2] : List (List Int)).flatten := by simp [layE, nms, fld]
  have hlen : ([[5], putN n 2] : List (List Int)).flatten.length ≤ 1000000000 := by rw [← hlay]; have := layE_len ⟨6, s, who, port, conn, n, b⟩; simp only at this; omega
  have hL := Lib.hid hlay; clear hlay
  have hbd := h.bytes.2.1
  have PS := Lib.hid (put_isb (b.length : Int) 2 2 rfl (by omega) (by omega) (by omega))
  have Pn := Lib.hid (put_isb n 2 2 rfl ok.n0 ok.n1 (by omega))
  obtain ⟨o, ho⟩ : ∃ o, Obj.cells (evCells ⟨6, s, who, port, conn, n, b⟩ (.slice a0 b.length c0)) 34 = o := ⟨_, rfl⟩
  obtain ⟨W0, hW0⟩ : ∃ W, W = (w.alloc o).alloc (.cells #[.int .u8 5] 5) := ⟨_, rfl⟩
  have C0 : Chg (fun _ => False) w W0 := by rw [hW0]; exact ((Chg.refl _ w).alloc _).alloc _
  have E0 : W0.heap[w.heap.size]? = some (.cells (evCells ⟨6, s, who, port, conn, n, b⟩ (.slice a0 b.length c0)) 34 (0, 0)) := by
    rw [hW0, Below.heap_alloc _ _ _ (by simp), ho]; exact heap_alloc_new w _
  have IK : IsB (fun _ => True) W0 (some ⟨w.heap.size + 1, 0, none⟩) 1 1 [5] := by
    have h1 := isb_lit (w.alloc o) [5] 1 rfl (by omega) (by intro x hx; simp only [List.mem_singleton] at hx; subst hx; omega)
    rw [show (w.alloc o).heap.size = w.heap.size + 1 by simp] at h1
    rw [hW0]; exact h1
  have IB := keptT h C0
  have d0 := cell_of_row W0 w.heap.size 0 _ _ _ E0
  have d1 := cell_of_row W0 w.heap.size 1 _ _ _ E0
  have d2 := cell_of_row W0 w.heap.size 2 _ _ _ E0
  have d3 := cell_of_row W0 w.heap.size 3 _ _ _ E0
  have d4 := cell_of_row W0 w.heap.size 4 _ _ _ E0
  have d5 := cell_of_row W0 w.heap.size 5 _ _ _ E0
  have d6 := cell_of_row W0 w.heap.size 6 _ _ _ E0
  simp only [evCells] at d0 d1 d2 d3 d4 d5 d6
  have hb6 : b.length ≤ 1000000 := hm
  simp only [evCells]
  have hcs : o = .cells #[.int .i64 6, .int .i64 s, .int .i64 who, .int .i64 port, .int .i64 conn, .int .i64 n, .slice a0 b.length c0] 34 := ho.symm
  replace hcs := Lib.hid hcs; replace ho := Lib.hid ho; replace hW0 := Lib.hid hW0; replace C0 := Lib.hid C0; replace E0 := Lib.hid E0; replace IK := Lib.hid IK; replace IB := Lib.hid IB; replace hbd := Lib.hid hbd
  clear h hm ok
  go_enter Try.func33, Try.ntmps33
  go_wp2_with fail
  rw [← hcs.out, ← hW0.out]
  refine (PS.out W0).mono ?_
  rintro e w1 ⟨az, cz, rfl, iz, cc⟩
  have E1 := (cc.block w.heap.size (lt_of_block E0.out) (fun h => h)).trans E0.out
  have e0 := cell_of_row w1 w.heap.size 0 _ _ _ E1
  have e1 := cell_of_row w1 w.heap.size 1 _ _ _ E1
  have e2 := cell_of_row w1 w.heap.size 2 _ _ _ E1
  have e3 := cell_of_row w1 w.heap.size 3 _ _ _ E1
  have e4 := cell_of_row w1 w.heap.size 4 _ _ _ E1
  have e5 := cell_of_row w1 w.heap.size 5 _ _ _ E1
  have e6 := cell_of_row w1 w.heap.size 6 _ _ _ E1
  simp only [evCells] at e0 e1 e2 e3 e4 e5 e6
  have IZ := Lib.hid iz; replace IB := Lib.hid (keptT IB.out cc); replace IK := Lib.hid (keptT IK.out cc); have C1 := Lib.hid (C0.out.trans cc); have RX := Lib.hid E1
  clear iz cc E1 d0 d1 d2 d3 d4 d5 d6
  go_wp2_with fail
  refine (Pn.out _).mono ?_
  rintro e w2 ⟨pan, pcn, rfl, ii, cc⟩
  have In := Lib.hid ii; replace IK := Lib.hid (keptT IK.out cc); replace C1 := Lib.hid (C1.out.trans cc)
  clear ii cc e0 e1 e2 e3 e4 e5 e6
  go_wp2_with fail
  refine (join_any _ 2 [[5], putN n 2] _ rfl (parts_of (vs := [(.slice (some ⟨w.heap.size + 1, 0, none⟩) 1 1), (.slice pan 2 pcn)]) ⟨⟨_, _, rfl, IK.out⟩, ⟨⟨_, _, rfl, In.out⟩, trivial⟩⟩) hlen (by omega)).mono ?_
  rintro e w9 ⟨v9, rfl, o9, cc⟩
  obtain ⟨a9, l9, c9, hv9⟩ : ∃ a l c, v9 = Value.slice a l c := by (obtain ⟨a, c, h⟩ := own_form o9; exact ⟨_, _, _, h⟩)
  subst hv9
  have O9 := Lib.hid (o9.mono (C1.out.alloc _).size); replace C1 := Lib.hid ((C1.out.alloc _).trans cc)
  clear o9 cc
  go_wp2_with fail
  go_ret
  exact ⟨_, rfl, by rw [hL.out]; exact O9.out, C1.out⟩

set_option maxRecDepth 100000 in
set_option maxHeartbeats 4000000 in
theorem rbytes_7 (s who port conn n : Int) (b : List Int) {P : Nat → Prop} (a0 : Option Addr) (c0 : Nat) (w : World) (ok : EvOk ⟨7, s, who, port, conn, n, b⟩) (h : IsB P w a0 b.length c0 b) (hm : b.length ≤ 1000000) :
    Calls Try.prog 33 #[.agg (evCells ⟨7, s, who, port, conn, n, b⟩ (.slice a0 b.length c0))] w fun e w' => ∃ v, e = .returned v ∧ w'.ownsRow w.heap.size 5 1 v (layE ⟨7, s, who, port, conn, n, b⟩).length ((layE ⟨7, s, who, port, conn, n, b⟩).map (Value.int .u8)) ∧ Chg (fun _ => False) w w' := by
  have hlay : layE ⟨7, s, who, port, conn, n, b⟩ = ([[6], putN n 2] : List (List Int)).flatten := by simp [layE, nms, fld]
  have hlen : ([[6], putN n 2] : List (List Int)).flatten.length ≤ 1000000000 := by rw [← hlay]; have := layE_len ⟨7, s, who, port, conn, n, b⟩; simp only at this; omega
  have hL := Lib.hid hlay; clear hlay
  have hbd := h.bytes.2.1
  have PS := Lib.hid (put_isb (b.length : Int) 2 2 rfl (by omega) (by omega) (by omega))
  have Pn := Lib.hid (put_isb n 2 2 rfl ok.n0 ok.n1 (by omega))
  obtain ⟨o, ho⟩ : ∃ o, Obj.cells (evCells ⟨7, s, who, port, conn, n, b⟩ (.slice a0 b.length c0)) 34 = o := ⟨_, rfl⟩
  obtain ⟨W0, hW0⟩ : ∃ W, W = (w.alloc o).alloc (.cells #[.int .u8 6] 5) := ⟨_, rfl⟩
  have C0 : Chg (fun _ => False) w W0 := by rw [hW0]; exact ((Chg.refl _ w).alloc _).alloc _
  have E0 : W0.heap[w.heap.size]? = some (.cells (evCells ⟨7, s, who, port, conn, n, b⟩ (.slice a0 b.length c0)) 34 (0, 0)) := by
    rw [hW0, Below.heap_alloc _ _ _ (by simp), ho]; exact heap_alloc_new w _
  have IK : IsB (fun _ => True) W0 (some ⟨w.heap.size + 1, 0, none⟩) 1 1 [6] := by
    have h1 := isb_lit (w.alloc o) [6] 1 rfl (by omega) (by intro x hx; simp only [List.mem_singleton] at hx; subst hx; omega)
    rw [show (w.alloc o).heap.size = w.heap.size + 1 by simp] at h1
    rw [hW0]; exact h1
  have IB := keptT h C0
  have d0 := cell_of_row W0 w.heap.size 0 _ _ _ E0
  have d1 := cell_of_row W0 w.heap.size 1 _ _ _ E0
  have d2 := cell_of_row W0 w.heap.size 2 _ _ _ E0
  have d3 := cell_of_row W0 w.heap.size 3 _ _ _ E0
  have d4 := cell_of_row W0 w.heap.size 4 _ _ _ E0
  have d5 := cell_of_row W0 w.heap.size 5 _ _ _ E0
  have d6 := cell_of_row W0 w.heap.size 6 _ _ _ E0
  simp only [evCells] at d0 d1 d2 d3 d4 d5 d6
  have hb6 : b.length ≤ 1000000 := hm
  simp only [evCells]
  have hcs : o = .cells #[.int .i64 7, .int .i64 s, .int .i64 who, .int .i64 port, .int .i64 conn, .int .i64 n, .slice a0 b.length c0] 34 := ho.symm
  replace hcs := Lib.hid hcs; replace ho := Lib.hid ho; replace hW0 := Lib.hid hW0; replace C0 := Lib.hid C0; replace E0 := Lib.hid E0; replace IK := Lib.hid IK; replace IB := Lib.hid IB; replace hbd := Lib.hid hbd
  clear h hm ok
  go_enter Try.func33, Try.ntmps33
  go_wp2_with fail
  rw [← hcs.out, ← hW0.out]
  refine (PS.out W0).mono ?_
  rintro e w1 ⟨az, cz, rfl, iz, cc⟩
  have E1 := (cc.block w.heap.size (lt_of_block E0.out) (fun h => h)).trans E0.out
  have e0 := cell_of_row w1 w.heap.size 0 _ _ _ E1
  have e1 := cell_of_row w1 w.heap.size 1 _ _ _ E1
  have e2 := cell_of_row w1 w.heap.size 2 _ _ _ E1
  have e3 := cell_of_row w1 w.heap.size 3 _ _ _ E1
  have e4 := cell_of_row w1 w.heap.size 4 _ _ _ E1
  have e5 := cell_of_row w1 w.heap.size 5 _ _ _ E1
  have e6 := cell_of_row w1 w.heap.size 6 _ _ _ E1
  simp only [evCells] at e0 e1 e2 e3 e4 e5 e6
  have IZ := Lib.hid iz; replace IB := Lib.hid (keptT IB.out cc); replace IK := Lib.hid (keptT IK.out cc); have C1 := Lib.hid (C0.out.trans cc); have RX := Lib.hid E1
  clear iz cc E1 d0 d1 d2 d3 d4 d5 d6
  go_wp2_with fail
  refine (Pn.out _).mono ?_
  rintro e w2 ⟨pan, pcn, rfl, ii, cc⟩
  have In := Lib.hid ii; replace IK := Lib.hid (keptT IK.out cc); replace C1 := Lib.hid (C1.out.trans cc)
  clear ii cc e0 e1 e2 e3 e4 e5 e6
  go_wp2_with fail
  refine (join_any _ 2 [[6], putN n 2] _ rfl (parts_of (vs := [(.slice (some ⟨w.heap.size + 1, 0, none⟩) 1 1), (.slice pan 2 pcn)]) ⟨⟨_, _, rfl, IK.out⟩, ⟨⟨_, _, rfl, In.out⟩, trivial⟩⟩) hlen (by omega)).mono ?_
  rintro e w9 ⟨v9, rfl, o9, cc⟩
  obtain ⟨a9, l9, c9, hv9⟩ : ∃ a l c, v9 = Value.slice a l c := by (obtain ⟨a, c, h⟩ := own_form o9; exact ⟨_, _, _, h⟩)
  subst hv9
  have O9 := Lib.hid (o9.mono (C1.out.alloc _).size); replace C1 := Lib.hid ((C1.out.alloc _).trans cc)
  clear o9 cc
  go_wp2_with fail
  go_ret
  exact ⟨_, rfl, by rw [hL.out]; exact O9.out, C1.out⟩

set_option maxRecDepth 100000 in
set_option maxHeartbeats 4000000 in
theorem rbytes_8 (s who port conn n : Int) (b : List Int) {P : Nat → Prop} (a0 : Option Addr) (c0 : Nat) (w : World) (ok : EvOk ⟨8, s, who, port, conn, n, b⟩) (h : IsB P w a0 b.length c0 b) (hm : b.length ≤ 1000000) :
    Calls Try.prog 33 #[.agg (evCells ⟨8, s, who, port, conn, n, b⟩ (.slice a0 b.length c0))] w fun e w' => ∃ v, e = .returned v ∧ w'.ownsRow w.heap.size 5 1 v (layE ⟨8, s, who, port, conn, n, b⟩).length ((layE ⟨8, s, who, port, conn, n, b⟩).map (Value.int .u8)) ∧ Chg (fun _ => False) w w' := by
  have hlay : layE ⟨8, s, who, port, conn, n, b⟩ = ([[7], putN who 4, putN port 2, putN (b.length : Int) 2, b] : List (List Int)).flatten := by simp [layE, nms, fld]
  have hlen : ([[7], putN who 4, putN port 2, putN (b.length : Int) 2, b] : List (List Int)).flatten.length ≤ 1000000000 := by rw [← hlay]; have := layE_len ⟨8, s, who, port, conn, n, b⟩; simp only at this; omega
  have hL := Lib.hid hlay; clear hlay
  have hbd := h.bytes.2.1
  have PS := Lib.hid (put_isb (b.length : Int) 2 2 rfl (by omega) (by omega) (by omega))
  have Pwho := Lib.hid (put_isb who 4 4 rfl ok.who0 ok.who1 (by omega))
  have Pport := Lib.hid (put_isb port 2 2 rfl ok.port0 ok.port1 (by omega))
  obtain ⟨o, ho⟩ : ∃ o, Obj.cells (evCells ⟨8, s, who, port, conn, n, b⟩ (.slice a0 b.length c0)) 34 = o := ⟨_, rfl⟩
  obtain ⟨W0, hW0⟩ : ∃ W, W = (w.alloc o).alloc (.cells #[.int .u8 7] 5) := ⟨_, rfl⟩
  have C0 : Chg (fun _ => False) w W0 := by rw [hW0]; exact ((Chg.refl _ w).alloc _).alloc _
  have E0 : W0.heap[w.heap.size]? = some (.cells (evCells ⟨8, s, who, port, conn, n, b⟩ (.slice a0 b.length c0)) 34 (0, 0)) := by
    rw [hW0, Below.heap_alloc _ _ _ (by simp), ho]; exact heap_alloc_new w _
  have IK : IsB (fun _ => True) W0 (some ⟨w.heap.size + 1, 0, none⟩) 1 1 [7] := by
    have h1 := isb_lit (w.alloc o) [7] 1 rfl (by omega) (by intro x hx; simp only [List.mem_singleton] at hx; subst hx; omega)
    rw [show (w.alloc o).heap.size = w.heap.size + 1 by simp] at h1
    rw [hW0]; exact h1
  have IB := keptT h C0
  have d0 := cell_of_row W0 w.heap.size 0 _ _ _ E0
  have d1 := cell_of_row W0 w.heap.size 1 _ _ _ E0
  have d2 := cell_of_row W0 w.heap.size 2 _ _ _ E0
  have d3 := cell_of_row W0 w.heap.size 3 _ _ _ E0
  have d4 := cell_of_row W0 w.heap.size 4 _ _ _ E0
  have d5 := cell_of_row W0 w.heap.size 5 _ _ _ E0
  have d6 := cell_of_row W0 w.heap.size 6 _ _ _ E0
  simp only [evCells] at d0 d1 d2 d3 d4 d5 d6
  have hb6 : b.length ≤ 1000000 := hm
  simp only [evCells]
  have hcs : o = .cells #[.int .i64 8, .int .i64 s, .int .i64 who, .int .i64 port, .int .i64 conn, .int .i64 n, .slice a0 b.length c0] 34 := ho.symm
  replace hcs := Lib.hid hcs; replace ho := Lib.hid ho; replace hW0 := Lib.hid hW0; replace C0 := Lib.hid C0; replace E0 := Lib.hid E0; replace IK := Lib.hid IK; replace IB := Lib.hid IB; replace hbd := Lib.hid hbd
  clear h hm ok
  go_enter Try.func33, Try.ntmps33
  go_wp2_with fail
  rw [← hcs.out, ← hW0.out]
  refine (PS.out W0).mono ?_
  rintro e w1 ⟨az, cz, rfl, iz, cc⟩
  have E1 := (cc.block w.heap.size (lt_of_block E0.out) (fun h => h)).trans E0.out
  have e0 := cell_of_row w1 w.heap.size 0 _ _ _ E1
  have e1 := cell_of_row w1 w.heap.size 1 _ _ _ E1
  have e2 := cell_of_row w1 w.heap.size 2 _ _ _ E1
  have e3 := cell_of_row w1 w.heap.size 3 _ _ _ E1
  have e4 := cell_of_row w1 w.heap.size 4 _ _ _ E1
  have e5 := cell_of_row w1 w.heap.size 5 _ _ _ E1
  have e6 := cell_of_row w1 w.heap.size 6 _ _ _ E1
  simp only [evCells] at e0 e1 e2 e3 e4 e5 e6
  have IZ := Lib.hid iz; replace IB := Lib.hid (keptT IB.out cc); replace IK := Lib.hid (keptT IK.out cc); have C1 := Lib.hid (C0.out.trans cc); have RX := Lib.hid E1
  clear iz cc E1 d0 d1 d2 d3 d4 d5 d6
  go_wp2_with fail
  clear e0 e1 e2 e3 e4 e5 e6
  have CD : Chg (fun _ => False) w1 w1.drew := (Chg.refl _ w1).drewN 1
  replace IZ := Lib.hid (keptT IZ.out CD); replace IB := Lib.hid (keptT IB.out CD); replace IK := Lib.hid (keptT IK.out CD); replace C1 := Lib.hid (C1.out.trans CD); replace RX := Lib.hid (show w1.drew.heap[w.heap.size]? = _ from RX.out)
  clear CD
  go_region_held3 (fun w' => w'.cell? ⟨w.heap.size, 0, none⟩ = some (.int .i64 8) ∧ w'.cell? ⟨w.heap.size, 1, none⟩ = some (.int .i64 s) ∧ w'.cell? ⟨w.heap.size, 2, none⟩ = some (.int .i64 who) ∧ w'.cell? ⟨w.heap.size, 3, none⟩ = some (.int .i64 port) ∧ w'.cell? ⟨w.heap.size, 4, none⟩ = some (.int .i64 conn) ∧ w'.cell? ⟨w.heap.size, 5, none⟩ = some (.int .i64 n) ∧ w'.cell? ⟨w.heap.size, 6, none⟩ = some (.slice a0 b.length c0))
    (first | exact c7_of RX.out | exact c7_of ((Below.heap_alloc _ _ _ (lt_of_block RX.out)).trans RX.out))
    (first
      | (go_at_call 42; (with_reducible refine (Pwho.out _).mono ?_); rintro e wwho ⟨pawho, pcwho, rfl, ii, cc⟩; (try replace Iport := Lib.hid (keptT Iport.out cc)); have Iwho := Lib.hid ii; replace IZ := Lib.hid (keptT IZ.out cc); replace IB := Lib.hid (keptT IB.out cc); replace IK := Lib.hid (keptT IK.out cc); replace C1 := Lib.hid (C1.out.trans cc); replace RX := Lib.hid ((cc.block w.heap.size (lt_of_block RX.out) (fun h => h)).trans RX.out); clear ii cc)
      | (go_at_call 42; (with_reducible refine (Pport.out _).mono ?_); rintro e wport ⟨paport, pcport, rfl, ii, cc⟩; (try replace Iwho := Lib.hid (keptT Iwho.out cc)); have Iport := Lib.hid ii; replace IZ := Lib.hid (keptT IZ.out cc); replace IB := Lib.hid (keptT IB.out cc); replace IK := Lib.hid (keptT IK.out cc); replace C1 := Lib.hid (C1.out.trans cc); replace RX := Lib.hid ((cc.block w.heap.size (lt_of_block RX.out) (fun h => h)).trans RX.out); clear ii cc)
      | (go_at_call 43; refine (join_any _ 5 [[7], putN who 4, putN port 2, putN (b.length : Int) 2, b] _ rfl (parts_of (vs := [(.slice (some ⟨w.heap.size + 1, 0, none⟩) 1 1), (.slice pawho 4 pcwho), (.slice paport 2 pcport), (.slice az 2 cz), (.slice a0 b.length c0)]) ⟨⟨_, _, rfl, IK.out⟩, ⟨⟨_, _, rfl, Iwho.out⟩, ⟨⟨_, _, rfl, Iport.out⟩, ⟨⟨_, _, rfl, IZ.out⟩, ⟨⟨_, _, rfl, IsB.weak IB.out (fun _ _ _ => trivial)⟩, trivial⟩⟩⟩⟩⟩) hlen (by omega)).mono ?_; rintro e w9 ⟨v9, rfl, o9, cc⟩; obtain ⟨a9, l9, c9, hv9⟩ : ∃ a l c, v9 = Value.slice a l c := (by (obtain ⟨a, c, h⟩ := own_form o9; exact ⟨_, _, _, h⟩)); subst hv9; have O9 := Lib.hid (o9.mono (C1.out.alloc _).size); replace C1 := Lib.hid ((C1.out.alloc _).trans cc); replace RX := Lib.hid ((cc.block w.heap.size (Nat.lt_of_lt_of_le (lt_of_block RX.out) (by simp)) (fun h => h)).trans ((Below.heap_alloc _ _ _ (lt_of_block RX.out)).trans RX.out)); clear o9 cc))
  all_goals
    go_wp2_with fail
    go_ret
    exact ⟨_, rfl, by rw [hL.out]; exact O9.out, C1.out⟩

set_option maxRecDepth 100000 in
set_option maxHeartbeats 4000000 in
theorem rbytes_9 (s who port conn n : Int) (b : List Int) {P : Nat → Prop} (a0 : Option Addr) (c0 : Nat) (w : World) (ok : EvOk ⟨9, s, who, port, conn, n, b⟩) (h : IsB P w a0 b.length c0 b) (hm : b.length ≤ 1000000) :
    Calls Try.prog 33 #[.agg (evCells ⟨9, s, who, port, conn, n, b⟩ (.slice a0 b.length c0))] w fun e w' => ∃ v, e = .returned v ∧ w'.ownsRow w.heap.size 5 1 v (layE ⟨9, s, who, port, conn, n, b⟩).length ((layE ⟨9, s, who, port, conn, n, b⟩).map (Value.int .u8)) ∧ Chg (fun _ => False) w w' := by
  have hlay : layE ⟨9, s, who, port, conn, n, b⟩ = ([[8], putN n 2, putN (b.length : Int) 2, b] : List (List Int)).flatten := by simp [layE, nms, fld]
  have hlen : ([[8], putN n 2, putN (b.length : Int) 2, b] : List (List Int)).flatten.length ≤ 1000000000 := by rw [← hlay]; have := layE_len ⟨9, s, who, port, conn, n, b⟩; simp only at this; omega
  have hL := Lib.hid hlay; clear hlay
  have hbd := h.bytes.2.1
  have PS := Lib.hid (put_isb (b.length : Int) 2 2 rfl (by omega) (by omega) (by omega))
  have Pn := Lib.hid (put_isb n 2 2 rfl ok.n0 ok.n1 (by omega))
  obtain ⟨o, ho⟩ : ∃ o, Obj.cells (evCells ⟨9, s, who, port, conn, n, b⟩ (.slice a0 b.length c0)) 34 = o := ⟨_, rfl⟩
  obtain ⟨W0, hW0⟩ : ∃ W, W = (w.alloc o).alloc (.cells #[.int .u8 8] 5) := ⟨_, rfl⟩
  have C0 : Chg (fun _ => False) w W0 := by rw [hW0]; exact ((Chg.refl _ w).alloc _).alloc _
  have E0 : W0.heap[w.heap.size]? = some (.cells (evCells ⟨9, s, who, port, conn, n, b⟩ (.slice a0 b.length c0)) 34 (0, 0)) := by
    rw [hW0, Below.heap_alloc _ _ _ (by simp), ho]; exact heap_alloc_new w _
  have IK : IsB (fun _ => True) W0 (some ⟨w.heap.size + 1, 0, none⟩) 1 1 [8] := by
    have h1 := isb_lit (w.alloc o) [8] 1 rfl (by omega) (by intro x hx; simp only [List.mem_singleton] at hx; subst hx; omega)
    rw [show (w.alloc o).heap.size = w.heap.size + 1 by simp] at h1
    rw [hW0]; exact h1
  have IB := keptT h C0
  have d0 := cell_of_row W0 w.heap.size 0 _ _ _ E0
  have d1 := cell_of_row W0 w.heap.size 1 _ _ _ E0
  have d2 := cell_of_row W0 w.heap.size 2 _ _ _ E0
  have d3 := cell_of_row W0 w.heap.size 3 _ _ _ E0
  have d4 := cell_of_row W0 w.heap.size 4 _ _ _ E0
  have d5 := cell_of_row W0 w.heap.size 5 _ _ _ E0
  have d6 := cell_of_row W0 w.heap.size 6 _ _ _ E0
  simp only [evCells] at d0 d1 d2 d3 d4 d5 d6
  have hb6 : b.length ≤ 1000000 := hm
  simp only [evCells]
  have hcs : o = .cells #[.int .i64 9, .int .i64 s, .int .i64 who, .int .i64 port, .int .i64 conn, .int .i64 n, .slice a0 b.length c0] 34 := ho.symm
  replace hcs := Lib.hid hcs; replace ho := Lib.hid ho; replace hW0 := Lib.hid hW0; replace C0 := Lib.hid C0; replace E0 := Lib.hid E0; replace IK := Lib.hid IK; replace IB := Lib.hid IB; replace hbd := Lib.hid hbd
  clear h hm ok
  go_enter Try.func33, Try.ntmps33
  go_wp2_with fail
  rw [← hcs.out, ← hW0.out]
  refine (PS.out W0).mono ?_
  rintro e w1 ⟨az, cz, rfl, iz, cc⟩
  have E1 := (cc.block w.heap.size (lt_of_block E0.out) (fun h => h)).trans E0.out
  have e0 := cell_of_row w1 w.heap.size 0 _ _ _ E1
  have e1 := cell_of_row w1 w.heap.size 1 _ _ _ E1
  have e2 := cell_of_row w1 w.heap.size 2 _ _ _ E1
  have e3 := cell_of_row w1 w.heap.size 3 _ _ _ E1
  have e4 := cell_of_row w1 w.heap.size 4 _ _ _ E1
  have e5 := cell_of_row w1 w.heap.size 5 _ _ _ E1
  have e6 := cell_of_row w1 w.heap.size 6 _ _ _ E1
  simp only [evCells] at e0 e1 e2 e3 e4 e5 e6
  have IZ := Lib.hid iz; replace IB := Lib.hid (keptT IB.out cc); replace IK := Lib.hid (keptT IK.out cc); have C1 := Lib.hid (C0.out.trans cc); have RX := Lib.hid E1
  clear iz cc E1 d0 d1 d2 d3 d4 d5 d6
  go_wp2_with fail
  clear e0 e1 e2 e3 e4 e5 e6
  have CD : Chg (fun _ => False) w1 w1.drew := (Chg.refl _ w1).drewN 1
  replace IZ := Lib.hid (keptT IZ.out CD); replace IB := Lib.hid (keptT IB.out CD); replace IK := Lib.hid (keptT IK.out CD); replace C1 := Lib.hid (C1.out.trans CD); replace RX := Lib.hid (show w1.drew.heap[w.heap.size]? = _ from RX.out)
  clear CD
  go_region_held3 (fun w' => w'.cell? ⟨w.heap.size, 0, none⟩ = some (.int .i64 9) ∧ w'.cell? ⟨w.heap.size, 1, none⟩ = some (.int .i64 s) ∧ w'.cell? ⟨w.heap.size, 2, none⟩ = some (.int .i64 who) ∧ w'.cell? ⟨w.heap.size, 3, none⟩ = some (.int .i64 port) ∧ w'.cell? ⟨w.heap.size, 4, none⟩ = some (.int .i64 conn) ∧ w'.cell? ⟨w.heap.size, 5, none⟩ = some (.int .i64 n) ∧ w'.cell? ⟨w.heap.size, 6, none⟩ = some (.slice a0 b.length c0))
    (first | exact c7_of RX.out | exact c7_of ((Below.heap_alloc _ _ _ (lt_of_block RX.out)).trans RX.out))
    (first
      | (go_at_call 42; (with_reducible refine (Pn.out _).mono ?_); rintro e wn ⟨pan, pcn, rfl, ii, cc⟩;  have In := Lib.hid ii; replace IZ := Lib.hid (keptT IZ.out cc); replace IB := Lib.hid (keptT IB.out cc); replace IK := Lib.hid (keptT IK.out cc); replace C1 := Lib.hid (C1.out.trans cc); replace RX := Lib.hid ((cc.block w.heap.size (lt_of_block RX.out) (fun h => h)).trans RX.out); clear ii cc)
      | (go_at_call 43; refine (join_any _ 4 [[8], putN n 2, putN (b.length : Int) 2, b] _ rfl (parts_of (vs := [(.slice (some ⟨w.heap.size + 1, 0, none⟩) 1 1), (.slice pan 2 pcn), (.slice az 2 cz), (.slice a0 b.length c0)]) ⟨⟨_, _, rfl, IK.out⟩, ⟨⟨_, _, rfl, In.out⟩, ⟨⟨_, _, rfl, IZ.out⟩, ⟨⟨_, _, rfl, IsB.weak IB.out (fun _ _ _ => trivial)⟩, trivial⟩⟩⟩⟩) hlen (by omega)).mono ?_; rintro e w9 ⟨v9, rfl, o9, cc⟩; obtain ⟨a9, l9, c9, hv9⟩ : ∃ a l c, v9 = Value.slice a l c := (by (obtain ⟨a, c, h⟩ := own_form o9; exact ⟨_, _, _, h⟩)); subst hv9; have O9 := Lib.hid (o9.mono (C1.out.alloc _).size); replace C1 := Lib.hid ((C1.out.alloc _).trans cc); replace RX := Lib.hid ((cc.block w.heap.size (Nat.lt_of_lt_of_le (lt_of_block RX.out) (by simp)) (fun h => h)).trans ((Below.heap_alloc _ _ _ (lt_of_block RX.out)).trans RX.out)); clear o9 cc))
  all_goals
    go_wp2_with fail
    go_ret
    exact ⟨_, rfl, by rw [hL.out]; exact O9.out, C1.out⟩

set_option maxRecDepth 100000 in
set_option maxHeartbeats 4000000 in
theorem rbytes_11 (s who port conn n : Int) (b : List Int) {P : Nat → Prop} (a0 : Option Addr) (c0 : Nat) (w : World) (ok : EvOk ⟨(-9223372036854775808), s, who, port, conn, n, b⟩) (h : IsB P w a0 b.length c0 b) (hm : b.length ≤ 1000000) :
    Calls Try.prog 33 #[.agg (evCells ⟨(-9223372036854775808), s, who, port, conn, n, b⟩ (.slice a0 b.length c0))] w fun e w' => ∃ v, e = .returned v ∧ w'.ownsRow w.heap.size 5 1 v (layE ⟨(-9223372036854775808), s, who, port, conn, n, b⟩).length ((layE ⟨(-9223372036854775808), s, who, port, conn, n, b⟩).map (Value.int .u8)) ∧ Chg (fun _ => False) w w' := by
  have hlay : layE ⟨(-9223372036854775808), s, who, port, conn, n, b⟩ = [255] := by simp [layE, nms]
  have hL := Lib.hid hlay; clear hlay
  have hbd := h.bytes.2.1
  have PS := Lib.hid (put_isb (b.length : Int) 2 2 rfl (by omega) (by omega) (by omega))
  obtain ⟨o, ho⟩ : ∃ o, Obj.cells (evCells ⟨(-9223372036854775808), s, who, port, conn, n, b⟩ (.slice a0 b.length c0)) 34 = o := ⟨_, rfl⟩
  obtain ⟨W0, hW0⟩ : ∃ W, W = (w.alloc o).alloc (.cells #[.int .u8 255] 5) := ⟨_, rfl⟩
  have C0 : Chg (fun _ => False) w W0 := by rw [hW0]; exact ((Chg.refl _ w).alloc _).alloc _
  have E0 : W0.heap[w.heap.size]? = some (.cells (evCells ⟨(-9223372036854775808), s, who, port, conn, n, b⟩ (.slice a0 b.length c0)) 34 (0, 0)) := by
    rw [hW0, Below.heap_alloc _ _ _ (by simp), ho]; exact heap_alloc_new w _
  have IK : IsB (fun _ => True) W0 (some ⟨w.heap.size + 1, 0, none⟩) 1 1 [255] := by
    have h1 := isb_lit (w.alloc o) [255] 1 rfl (by omega) (by intro x hx; simp only [List.mem_singleton] at hx; subst hx; omega)
    rw [show (w.alloc o).heap.size = w.heap.size + 1 by simp] at h1
    rw [hW0]; exact h1
  have OK : W0.ownsRow w.heap.size 5 1 (.slice (some ⟨w.heap.size + 1, 0, none⟩) 1 1) 1 [.int .u8 255] := by
    have h1 := World.ownsRow_lit (base := w.heap.size) (e := 5) (size := 1) (w.alloc o) #[.int .u8 255] 1 (by simp) (by unfold maxLen; omega) rfl
    rw [show (w.alloc o).heap.size = w.heap.size + 1 by simp] at h1
    rw [hW0]; exact h1
  have OK' := Lib.hid OK; clear OK
  have IB := keptT h C0
  have d0 := cell_of_row W0 w.heap.size 0 _ _ _ E0
  have d1 := cell_of_row W0 w.heap.size 1 _ _ _ E0
  have d2 := cell_of_row W0 w.heap.size 2 _ _ _ E0
  have d3 := cell_of_row W0 w.heap.size 3 _ _ _ E0
  have d4 := cell_of_row W0 w.heap.size 4 _ _ _ E0
  have d5 := cell_of_row W0 w.heap.size 5 _ _ _ E0
  have d6 := cell_of_row W0 w.heap.size 6 _ _ _ E0
  simp only [evCells] at d0 d1 d2 d3 d4 d5 d6
  have hb6 : b.length ≤ 1000000 := hm
  simp only [evCells]
  have hcs : o = .cells #[.int .i64 (-9223372036854775808), .int .i64 s, .int .i64 who, .int .i64 port, .int .i64 conn, .int .i64 n, .slice a0 b.length c0] 34 := ho.symm
  replace hcs := Lib.hid hcs; replace ho := Lib.hid ho; replace hW0 := Lib.hid hW0; replace C0 := Lib.hid C0; replace E0 := Lib.hid E0; replace IK := Lib.hid IK; replace IB := Lib.hid IB; replace hbd := Lib.hid hbd
  clear h hm ok
  have hw64 : wrap64 (-9223372036854775809) % 256 = 255 := by unfold wrap64; omega
  go_enter Try.func33, Try.ntmps33
  go_wp2_with fail
  rw [← hcs.out, ← hW0.out]
  refine (PS.out W0).mono ?_
  rintro e w1 ⟨az, cz, rfl, iz, cc⟩
  have E1 := (cc.block w.heap.size (lt_of_block E0.out) (fun h => h)).trans E0.out
  have e0 := cell_of_row w1 w.heap.size 0 _ _ _ E1
  have e1 := cell_of_row w1 w.heap.size 1 _ _ _ E1
  have e2 := cell_of_row w1 w.heap.size 2 _ _ _ E1
  have e3 := cell_of_row w1 w.heap.size 3 _ _ _ E1
  have e4 := cell_of_row w1 w.heap.size 4 _ _ _ E1
  have e5 := cell_of_row w1 w.heap.size 5 _ _ _ E1
  have e6 := cell_of_row w1 w.heap.size 6 _ _ _ E1
  simp only [evCells] at e0 e1 e2 e3 e4 e5 e6
  have IZ := Lib.hid iz; replace IB := Lib.hid (keptT IB.out cc); replace IK := Lib.hid (keptT IK.out cc); have C1 := Lib.hid (C0.out.trans cc); have RX := Lib.hid E1
  replace OK' := Lib.hid (owns_kept OK'.out cc (fun _ _ h => h))
  clear iz cc E1 d0 d1 d2 d3 d4 d5 d6
  go_wp2_with fail
  go_ret
  exact ⟨_, rfl, by rw [hL.out]; exact OK'.out, C1.out⟩

/-- An event's bytes. -/
theorem rbytes_any (ev : Ev) {P : Nat → Prop} (a0 : Option Addr) (c0 : Nat) (w : World) (ok : EvOk ev) (h : IsB P w a0 ev.b.length c0 ev.b) (hm : ev.b.length ≤ 1000000) :
    Calls Try.prog 33 #[.agg (evCells ev (.slice a0 ev.b.length c0))] w fun e w' => ∃ v, e = .returned v ∧ w'.ownsRow w.heap.size 5 1 v (layE ev).length ((layE ev).map (Value.int .u8)) ∧ Chg (fun _ => False) w w' := by
  obtain ⟨k, s, who, port, conn, n, b⟩ := ev
  have k0 : -9223372036854775808 ≤ k := ok.k0
  have k1 : k ≤ 9223372036854775807 := ok.k1
  by_cases h1 : k = 1
  · subst h1; exact rbytes_1 s who port conn n b a0 c0 w ok h hm
  by_cases h2 : k = 2
  · subst h2; exact rbytes_2 s who port conn n b a0 c0 w ok h hm
  by_cases h3 : k = 3
  · subst h3; exact rbytes_3 s who port conn n b a0 c0 w ok h hm
  by_cases h4 : k = 4
  · subst h4; exact rbytes_4 s who port conn n b a0 c0 w ok h hm
  by_cases h5 : k = 5
  · subst h5; exact rbytes_5 s who port conn n b a0 c0 w ok h hm
  by_cases h6 : k = 6
  · subst h6; exact rbytes_6 s who port conn n b a0 c0 w ok h hm
  by_cases h7 : k = 7
  · subst h7; exact rbytes_7 s who port conn n b a0 c0 w ok h hm
  by_cases h8 : k = 8
  · subst h8; exact rbytes_8 s who port conn n b a0 c0 w ok h hm
  by_cases h9 : k = 9
  · subst h9; exact rbytes_9 s who port conn n b a0 c0 w ok h hm
  by_cases h11 : k = -9223372036854775808
  · subst h11; exact rbytes_11 s who port conn n b a0 c0 w ok h hm
  · exact rbytes_0 k s who port conn n b a0 c0 w ok h hm (by omega) k1 h1 h2 h3 h4 h5 h6 h7 h8 h9

end Go.Proofs.Ythdobpfojdcagaa.RBytes
