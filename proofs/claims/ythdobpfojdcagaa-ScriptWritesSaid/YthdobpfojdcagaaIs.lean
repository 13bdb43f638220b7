/-
  The walks of is, awake: what the document's examples say.
-/
import Derived.Test.YthdobpfojdcagaaSameEv
import Derived.Test.YthdobpfojdcagaaLent
import Derived.Deep.RegionHeld3
set_option linter.unusedVariables false
namespace Go.Proofs.Ythdobpfojdcagaa.Is
open Go.RowKit Go.Proofs.Ythdobpfojdcagaa.Ev Go.Proofs.Ythdobpfojdcagaa.Next Go.Proofs.Ythdobpfojdcagaa.Fields Go.Proofs.Ythdobpfojdcagaa.Event Go.Proofs.Ythdobpfojdcagaa.Fold Go.Proofs.Ythdobpfojdcagaa.U8 Go.Proofs.Ythdobpfojdcagaa.Li Go.Proofs.Ythdobpfojdcagaa.EventAny Go.Proofs.Ythdobpfojdcagaa.Events Go.Proofs.Ythdobpfojdcagaa.Same Go.Proofs.Ythdobpfojdcagaa.SameEv Go.Proofs.Ythdobpfojdcagaa.Lent

theorem run_bd {bs : List Int} (h : ∀ x ∈ bs, 0 ≤ x ∧ x ≤ 255) (p n : Nat) : ∀ y ∈ run bs p n, 0 ≤ y ∧ y ≤ 255 := by
  intro y hy
  simp only [run, List.mem_map] at hy
  obtain ⟨i, _, rfl⟩ := hy
  exact byte_bd h _
theorem evAt_bd {bs : List Int} (h : ∀ x ∈ bs, 0 ≤ x ∧ x ≤ 255) (p : Nat) : ∀ y ∈ (evAt bs p).b, 0 ≤ y ∧ y ≤ 255 := by
  intro y hy
  unfold evAt at hy
  simp only at hy
  repeat' split at hy
  all_goals first | exact run_bd h _ _ y hy | (simp at hy)
theorem evs_bd {bs : List Int} (h : ∀ x ∈ bs, 0 ≤ x ∧ x ≤ 255) : ∀ e ∈ evs bs, ∀ y ∈ e.b, 0 ≤ y ∧ y ≤ 255 := by
  have : ∀ f p, ∀ e ∈ evsF bs f p, ∀ y ∈ e.b, 0 ≤ y ∧ y ≤ 255 := by
    intro f
    induction f with
    | zero => intro p e he; simp [evsF] at he
    | succ f ih =>
      intro p e he
      unfold evsF at he
      split at he
      · rcases List.mem_cons.1 he with rfl | he
        · exact evAt_bd h p
        · exact ih _ e he
      · simp at he
  exact this 4096 0

/-- Events that are read are in memory of their own. -/
structure Res (w w' : World) (a : Option Addr) (cp : Nat) (es : List Ev) : Prop where
  is : IsEvs (fun b => w.heap.size ≤ b ∧ b < w'.heap.size) w' a es.length cp es
  own : ∃ xs, OwnEvs w.heap.size w' (.slice a es.length cp) xs
  chg : Chg (fun _ => False) w w'
theorem Res.of {w w' : World} {v : Value} {xs : List (Ev × Value)} {es : List Ev} (h : es = xs.map (·.1)) (hb : ∀ e ∈ es, ∀ y ∈ e.b, 0 ≤ y ∧ y ≤ 255) (o : OwnEvs w.heap.size w' v xs) (c : Chg (fun _ => False) w w') : ∃ a cp, v = .slice a es.length cp ∧ Res w w' a cp es := by
  subst h
  obtain ⟨a, cp, rfl, hi⟩ := isEvs_of_own o (fun x hx => hb x.1 (List.mem_map.2 ⟨x, hx, rfl⟩))
  refine ⟨a, cp, by simp, ⟨?_, ⟨xs, by simpa using o⟩, c⟩⟩
  simpa using hi.weak (P' := fun b => w.heap.size ≤ b ∧ b < w'.heap.size) (fun b hb hp => ⟨hp, hb⟩)

theorem events_is (P : Nat → Prop) (a0 : Option Addr) (len cap : Nat) (bs : List Int) (w : World) (h : IsB P w a0 len cap bs) (hm : len ≤ 1000000000) :
    Calls Try.prog 10 #[.slice a0 len cap] w fun e w' => ∃ a cp, e = .returned (.slice a (evs bs).length cp) ∧ Res w w' a cp (evs bs) :=
  (events_any P a0 len cap bs w h (by omega)).mono fun e w' ⟨v, xs, he, hx, ho, hc⟩ => by
    obtain ⟨a, cp, rfl, hr⟩ := Res.of hx (evs_bd h.bytes.2.1) ho hc
    exact ⟨a, cp, he, hr⟩

/-- The seven cells of an event in a block. -/
def C7 (w : World) (g : Nat) (e : Ev) (vb : Value) : Prop :=
  w.cell? ⟨g, 0, none⟩ = some (.int .i64 e.k) ∧ w.cell? ⟨g, 1, none⟩ = some (.int .i64 e.s) ∧ w.cell? ⟨g, 2, none⟩ = some (.int .i64 e.who) ∧ w.cell? ⟨g, 3, none⟩ = some (.int .i64 e.port) ∧
  w.cell? ⟨g, 4, none⟩ = some (.int .i64 e.conn) ∧ w.cell? ⟨g, 5, none⟩ = some (.int .i64 e.n) ∧ w.cell? ⟨g, 6, none⟩ = some vb
theorem c7_of {w : World} {g : Nat} {e : Ev} {vb : Value} (h : w.heap[g]? = some (.cells (evCells e vb) 34 (0, 0))) : C7 w g e vb :=
  ⟨cell_of_row w g 0 _ _ _ h, cell_of_row w g 1 _ _ _ h, cell_of_row w g 2 _ _ _ h, cell_of_row w g 3 _ _ _ h, cell_of_row w g 4 _ _ _ h, cell_of_row w g 5 _ _ _ h, cell_of_row w g 6 _ _ _ h⟩
/-- An event alone, as a list. -/
theorem one_ev {P : Nat → Prop} {w : World} {g : Nat} {e : Ev} {a : Option Addr} {cp : Nat} (h : w.heap[g]? = some (.cells (evCells e (.slice a e.b.length cp)) 34 (0, 0))) (hb : IsB P w a e.b.length cp e.b) : IsEvs (fun _ => True) w (some ⟨g, 0, none⟩) 1 1 [e] := by
  obtain ⟨h0, h1, h2, h3, h4, h5, h6⟩ := c7_of h
  refine ⟨rfl, Nat.le_refl _, by unfold maxLen; omega, .inr ⟨g, 0, rfl, trivial, lt_of_block h, fun i e' he => ?_⟩⟩
  rcases i with _ | i
  · simp only [List.getElem?_cons_zero, Option.some.injEq] at he
    subst he
    exact ⟨a, cp, h0, h1, h2, h3, h4, h5, h6, IsB.weak hb (fun _ _ _ => trivial)⟩
  · simp at he

theorem se1 {Q : Nat → Prop} {w W w1 : World} {ax a1 : Option Addr} {cx c1 : Nat} {es : List Ev} {ev : Ev} {o : Obj} (ho : Obj.cells (evCells ev (.slice a1 ev.b.length c1)) 34 = o) (D : Chg (fun _ => False) w W) (hres : Res W w1 ax cx es) (hb : IsB Q w a1 ev.b.length c1 ev.b) :
    Calls Try.prog 12 #[.slice ax es.length cx, .slice (some ⟨w1.heap.size, 0, none⟩) 1 1] (w1.alloc o) fun e w' => e = .returned (.bool (decide (es = [ev]))) ∧ Chg (fun _ => False) (w1.alloc o) w' := by
  subst ho
  exact same_events es [ev] _ (hres.is.kept ((Chg.refl (fun _ => False) w1).alloc _) (fun _ _ _ h => h)) (one_ev (heap_alloc_new w1 _) (hb.kept ((D.trans hres.chg).alloc _) (fun _ _ _ h => h)))
theorem se2 {Q : Nat → Prop} {w W w1 : World} {ax a1 : Option Addr} {cx c1 : Nat} {es : List Ev} {ev : Ev} {o : Obj} (ho : Obj.cells (evCells ev (.slice a1 ev.b.length c1)) 34 = o) (D : Chg (fun _ => False) w W) (hres : Res (W.alloc o).drew w1 ax cx es) (hb : IsB Q w a1 ev.b.length c1 ev.b) :
    Calls Try.prog 12 #[.slice ax es.length cx, .slice (some ⟨W.heap.size, 0, none⟩) 1 1] w1 fun e w' => e = .returned (.bool (decide (es = [ev]))) ∧ Chg (fun _ => False) w1 w' := by
  subst ho
  exact same_events es [ev] _ hres.is (one_ev ((hres.chg.block W.heap.size (by simp) (fun h => h)).trans (heap_alloc_new W _)) (hb.kept (((D.alloc _).drewN 1).trans hres.chg) (fun _ _ _ h => h)))

set_option maxRecDepth 100000 in
set_option maxHeartbeats 4000000 in
theorem is_any {P Q : Nat → Prop} (a0 a1 : Option Addr) (len cap c1 : Nat) (bs : List Int) (ev : Ev) (w : World) (h : IsB P w a0 len cap bs) (hm : len ≤ 1000000000) (hb : IsB Q w a1 ev.b.length c1 ev.b) :
    Calls Try.prog 19 #[.slice a0 len cap, .agg (evCells ev (.slice a1 ev.b.length c1))] w fun e w' => e = .returned (.bool (decide (evs bs = [ev]))) ∧ Chg (fun _ => False) w w' := by
  obtain ⟨o, ho⟩ : ∃ o, Obj.cells (evCells ev (.slice a1 ev.b.length c1)) 34 = o := ⟨_, rfl⟩
  obtain ⟨W0, hW0⟩ : ∃ W, W = w.alloc o := ⟨_, rfl⟩
  have C0 : Chg (fun _ => False) w W0 := by rw [hW0]; exact (Chg.refl _ w).alloc _
  have E0 : W0.heap[w.heap.size]? = some (.cells (evCells ev (.slice a1 ev.b.length c1)) 34 (0, 0)) := by rw [hW0, ho]; exact heap_alloc_new w _
  have D0 : Chg (fun _ => False) w W0.drew := C0.drewN 1
  have E1 : W0.drew.heap[w.heap.size]? = some (.cells (evCells ev (.slice a1 ev.b.length c1)) 34 (0, 0)) := E0
  have E2 : (W0.alloc o).drew.heap[w.heap.size]? = some (.cells (evCells ev (.slice a1 ev.b.length c1)) 34 (0, 0)) := (Below.heap_alloc W0 _ _ (lt_of_block E0)).trans E0
  have EV1 := events_is P a0 len cap bs W0.drew (h.kept D0 (fun _ _ _ h => h)) hm
  have EV2 := events_is P a0 len cap bs (W0.alloc o).drew (h.kept ((C0.alloc o).drewN 1) (fun _ _ _ h => h)) hm
  have S1 := c7_of E1
  have S2 := c7_of E2
  have hcs : o = .cells #[.int .i64 ev.k, .int .i64 ev.s, .int .i64 ev.who, .int .i64 ev.port, .int .i64 ev.conn, .int .i64 ev.n, .slice a1 ev.b.length c1] 34 := ho.symm
  have H := Lib.hid h; have HB := Lib.hid hb
  clear h hb
  replace ho := Lib.hid ho; replace hW0 := Lib.hid hW0; replace C0 := Lib.hid C0; replace E0 := Lib.hid E0; replace D0 := Lib.hid D0; replace E1 := Lib.hid E1; replace E2 := Lib.hid E2; replace EV1 := Lib.hid EV1; replace EV2 := Lib.hid EV2; replace S1 := Lib.hid S1; replace S2 := Lib.hid S2; replace hcs := Lib.hid hcs
  simp only [evCells]
  go_enter Try.func19, Try.ntmps19
  go_wp2_with fail
  rw [← hcs.out, ← hW0.out]
  go_region_held3 (fun w' => w'.cell? ⟨w.heap.size, 0, none⟩ = some (.int .i64 ev.k) ∧ w'.cell? ⟨w.heap.size, 1, none⟩ = some (.int .i64 ev.s) ∧ w'.cell? ⟨w.heap.size, 2, none⟩ = some (.int .i64 ev.who) ∧ w'.cell? ⟨w.heap.size, 3, none⟩ = some (.int .i64 ev.port) ∧
      w'.cell? ⟨w.heap.size, 4, none⟩ = some (.int .i64 ev.conn) ∧ w'.cell? ⟨w.heap.size, 5, none⟩ = some (.int .i64 ev.n) ∧ w'.cell? ⟨w.heap.size, 6, none⟩ = some (.slice a1 ev.b.length c1))
    (first | exact S1.out | (rw [← hcs.out]; exact S2.out) | exact c7_of RE.out | (rw [← hcs.out]; exact c7_of RA.out) | exact c7_of RF.out)
    (first
      | (go_at_call 10; (with_reducible refine EV1.out.mono ?_); rintro e w1 ⟨ax, cx, rfl, hres⟩; have RE := Lib.hid (show w1.heap[w.heap.size]? = _ from (hres.chg.block w.heap.size (lt_of_block E1.out) (fun h => h)).trans E1.out); have RA := Lib.hid (show (w1.alloc o).heap[w.heap.size]? = _ from (Below.heap_alloc _ _ _ (lt_of_block RE.out)).trans RE.out); have SE := Lib.hid (se1 ho.out D0.out hres HB.out); have CE := Lib.hid ((D0.out.trans hres.chg).alloc o); clear hres)
      | (go_at_call 10; (rw [← hcs.out]); (with_reducible refine EV2.out.mono ?_); rintro e w1 ⟨ax, cx, rfl, hres⟩; have RE := Lib.hid (show w1.heap[w.heap.size]? = _ from (hres.chg.block w.heap.size (lt_of_block E2.out) (fun h => h)).trans E2.out); have SE := Lib.hid (se2 ho.out C0.out hres HB.out); have CE := Lib.hid (((C0.out.alloc o).drewN 1).trans hres.chg); clear hres)
      | (go_at_call 12; (try rw [← hcs.out]); (with_reducible refine SE.out.mono ?_); rintro e w2 ⟨rfl, hc2⟩; have C2 := Lib.hid (CE.out.trans hc2); have RF := Lib.hid (show w2.heap[w.heap.size]? = _ from (hc2.block w.heap.size (lt_of_block (by first | exact RE.out | exact RA.out)) (fun h => h)).trans (by first | exact RE.out | exact RA.out)); clear hc2))
  all_goals
    go_wp2_with fail
    go_ret
    exact ⟨rfl, C2.out⟩

/-- Bytes in a new block. -/
theorem isb_lit (w : World) (row : List Int) (n : Nat) (hn : row.length = n) (hm : n ≤ 1000000) (hb : ∀ x ∈ row, 0 ≤ x ∧ x ≤ 255) : IsB (fun _ => True) (w.alloc (.cells (row.map (Value.int .u8)).toArray 5)) (some ⟨w.heap.size, 0, none⟩) n n row := by
  have h : Row (w.alloc (.cells (row.map (Value.int .u8)).toArray 5)) w.heap.size row := heap_alloc_new w _
  have h1 := h.isb (P := fun _ => True) n n (by omega) (Nat.le_refl _) (by unfold maxLen; omega) hb trivial
  rw [List.take_of_length_le (by omega)] at h1
  exact h1
theorem isb_nil (P : Nat → Prop) (w : World) : IsB P w none 0 0 [] := ⟨⟨rfl, (fun _ h => by cases h), .inl rfl⟩, Nat.le_refl _, Nat.zero_le _, .inl rfl⟩

/-- is, at bytes that stand in the text, and an event without bytes. -/
theorem is_lit (row : List Int) (n : Nat) (k s who port conn m : Int) (w : World) (hn : row.length = n) (hm : n ≤ 1000000) (hb : ∀ x ∈ row, 0 ≤ x ∧ x ≤ 255) (r : Bool) (hr : decide (evs row = [⟨k, s, who, port, conn, m, []⟩]) = r) :
    Calls Try.prog 19 #[.slice (some ⟨w.heap.size, 0, none⟩) n n, .agg #[.int .i64 k, .int .i64 s, .int .i64 who, .int .i64 port, .int .i64 conn, .int .i64 m, .slice none 0 0]] (w.alloc (.cells (row.map (Value.int .u8)).toArray 5)) fun e w' => e = .returned (.bool r) ∧ Chg (fun _ => False) w w' := by
  subst hr
  exact (is_any (Q := fun _ => True) _ none n n 0 row ⟨k, s, who, port, conn, m, []⟩ _ (isb_lit w row n hn hm hb) (by omega) (isb_nil _ _)).mono fun e w' h => ⟨h.1, ((Chg.refl _ w).alloc _).trans h.2⟩

set_option maxRecDepth 100000 in
set_option maxHeartbeats 1000000 in
theorem awake_any (w : World) : Calls Try.prog 15 #[] w fun e w' => e = .returned (.bool true) ∧ Chg (fun _ => False) w w' := by
  have I1 := is_lit [5, 0, 3] 3 6 0 0 0 0 3 w rfl (by omega) (by decide) true (by decide)
  have I2 := fun w1 => is_lit [1, 2, 0, 0, 0, 7] 6 2 2 7 0 0 0 w1 rfl (by omega) (by decide) true (by decide)
  replace I1 := Lib.hid I1; replace I2 := Lib.hid I2
  go_enter Try.func15, Try.ntmps15
  go_wp2_with fail
  refine I1.out.mono ?_
  rintro e w1 ⟨rfl, hc1⟩
  have C1 := Lib.hid hc1; clear hc1
  go_wp2_with fail
  refine (I2.out w1).mono ?_
  rintro e w2 ⟨rfl, hc2⟩
  have C2 := Lib.hid (C1.out.trans hc2); clear hc2
  go_wp2_with fail
  go_ret
  exact ⟨rfl, C2.out⟩

end Go.Proofs.Ythdobpfojdcagaa.Is
