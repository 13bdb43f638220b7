/-
  The walk of CopyEvents.
-/
import Derived.Test.YthdobpfojdcagaaCopy
import Derived.Test.YthdobpfojdcagaaBytes0
set_option linter.unusedVariables false
namespace Go.Proofs.Ythdobpfojdcagaa.CopyEv
open Go.RowKit Go.Proofs.Ythdobpfojdcagaa.Ev Go.Proofs.Ythdobpfojdcagaa.Next Go.Proofs.Ythdobpfojdcagaa.Li Go.Proofs.Ythdobpfojdcagaa.EventAny Go.Proofs.Ythdobpfojdcagaa.Events Go.Proofs.Ythdobpfojdcagaa.Same Go.Proofs.Ythdobpfojdcagaa.SameEv Go.Proofs.Ythdobpfojdcagaa.Is Go.Proofs.Ythdobpfojdcagaa.App Go.Proofs.Ythdobpfojdcagaa.Copy

/-- Events and their bytes in memory of its own. -/
structure OwnC (lo : Nat) (w : World) (v : Value) (xs : List (Ev × Value)) : Prop where
  row : w.ownsRow lo 34 7 v xs.length (evRow xs)
  bs : ∀ x ∈ xs, w.ownsRow lo 5 1 x.2 x.1.b.length (x.1.b.map (Value.int .u8))
theorem OwnC.kept {S : Nat → Prop} {w w' : World} {lo : Nat} {v : Value} {xs : List (Ev × Value)} (h : OwnC lo w v xs) (c : Chg S w w') (hs : ∀ b, lo ≤ b → ¬ S b) : OwnC lo w' v xs :=
  ⟨owns_kept h.row c hs, fun x hx => owns_kept (h.bs x hx) c hs⟩
theorem OwnC.snoc {lo : Nat} {w9 wa : World} {v v' : Value} {xs : List (Ev × Value)} {e : Ev} {vb : Value} (h : OwnC lo wa v xs) (hb : wa.ownsRow lo 5 1 vb e.b.length (e.b.map (Value.int .u8)))
    (hr : w9.ownsRow lo 34 7 v' (xs.length + 1) (evRow xs ++ (evCells e vb).toList)) (hg : wa.grownBy w9 v.ownBlock) : OwnC lo w9 v' (xs ++ [(e, vb)]) := by
  refine ⟨by rw [evRow_snoc, List.length_append]; exact hr, fun x hx => ?_⟩
  rw [List.mem_append] at hx
  have key : wa.ownsRow lo 5 1 x.2 x.1.b.length (x.1.b.map (Value.int .u8)) := by
    rcases hx with hx | hx
    · exact h.bs x hx
    · simp only [List.mem_singleton] at hx; subst hx; exact hb
  exact key.kept hg (rows_apart key h.row)
theorem OwnC.isEvs {lo : Nat} {w : World} {v : Value} {xs : List (Ev × Value)} (h : OwnC lo w v xs) (hb : ∀ x ∈ xs, ∀ y ∈ x.1.b, 0 ≤ y ∧ y ≤ 255) : ∃ a cap, v = .slice a xs.length cap ∧ IsEvs (fun _ => True) w a xs.length cap (xs.map (·.1)) :=
  OwnV.isEvs (lo := lo) ⟨h.row, fun x hx => by
    obtain ⟨a, c, e, k⟩ := isb_of_own (h.bs x hx) (hb x hx)
    exact ⟨a, c, e, IsB.weak k (fun _ _ _ => trivial)⟩⟩ (fun _ _ => trivial)

set_option maxRecDepth 100000 in
set_option maxHeartbeats 4000000 in
theorem copy_events {P : Nat → Prop} (a0 : Option Addr) (len cap : Nat) (es : List Ev) (w : World) (h : IsEvs P w a0 len cap es) (hl : len ≤ 5000) (hb : ∀ e ∈ es, e.b.length ≤ 5000) (hbd : ∀ e ∈ es, ∀ y ∈ e.b, 0 ≤ y ∧ y ≤ 255) :
    Calls Try.prog 22 #[.slice a0 len cap] w fun e w' => ∃ a c, e = .returned (.slice a len c) ∧ IsEvs (fun _ => True) w' a len c es ∧ Chg (fun _ => False) w w' := by
  obtain ⟨i0, hi0, hz0, hz1, hz2⟩ := info_parts Try.info34
  replace hi0 := Lib.hid hi0; replace hz0 := Lib.hid hz0; replace hz1 := Lib.hid hz1; replace hz2 := Lib.hid hz2
  have Hlen := Lib.hid h.len_eq
  have H := Lib.hid h; have HB := Lib.hid hb; have BD := Lib.hid hbd
  clear h hb hbd
  go_enter Try.func22, Try.ntmps22
  go_wp2_with fail
  go_loopg [3, 4] len (fun g v3 v4 wr => ∃ (i : Nat) (xs : List (Ev × Value)) (ao : Option Addr) (cp : Nat), i ≤ len ∧ g = len - i ∧ v4 = .int .i64 i ∧ v3 = .slice ao i cp ∧ xs.length = i ∧ xs.map (·.1) = es.take i ∧ OwnC w.heap.size wr (.slice ao i cp) xs ∧ Chg (fun _ => False) w wr)
  case atStart => exact ⟨0, [], none, 0, Nat.zero_le _, rfl, rfl, rfl, rfl, rfl, ⟨World.ownsRow_nil _ _ _ _, fun _ h => by cases h⟩, Chg.refl _ _⟩
  case round =>
    obtain ⟨i, xs, ao, cp, hi, hg, rfl, rfl, hxl, hxm, hown, hch⟩ := hrel
    have Hg := Lib.hid hg; have Hxl := Lib.hid hxl; have Hxm := Lib.hid hxm; have Hown := Lib.hid hown; have Hch := Lib.hid hch
    clear hg hxl hxm hown hch
    by_cases hlt : i < len
    · obtain ⟨ev, hev⟩ := evs_none H.out i hlt
      have hmem := List.mem_of_getElem? hev
      have hbl := HB.out ev hmem
      have HK := H.out.kept Hch.out (fun _ _ _ h => h)
      rcases HK.cells with h0 | ⟨g0, o0, rfl, hpg, hgl, hc0⟩
      · omega
      obtain ⟨b0, p0, ⟨d0, d1, d2, d3, d4, d5, d6, hb0⟩⟩ := hc0 i ev hev
      obtain ⟨o, ho⟩ : ∃ o, Obj.cells (evCells ev (.slice b0 ev.b.length p0)) 34 = o := ⟨_, rfl⟩
      have hcs : o = .cells #[.int .i64 ev.k, .int .i64 ev.s, .int .i64 ev.who, .int .i64 ev.port, .int .i64 ev.conn, .int .i64 ev.n, .slice b0 ev.b.length p0] 34 := ho.symm
      have CA : Chg (fun _ => False) wr (wr.alloc o) := (Chg.refl _ wr).alloc o
      have EA : (wr.alloc o).heap[wr.heap.size]? = some (.cells (evCells ev (.slice b0 ev.b.length p0)) 34 (0, 0)) := by rw [ho]; exact heap_alloc_new wr _
      have SA : (wr.alloc o).heap.size = wr.heap.size + 1 := by simp
      have CB := copy_bytes b0 ev.b.length p0 ev.b (wr.alloc o) (hb0.kept CA (fun _ _ _ h => h)) (by omega)
      have htk := Bytes0.take_snoc es i ev hev
      replace CB := Lib.hid CB; replace htk := Lib.hid htk; replace hev := Lib.hid hev; replace hmem := Lib.hid hmem; replace ho := Lib.hid ho; replace hcs := Lib.hid hcs; replace CA := Lib.hid CA; replace EA := Lib.hid EA; replace SA := Lib.hid SA
      clear HK hc0 hb0 hpg hgl
      go_wp2_with fail
      rw [← hcs.out]
      refine CB.out.mono ?_
      rintro e w2 ⟨pa, pc, rfl, op, c2⟩
      have R2 := (c2.block wr.heap.size (lt_of_block EA.out) (fun h => h)).trans EA.out
      have e0 := cell_of_row w2 wr.heap.size 0 _ _ _ R2
      have e1 := cell_of_row w2 wr.heap.size 1 _ _ _ R2
      have e2 := cell_of_row w2 wr.heap.size 2 _ _ _ R2
      have e3 := cell_of_row w2 wr.heap.size 3 _ _ _ R2
      have e4 := cell_of_row w2 wr.heap.size 4 _ _ _ R2
      have e5 := cell_of_row w2 wr.heap.size 5 _ _ _ R2
      have e6 := cell_of_row w2 wr.heap.size 6 _ _ _ R2
      have f6 := frozen_of_row w2 wr.heap.size 6 _ _ R2
      simp only [evCells] at e0 e1 e2 e3 e4 e5 e6
      have C3 : Chg (fun _ => False) wr (w2.setCell ⟨wr.heap.size, 6, none⟩ (.slice pa ev.b.length pc)) := (CA.out.trans c2).setCell (p := ⟨wr.heap.size, 6, none⟩) (.inr (Nat.le_refl _)) _
      obtain ⟨o2, ho2⟩ : ∃ o, Obj.cells (evCells ev (.slice pa ev.b.length pc)) 34 = o := ⟨_, rfl⟩
      have C4 := C3.alloc o2
      have OB := ((owns_kept (S := fun b => b = wr.heap.size) op ((Chg.refl (fun b => b = wr.heap.size) w2).setCell (p := ⟨wr.heap.size, 6, none⟩) (.inl rfl) (.slice pa ev.b.length pc)) (fun b hb e => by have := SA.out; omega)).mono (show w.heap.size ≤ (wr.alloc o).heap.size by have := SA.out; have := Hch.out.size; omega)).alloc o2
      have OC := Hown.out.kept C4 (fun _ _ h => h)
      have hnews := news_of_block (heap_alloc_new (w2.setCell ⟨wr.heap.size, 6, none⟩ (.slice pa ev.b.length pc)) (.cells (evCells ev (.slice pa ev.b.length pc)) 34))
      rw [show (w2.setCell ⟨wr.heap.size, 6, none⟩ (.slice pa ev.b.length pc)).heap.size = w2.heap.size by simp] at hnews
      have h1c : ∀ u ∈ (evCells ev (.slice pa ev.b.length pc)).toList, u.oneCell' = true := cells_one ev op
      have B3 : w.heap.size ≤ ((w2.setCell ⟨wr.heap.size, 6, none⟩ (.slice pa ev.b.length pc)).alloc o2).heap.size := Nat.le_trans Hch.out.size C4.size
      have CW := Lib.hid (Hch.out.trans C4)
      subst ho2
      rw [show i = xs.length from Hxl.out.symm] at OC
      have D1 := Lib.hid (show xs.length + 1 ≤ maxLen by rw [Hxl.out]; unfold maxLen; omega); have D2 := Lib.hid (show (xs.length + 1) * 72 ≤ 140737488355328 by rw [Hxl.out]; omega)
      replace OB := Lib.hid OB; replace OC := Lib.hid OC; replace hnews := Lib.hid hnews; replace h1c := Lib.hid h1c; replace B3 := Lib.hid B3
      clear R2 C3 C4 op c2 d0 d1 d2 d3 d4 d5 d6
      rw [show i = xs.length from Hxl.out.symm]
      have hxlt : xs.length < len := by rw [Hxl.out]; exact hlt
      go_wp2_with (at_builtin; refine wpList_append_lies _ rfl _ _ _ rfl w.heap.size 34 i0 _ 7 72 Try.underlying24 hi0.out hz0.out hz1.out hz2.out rfl (by omega) _ _ _ rfl OC.out.row _ 1 1 (evCells ev (.slice pa ev.b.length pc)).toList rfl rfl hnews.out h1c.out (by omega) D1.out D2.out B3.out _ rfl ?_; intro g cap9 w9 hown9 hgrow hat9 hlt9)
      have own9 := OC.out.snoc (v' := .slice (some ⟨g, 0, none⟩) (xs.length + 1) cap9) OB.out hown9 hgrow
      have C9 := CW.out.grown hgrow (fun b hb => .inr (OC.out.row.lt b hb).1)
      have hm9 : (xs ++ [(ev, Value.slice pa ev.b.length pc)]).map (·.1) = es.take (xs.length + 1) := by
        rw [List.map_append, Hxm.out, Hxl.out, htk.out]; rfl
      have hxl := Hxl.out; have hg := Hg.out
      clear hown9 hgrow hat9
      go_roundg (len - (xs.length + 1))
      case measure => omega
      case rel => exact ⟨xs.length + 1, xs ++ [(ev, .slice pa ev.b.length pc)], some ⟨g, 0, none⟩, cap9, by omega, rfl, by go_num, rfl, by simp, hm9, own9, C9⟩
    · have hie : i = len := by omega
      subst hie
      have hall : es.take i = es := List.take_of_length_le (by rw [Hlen.out]; exact Nat.le_refl _)
      have hm := Hxm.out
      rw [hall] at hm
      obtain ⟨a9, c9, hv9, hi9⟩ := Hown.out.isEvs (fun x hx => BD.out x.1 (by rw [← hm]; exact List.mem_map.2 ⟨x, hx, rfl⟩))
      rw [hm, Hxl.out] at hi9
      have HI := Lib.hid hi9
      clear hm hall hi9
      injection hv9 with e1 e2 e3
      subst e1 e3
      go_wp2_with fail
      go_ret
      exact ⟨ao, cp, rfl, HI.out, Hch.out⟩

end Go.Proofs.Ythdobpfojdcagaa.CopyEv
