/-
  The walk of LentBytes: a copy with room behind it, in which marks stand.
-/
import Derived.Test.YthdobpfojdcagaaSame
import Derived.Laws.CopyOwn
import Derived.Laws.MakeOwn
set_option linter.unusedVariables false
namespace Go.Proofs.Ythdobpfojdcagaa.Lent
open Go.RowKit Go.Proofs.Ythdobpfojdcagaa.Ev Go.Proofs.Ythdobpfojdcagaa.Next Go.Proofs.Ythdobpfojdcagaa.Fields Go.Proofs.Ythdobpfojdcagaa.Event Go.Proofs.Ythdobpfojdcagaa.Fold Go.Proofs.Ythdobpfojdcagaa.U8 Go.Proofs.Ythdobpfojdcagaa.Li Go.Proofs.Ythdobpfojdcagaa.EventAny Go.Proofs.Ythdobpfojdcagaa.Events Go.Proofs.Ythdobpfojdcagaa.Same

/-- A block of bytes, known whole. -/
def Row (w : World) (g : Nat) (row : List Int) : Prop := w.heap[g]? = some (.cells (row.map (Value.int .u8)).toArray 5 (0, 0))
theorem Row.cell {w : World} {g : Nat} {row : List Int} (h : Row w g row) (i : Nat) (hi : i < row.length) : w.cell? ⟨g, i, none⟩ = some (.int .u8 (byte row i)) := by
  rw [cell_of_row w g i _ _ (0, 0) h]
  unfold byte
  simp [List.getD_eq_getElem?_getD, List.getElem?_eq_getElem hi]
theorem Row.frozen {w : World} {g : Nat} {row : List Int} (h : Row w g row) (i : Nat) : w.frozen? ⟨g, i, none⟩ = false := frozen_of_row w g i _ _ h
theorem Row.set {w : World} {g : Nat} {row : List Int} (h : Row w g row) (i : Nat) (x : Int) : Row (w.setCell ⟨g, i, none⟩ (.int .u8 x)) g (row.set i x) := by
  have := heap_set h i (.int .u8 x)
  unfold Row
  rw [this, List.setIfInBounds_toArray, List.map_set]
theorem Row.kept {S : Nat → Prop} {w w' : World} {g : Nat} {row : List Int} (h : Row w g row) (c : Chg S w w') (hs : ¬ S g) : Row w' g row := by
  unfold Row; rw [c.block g (lt_of_block h) hs]; exact h
/-- A part of a block, as bytes. -/
theorem Row.isb {P : Nat → Prop} {w : World} {g : Nat} {row : List Int} (h : Row w g row) (n cap : Nat) (hn : n ≤ row.length) (hc : n ≤ cap) (hm : cap ≤ maxLen) (hb : ∀ x ∈ row, 0 ≤ x ∧ x ≤ 255) (hp : P g) : IsB P w (some ⟨g, 0, none⟩) n cap (row.take n) := by
  refine ⟨⟨by simp; omega, fun x hx => hb x (List.mem_of_mem_take hx), .inr ⟨g, 0, rfl, lt_of_block h, fun j hj => ?_⟩⟩, hc, hm, .inr ⟨g, 0, rfl, hp⟩⟩
  rw [Nat.zero_add, h.cell j (by omega)]
  unfold byte
  rw [List.getD_eq_getElem?_getD, List.getD_eq_getElem?_getD, List.getElem?_take, if_pos hj]

/-- What is lent: the bytes, and three marks. -/
def lent (bs : List Int) : List Int := bs ++ [160 + (bs.length : Int) % 90, 160 + ((bs.length : Int) + 1) % 90, 160 + ((bs.length : Int) + 2) % 90]
theorem lent_length (bs : List Int) : (lent bs).length = bs.length + 3 := by simp [lent]
theorem lent_bd {bs : List Int} (h : ∀ x ∈ bs, 0 ≤ x ∧ x ≤ 255) : ∀ x ∈ lent bs, 0 ≤ x ∧ x ≤ 255 := by
  intro x hx
  simp only [lent, List.mem_append, List.mem_cons, List.not_mem_nil, or_false] at hx
  rcases hx with hx | rfl | rfl | rfl
  · exact h x hx
  · omega
  · omega
  · omega
theorem lent_take (bs : List Int) : (lent bs).take bs.length = bs := by simp [lent]
theorem lent_at (bs : List Int) (i : Nat) (h0 : bs.length ≤ i) (h1 : i < bs.length + 3) : (lent bs)[i]? = some (160 + (i : Int) % 90) := by
  unfold lent
  rw [List.getElem?_append_right h0]
  obtain ⟨d, rfl⟩ : ∃ d, i = bs.length + d := ⟨i - bs.length, by omega⟩
  rw [Nat.add_sub_cancel_left]
  match d, (show d < 3 by omega) with
  | 0, _ => simp
  | 1, _ => simp
  | 2, _ => simp
theorem lent_step {bs row : List Int} {i : Nat} (hl : row.length = bs.length + 3) (h : row.take i = (lent bs).take i) (h0 : bs.length ≤ i) (h1 : i < bs.length + 3) : (row.set i (160 + (i : Int) % 90)).take (i + 1) = (lent bs).take (i + 1) := by
  have e := lent_at bs i h0 h1
  have hl2 : i < (lent bs).length := by rw [lent_length]; exact h1
  rw [List.getElem?_eq_getElem hl2] at e; injection e with e
  have hl3 : i < (row.set i (160 + (i : Int) % 90)).length := by simp; omega
  rw [List.take_succ_eq_append_getElem hl2, e, List.take_succ_eq_append_getElem hl3, List.getElem_set_self, List.take_set_of_le (Nat.le_refl i), h]
theorem Chg.ofBelow {w w' : World} (h : Below w.heap.size w w') : Chg (fun _ => False) w w' := ⟨h.os, h.tape, h.output, h.size, fun k hk _ => h.block k hk⟩

theorem made_u8 (n : Nat) : madeCells (Value.int .u8 0).cells (n * 1) = ((List.replicate n (0 : Int)).map (Value.int .u8)).toArray := by
  apply Array.ext'
  simp only [madeCells, Value.cells, Array.toList_map, List.map_replicate]
  rw [List.eq_replicate_iff]
  refine ⟨by simp, fun b hb => ?_⟩
  simp only [List.mem_map] at hb
  obtain ⟨i, _, rfl⟩ := hb
  show (#[Value.int .u8 0] : Array Value)[i % 1]! = _
  rw [Nat.mod_one]; rfl

theorem run_make3 (len : Nat) (hm : len ≤ 1000000000) (w : World) : (Instr.makeSlice 22 (.int .i64 ((len : Int) + 3)) (.int .i64 ((len : Int) + 3))).run Try.prog w =
    .ok (.slice (some ⟨w.heap.size, 0, none⟩) (len + 3) (len + 3)) (w.alloc (.cells (Array.replicate (len + 3) (Value.int .u8 0)) 5)) := by
  obtain ⟨i0, hi0, hz0, hz1, hz2⟩ := info_parts Try.info5
  have h := run_make (P := Try.prog) w 22 5 i0 (.int .u8 0) Try.underlying22 hi0 hz0 .i64 .i64 ((len : Int) + 3) ((len : Int) + 3) (by omega) (by omega) (by rw [hz2]; omega) (by omega)
  rw [hz1, show ((len : Int) + 3).toNat = len + 3 by omega, made_u8] at h
  rw [h]; simp

theorem src_cells {P : Nat → Prop} {w : World} {a : Option Addr} {len cap : Nat} {bs : List Int} (h : IsB P w a len cap bs) (o : Obj) : 0 < (bs.map (Value.int .u8)).length → ∃ ad, a = some ad ∧ ∀ j v, (bs.map (Value.int .u8))[j]? = some v → (w.alloc o).cell? (ad.add j) = some v := by
  intro hp
  rcases h.bytes.2.2 with h0 | ⟨b, off, rfl, hb, hc⟩
  · rw [List.length_map, h.bytes.1] at hp; omega
  · refine ⟨_, rfl, fun j v hj => ?_⟩
    have hjl : j < bs.length := by
      rcases Nat.lt_or_ge j bs.length with h | h
      · exact h
      · rw [List.getElem?_eq_none (by simpa using h)] at hj; cases hj
    rw [List.getElem?_map, List.getElem?_eq_getElem hjl] at hj
    simp only [Option.map_some, Option.some.injEq] at hj
    subst hj
    have e := hc j (by rw [← h.bytes.1]; exact hjl)
    have e2 : (⟨b, off, none⟩ : Addr).add j = ⟨b, off + j, none⟩ := by unfold Addr.add; split <;> simp_all
    rw [e2, World.cell?_alloc_lt w o ⟨b, off + j, none⟩ hb, e]
    unfold byte
    rw [List.getD_eq_getElem?_getD, List.getElem?_eq_getElem hjl]; rfl

set_option maxRecDepth 100000 in
set_option maxHeartbeats 2000000 in
theorem lent_any (P : Nat → Prop) (a0 : Option Addr) (len cap : Nat) (bs : List Int) (w : World) (h : IsB P w a0 len cap bs) (hm : len ≤ 1000000000) :
    Calls Try.prog 9 #[.slice a0 len cap] w fun e w' => e = .returned (.slice (some ⟨w.heap.size, 0, none⟩) len (len + 3)) ∧ Row w' w.heap.size (lent bs) ∧ Chg (fun _ => False) w w' := by
  have H := Lib.hid h; clear h
  have hmk := run_make3 len hm
  have hsz : (Try.prog.info? 5).map (·.size) = some 1 := by
    obtain ⟨i0, hi0, _, hz1, _⟩ := info_parts Try.info5
    rw [hi0]; simp [hz1]
  replace hsz := Lib.hid hsz
  go_enter Try.func9, Try.ntmps9
  have hg0 : (w.alloc (.cells (Array.replicate (len + 3) (Value.int .u8 0)) 5)).heap[w.heap.size]? = some (.cells (List.replicate (len + 3) (Value.int .u8 0)).toArray 5 (0, 0)) := by
    rw [List.toArray_replicate]; exact heap_alloc_new w _
  have hb0 : Below w.heap.size w (w.alloc (.cells (Array.replicate (len + 3) (Value.int .u8 0)) 5)) := (Below.refl _ _).alloc (Nat.le_refl _) _
  have hpos := src_cells H.out (.cells (Array.replicate (len + 3) (Value.int .u8 0)) 5)
  have hn : (bs.map (Value.int .u8)).length = Nat.min len (len + 3) := by rw [List.length_map, H.out.bytes.1]; exact (Nat.min_eq_left (by omega)).symm
  have hfit : 0 + (bs.map (Value.int .u8)).length ≤ (List.replicate (len + 3) (Value.int .u8 0)).length := by rw [List.length_map, H.out.bytes.1, List.length_replicate]; omega
  have h1 : ∀ v ∈ bs.map (Value.int .u8), v.oneCell' = true := by
    intro v hv; simp only [List.mem_map] at hv; obtain ⟨x, _, rfl⟩ := hv; rfl
  replace hg0 := Lib.hid hg0; replace hb0 := Lib.hid hb0; replace hpos := Lib.hid hpos; replace hn := Lib.hid hn; replace hfit := Lib.hid hfit; replace h1 := Lib.hid h1
  go_wp2_with ((refine wpList_copy_splice rfl (.tmp 9) (.tmp 10) 22 22 (by rfl) 5 Try.underlying22 hsz.out (some ⟨w.heap.size, 0, none⟩) a0 (len + 3) (len + 3) len cap (by rfl) (by rfl) w.heap.size 0 _ _ hg0.out (bs.map (Value.int .u8)) hn.out (fun hp => ⟨rfl, hpos.out hp⟩) hfit.out h1.out w.heap.size w hb0.out (Nat.le_refl _) ?_); intro w1 hw1 hbw1)
  have r1 : Row w1 w.heap.size (bs ++ [0, 0, 0]) := by
    have e := hw1.out
    rw [show splice (List.replicate (len + 3) (Value.int .u8 0)) 0 (bs.map (Value.int .u8)) = (bs ++ [0, 0, 0]).map (Value.int .u8) by
      unfold splice
      rw [List.length_map, H.out.bytes.1, Nat.zero_add, List.take_zero, List.nil_append, List.drop_replicate, Nat.add_sub_cancel_left, List.map_append]; rfl] at e
    exact e
  have c1 := Chg.ofBelow hbw1
  have hbl := Lib.hid H.out.bytes.1
  have hbd := Lib.hid H.out.bytes.2.1
  have R1 := Lib.hid r1; have C1 := Lib.hid c1
  clear r1 c1 hmk hg0 hb0 hpos hn hfit h1 hw1 hbw1
  go_loopg [4] 3 (fun g v4 wr => ∃ (d : Nat) (row : List Int), d ≤ 3 ∧ g = 3 - d ∧ v4 = .int .i64 (len + d : Nat) ∧ Row wr w.heap.size row ∧ row.length = len + 3 ∧ row.take (len + d) = (lent bs).take (len + d) ∧ Chg (fun _ => False) w wr)
  case atStart =>
    refine ⟨0, _, by omega, rfl, rfl, R1.out, by simp [hbl.out], ?_, C1.out⟩
    unfold lent
    rw [Nat.add_zero, ← hbl.out, List.take_left, List.take_left]
  case round =>
    obtain ⟨d, row, hd, hg, rfl, hr, hrl, htk, hch⟩ := hrel
    obtain ⟨i, hi⟩ : ∃ i, len + d = i := ⟨_, rfl⟩
    rw [hi] at htk ⊢
    have hil : i ≤ len + 3 := by omega
    have hi0 : len ≤ i := by omega
    by_cases hlt : i < len + 3
    · have cx := hr.cell i (by omega)
      have fx := hr.frozen i
      have hst := lent_step (bs := bs) (row := row) (i := i) (by rw [hbl.out]; exact hrl) htk (by rw [hbl.out]; exact hi0) (by rw [hbl.out]; exact hlt)
      have HR := Lib.hid (hr.set i (160 + (i : Int) % 90))
      have HC := Lib.hid (hch.setCell (p := ⟨w.heap.size, i, none⟩) (.inr (Nat.le_refl _)) (.int .u8 (160 + (i : Int) % 90)))
      have hw8 : IntKind.u8.wrap (160 + (i : Int) % 90) = 160 + (i : Int) % 90 := by rw [IntKind.wrap_u8]; omega
      replace hi := Lib.hid hi; replace hg := Lib.hid hg; replace hst := Lib.hid hst; replace htk := Lib.hid htk; replace hrl := Lib.hid hrl; replace hch := Lib.hid hch; replace hr := Lib.hid hr
      go_wp2_with fail
      go_roundg (3 - (d + 1))
      case measure => have := hg.out; have := hi.out; omega
      case rel => exact ⟨d + 1, _, by have := hi.out; omega, rfl, by have := hi.out; exact congrArg _ (by omega), HR.out, by simpa using hrl.out, by rw [← Nat.add_assoc, hi.out]; exact hst.out, HC.out⟩
    · have hie : i = len + 3 := by omega
      have hfull : row = lent bs := by
        rw [List.take_of_length_le (by omega), List.take_of_length_le (by rw [lent_length, hbl.out]; omega)] at htk
        exact htk
      subst hfull
      replace hi := Lib.hid hi; replace hg := Lib.hid hg; replace htk := Lib.hid htk; replace hrl := Lib.hid hrl; replace hch := Lib.hid hch; replace hr := Lib.hid hr
      go_wp2_with fail
      go_ret
      exact ⟨rfl, hr.out, hch.out⟩

end Go.Proofs.Ythdobpfojdcagaa.Lent
