/-
  Bytes and events in memory, as they are read; the walks of SameBytes, SameEvent, SameEvents.
-/
import Derived.Test.YthdobpfojdcagaaEvents
import Derived.Laws.BytesArg
set_option linter.unusedVariables false
namespace Go.Proofs.Ythdobpfojdcagaa.Same
open Go.RowKit Go.Proofs.Ythdobpfojdcagaa.Ev Go.Proofs.Ythdobpfojdcagaa.Next Go.Proofs.Ythdobpfojdcagaa.Fields Go.Proofs.Ythdobpfojdcagaa.Event Go.Proofs.Ythdobpfojdcagaa.Fold Go.Proofs.Ythdobpfojdcagaa.U8 Go.Proofs.Ythdobpfojdcagaa.Li Go.Proofs.Ythdobpfojdcagaa.EventAny Go.Proofs.Ythdobpfojdcagaa.Events

theorem conv_isb {P : Nat → Prop} {w : World} {a : Option Addr} {len cap : Nat} {bs : List Int} (h : IsB P w a len cap bs) : (convert 22 9 (.slice a len cap)).run Try.prog w = .ok (.string (strOfNums bs)) w := by
  by_cases h0 : len = 0
  · have hb : bs = [] := List.eq_nil_of_length_eq_zero (by rw [h.bytes.1]; exact h0)
    subst hb; subst h0
    rcases a with _ | a
    · exact run_convert_bytes_nil w _ _ Try.underlying22 Try.underlying5 _ _ _ Try.underlying9
    · rw [run_convert_bytes_string w _ _ _ _ _ _ Try.underlying22 Try.underlying5 Try.underlying9, run_bytesToString w a 0 cap [] (run_loadCells_list (P := Try.prog) w a [] (fun j v hj => by simp at hj))]
      rfl
  · rcases h.bytes.2.2 with h1 | ⟨b, off, rfl, hb, hc⟩
    · exact absurd h1 h0
    · exact run_convert_bytes_arg w _ _ Try.underlying22 Try.underlying5 b off len cap bs h.bytes.1 hc _ Try.underlying9

theorem u8_inj {x y : Int} (hx : 0 ≤ x ∧ x ≤ 255) (hy : 0 ≤ y ∧ y ≤ 255) (h : UInt8.ofNat x.toNat = UInt8.ofNat y.toNat) : x = y := by
  have := congrArg UInt8.toNat h
  simp only [UInt8.toNat_ofNat'] at this
  omega
theorem map_inj {xs ys : List Int} (hx : ∀ x ∈ xs, 0 ≤ x ∧ x ≤ 255) (hy : ∀ x ∈ ys, 0 ≤ x ∧ x ≤ 255) (h : (xs.map fun n => UInt8.ofNat n.toNat) = ys.map fun n => UInt8.ofNat n.toNat) : xs = ys := by
  induction xs generalizing ys with
  | nil => cases ys with
    | nil => rfl
    | cons y ys => simp at h
  | cons x xs ih => cases ys with
    | nil => simp at h
    | cons y ys =>
      simp only [List.map_cons, List.cons.injEq] at h
      rw [u8_inj (hx x (List.mem_cons_self ..)) (hy y (List.mem_cons_self ..)) h.1, ih (fun z hz => hx z (List.mem_cons_of_mem _ hz)) (fun z hz => hy z (List.mem_cons_of_mem _ hz)) h.2]
theorem str_inj {xs ys : List Int} (hx : ∀ x ∈ xs, 0 ≤ x ∧ x ≤ 255) (hy : ∀ x ∈ ys, 0 ≤ x ∧ x ≤ 255) : strOfNums xs = strOfNums ys ↔ xs = ys := by
  constructor
  · intro h
    have := congrArg (fun b => b.data.toList) h
    simp only [strOfNums_data] at this
    exact map_inj hx hy this
  · rintro rfl; rfl

theorem str_eq {xs ys : List Int} (hx : ∀ x ∈ xs, 0 ≤ x ∧ x ≤ 255) (hy : ∀ x ∈ ys, 0 ≤ x ∧ x ≤ 255) : ((strOfNums xs).toList == (strOfNums ys).toList) = decide (xs = ys) := by
  rw [ByteArray.toList_eq, ByteArray.toList_eq, strOfNums_data, strOfNums_data, Bool.eq_iff_iff, beq_iff_eq, decide_eq_true_eq]
  exact ⟨map_inj hx hy, fun h => by rw [h]⟩

theorem same_bytes {P Q : Nat → Prop} {a0 a1 : Option Addr} {l0 c0 l1 c1 : Nat} {xs ys : List Int} (w : World) (h : IsB P w a0 l0 c0 xs) (k : IsB Q w a1 l1 c1 ys) :
    Calls Try.prog 20 #[.slice a0 l0 c0, .slice a1 l1 c1] w fun e w' => e = .returned (.bool (decide (xs = ys))) ∧ w = w' := by
  have h0 := conv_isb h
  have h1 := conv_isb k
  have hi := Lib.hid (str_eq h.bytes.2.1 k.bytes.2.1)
  clear h k
  go_enter Try.func20, Try.ntmps20
  go_wp2_with fail
  go_ret
  exact ⟨by rw [← hi.out]; rfl, rfl⟩

/-- An event at a place. -/
structure EvAt (P : Nat → Prop) (w : World) (g o : Nat) (e : Ev) (a : Option Addr) (cp : Nat) : Prop where
  c0 : w.cell? ⟨g, o, none⟩ = some (.int .i64 e.k)
  c1 : w.cell? ⟨g, o + 1, none⟩ = some (.int .i64 e.s)
  c2 : w.cell? ⟨g, o + 2, none⟩ = some (.int .i64 e.who)
  c3 : w.cell? ⟨g, o + 3, none⟩ = some (.int .i64 e.port)
  c4 : w.cell? ⟨g, o + 4, none⟩ = some (.int .i64 e.conn)
  c5 : w.cell? ⟨g, o + 5, none⟩ = some (.int .i64 e.n)
  c6 : w.cell? ⟨g, o + 6, none⟩ = some (.slice a e.b.length cp)
  isb : IsB P w a e.b.length cp e.b
/-- Events in a slice. -/
structure IsEvs (P : Nat → Prop) (w : World) (a : Option Addr) (len cap : Nat) (es : List Ev) : Prop where
  len_eq : es.length = len
  capl : len ≤ cap
  capm : cap ≤ maxLen
  cells : len = 0 ∨ ∃ g off, a = some ⟨g, off, none⟩ ∧ P g ∧ g < w.heap.size ∧ ∀ i e, es[i]? = some e → ∃ a1 cp, EvAt P w g (off + i * 7) e a1 cp

theorem EvAt.kept {P S : Nat → Prop} {w w' : World} {g o : Nat} {e : Ev} {a : Option Addr} {cp : Nat} (h : EvAt P w g o e a cp) (c : Chg S w w') (hs : ∀ b, b < w.heap.size → P b → ¬ S b) (hg : P g) (hl : g < w.heap.size) : EvAt P w' g o e a cp :=
  ⟨(c.cell (p := ⟨g, o, none⟩) hl (hs g hl hg)).trans h.c0, (c.cell (p := ⟨g, o + 1, none⟩) hl (hs g hl hg)).trans h.c1, (c.cell (p := ⟨g, o + 2, none⟩) hl (hs g hl hg)).trans h.c2, (c.cell (p := ⟨g, o + 3, none⟩) hl (hs g hl hg)).trans h.c3,
   (c.cell (p := ⟨g, o + 4, none⟩) hl (hs g hl hg)).trans h.c4, (c.cell (p := ⟨g, o + 5, none⟩) hl (hs g hl hg)).trans h.c5, (c.cell (p := ⟨g, o + 6, none⟩) hl (hs g hl hg)).trans h.c6, h.isb.kept c hs⟩
theorem IsEvs.kept {P S : Nat → Prop} {w w' : World} {a : Option Addr} {len cap : Nat} {es : List Ev} (h : IsEvs P w a len cap es) (c : Chg S w w') (hs : ∀ b, b < w.heap.size → P b → ¬ S b) : IsEvs P w' a len cap es := by
  refine ⟨h.len_eq, h.capl, h.capm, ?_⟩
  rcases h.cells with h0 | ⟨g, off, rfl, hg, hl, hc⟩
  · exact .inl h0
  · refine .inr ⟨g, off, rfl, hg, Nat.lt_of_lt_of_le hl c.size, fun i e he => ?_⟩
    obtain ⟨a1, cp, k⟩ := hc i e he
    exact ⟨a1, cp, k.kept c hs hg hl⟩
theorem IsB.weak {P P' : Nat → Prop} {w : World} {a : Option Addr} {len cap : Nat} {bs : List Int} (h : IsB P w a len cap bs) (hp : ∀ b, b < w.heap.size → P b → P' b) : IsB P' w a len cap bs := by
  refine ⟨h.bytes, h.capl, h.capm, ?_⟩
  rcases h.blk with h0 | ⟨b, off, rfl, hb⟩
  · exact .inl h0
  · rcases h.bytes.2.2 with h0 | ⟨b', off', e, hl, _⟩
    · exact .inl h0
    · injection e with e; injection e with e _ _; subst e
      exact .inr ⟨b, off, rfl, hp _ hl hb⟩
theorem IsEvs.weak {P P' : Nat → Prop} {w : World} {a : Option Addr} {len cap : Nat} {es : List Ev} (h : IsEvs P w a len cap es) (hp : ∀ b, b < w.heap.size → P b → P' b) : IsEvs P' w a len cap es := by
  refine ⟨h.len_eq, h.capl, h.capm, ?_⟩
  rcases h.cells with h0 | ⟨g, off, rfl, hg, hl, hc⟩
  · exact .inl h0
  · refine .inr ⟨g, off, rfl, hp g hl hg, hl, fun i e he => ?_⟩
    obtain ⟨a1, cp, k⟩ := hc i e he
    exact ⟨a1, cp, k.c0, k.c1, k.c2, k.c3, k.c4, k.c5, k.c6, IsB.weak k.isb hp⟩

/-- A row of bytes that is owned, as it is read. -/
theorem isb_of_own {w : World} {lo : Nat} {v : Value} {bs : List Int} (h : w.ownsRow lo 5 1 v bs.length (bs.map (Value.int .u8))) (hb : ∀ x ∈ bs, 0 ≤ x ∧ x ≤ 255) : ∃ a cap, v = .slice a bs.length cap ∧ IsB (lo ≤ ·) w a bs.length cap bs := by
  rcases h.2 with ⟨rfl, h0⟩ | ⟨g, cap, cur, rfl, hg, hh, h1, h2, h3, h4⟩
  · rw [h0]; exact ⟨none, 0, rfl, ⟨⟨h0, hb, .inl rfl⟩, Nat.le_refl _, Nat.zero_le _, .inl rfl⟩⟩
  · refine ⟨_, cap, rfl, ⟨⟨rfl, hb, .inr ⟨g, 0, rfl, lt_of_block hh, fun j hj => ?_⟩⟩, h1, h2, .inr ⟨g, 0, rfl, hg⟩⟩⟩
    rw [cell_of_row w g (0 + j) cur _ (0, 0) hh]
    have e : (cur.toList.take (bs.length * 1))[0 + j]? = (bs.map (Value.int .u8))[0 + j]? := by rw [h4]
    rw [List.getElem?_take, if_pos (by omega)] at e
    rw [Array.getElem?_toList] at e
    rw [e, List.getElem?_map]
    unfold byte
    rw [Nat.zero_add, List.getD_eq_getElem?_getD, List.getElem?_eq_getElem hj]; rfl

theorem evRow_at (xs : List (Ev × Value)) (i : Nat) (x : Ev × Value) (h : xs[i]? = some x) (j : Nat) (hj : j < 7) : (evRow xs)[i * 7 + j]? = (evCells x.1 x.2)[j]? := by
  induction xs generalizing i with
  | nil => simp at h
  | cons y xs ih =>
    have e : evRow (y :: xs) = (evCells y.1 y.2).toList ++ evRow xs := by unfold evRow; simp
    have l7 : (evCells y.1 y.2).toList.length = 7 := rfl
    rw [e]
    rcases i with _ | i
    · simp only [List.getElem?_cons_zero, Option.some.injEq] at h
      subst h
      rw [List.getElem?_append_left (by rw [l7]; omega)]
      simp
    · rw [List.getElem?_append_right (by rw [l7]; omega), l7, show (i + 1) * 7 + j - 7 = i * 7 + j by omega]
      exact ih i (by simpa using h)

/-- Events that are owned, as they are read. -/
theorem isEvs_of_own {w : World} {lo : Nat} {v : Value} {xs : List (Ev × Value)} (h : OwnEvs lo w v xs) (hb : ∀ x ∈ xs, ∀ y ∈ x.1.b, 0 ≤ y ∧ y ≤ 255) : ∃ a cap, v = .slice a xs.length cap ∧ IsEvs (lo ≤ ·) w a xs.length cap (xs.map (·.1)) := by
  rcases h.row.2 with ⟨rfl, h0⟩ | ⟨g, cap, cur, rfl, hg, hh, h1, h2, h3, h4⟩
  · rw [h0]; exact ⟨none, 0, rfl, ⟨by simpa using h0, Nat.le_refl _, Nat.zero_le _, .inl rfl⟩⟩
  · refine ⟨_, cap, rfl, ⟨by simp, h1, h2, .inr ⟨g, 0, rfl, hg, lt_of_block hh, fun i e he => ?_⟩⟩⟩
    rw [List.getElem?_map] at he
    obtain ⟨x, hx, rfl⟩ : ∃ x, xs[i]? = some x ∧ x.1 = e := by
      cases hx : xs[i]? with
      | none => rw [hx] at he; cases he
      | some x => rw [hx] at he; exact ⟨x, rfl, by simpa using he⟩
    have hm := List.mem_of_getElem? hx
    have hil : i < xs.length := by
      rcases Nat.lt_or_ge i xs.length with h | h
      · exact h
      · rw [List.getElem?_eq_none h] at hx; cases hx
    obtain ⟨a1, cp, ev, hb1⟩ := isb_of_own (h.bs x hm).1 (hb x hm)
    have key : ∀ j, j < 7 → w.cell? ⟨g, 0 + i * 7 + j, none⟩ = (evCells x.1 x.2)[j]? := by
      intro j hj
      rw [cell_of_row w g (0 + i * 7 + j) cur _ (0, 0) hh, ← evRow_at xs i x hx j hj, ← h4, List.getElem?_take, if_pos (by omega), Array.getElem?_toList, Nat.zero_add]
    refine ⟨a1, cp, key 0 (by omega), key 1 (by omega), key 2 (by omega), key 3 (by omega), key 4 (by omega), key 5 (by omega), ?_, hb1⟩
    rw [← ev]; exact key 6 (by omega)

end Go.Proofs.Ythdobpfojdcagaa.Same
