/-
  The walks of OverBytes and OverEvents: what is written over is the events' own memory.
-/
import Derived.Test.YthdobpfojdcagaaSame
set_option linter.unusedVariables false
namespace Go.Proofs.Ythdobpfojdcagaa.Over
open Go.RowKit Go.Proofs.Ythdobpfojdcagaa.Ev Go.Proofs.Ythdobpfojdcagaa.Next Go.Proofs.Ythdobpfojdcagaa.Fields Go.Proofs.Ythdobpfojdcagaa.Event Go.Proofs.Ythdobpfojdcagaa.Fold Go.Proofs.Ythdobpfojdcagaa.U8 Go.Proofs.Ythdobpfojdcagaa.Li Go.Proofs.Ythdobpfojdcagaa.EventAny Go.Proofs.Ythdobpfojdcagaa.Events

/-- A block of so many bytes. -/
def Blk (w : World) (g c : Nat) : Prop := ∃ cur, w.heap[g]? = some (.cells cur 5 (0, 0)) ∧ cur.size = c ∧ ∀ u ∈ cur.toList, IsU8 u
theorem Blk.lt {w : World} {g c : Nat} (h : Blk w g c) : g < w.heap.size := by obtain ⟨cur, h1, _⟩ := h; exact lt_of_block h1
theorem Blk.at {w : World} {g c : Nat} (h : Blk w g c) (i : Nat) (hi : i < c) : ∃ x : Int, 0 ≤ x ∧ x ≤ 255 ∧ w.cell? ⟨g, i, none⟩ = some (.int .u8 x) ∧ w.frozen? ⟨g, i, none⟩ = false := by
  obtain ⟨cur, h1, h2, h3⟩ := h
  have hi2 : i < cur.size := by omega
  obtain ⟨x, x0, x1, hx⟩ := h3 cur[i] (Array.getElem_mem_toList hi2)
  refine ⟨x, x0, x1, ?_, frozen_of_row w g i cur _ h1⟩
  rw [cell_of_row w g i cur _ (0, 0) h1, Array.getElem?_eq_getElem hi2, hx]
theorem Blk.set {w : World} {g c : Nat} (h : Blk w g c) (i : Nat) {u : Value} (hu : IsU8 u) : Blk (w.setCell ⟨g, i, none⟩ u) g c := by
  obtain ⟨cur, h1, h2, h3⟩ := h
  refine ⟨_, heap_set h1 i u, by simpa using h2, fun z hz => ?_⟩
  rw [Array.toList_setIfInBounds] at hz
  rcases List.mem_or_eq_of_mem_set hz with h | h
  · exact h3 z h
  · rw [h]; exact hu
theorem Blk.kept {S : Nat → Prop} {w w' : World} {g c : Nat} (h : Blk w g c) (k : Chg S w w') (hs : ¬ S g) : Blk w' g c := by
  obtain ⟨cur, h1, h2, h3⟩ := h
  exact ⟨cur, by rw [k.block g (lt_of_block h1) hs]; exact h1, h2, h3⟩
theorem Blk.size_eq {w : World} {g c d : Nat} (h : Blk w g c) (k : Blk w g d) : c = d := by
  obtain ⟨cur, h1, h2, _⟩ := h
  obtain ⟨cur', k1, k2, _⟩ := k
  rw [h1] at k1; injection k1 with k1; injection k1 with k1 _ _; subst k1; omega

theorem xor_u8 {x : Int} (h0 : 0 ≤ x) (h1 : x ≤ 255) : IsU8 (.int .u8 (bits .xor .u8 x 90)) := by
  obtain ⟨N, rfl⟩ := Int.eq_ofNat_of_zero_le h0
  refine ⟨_, ?_, ?_, rfl⟩
  · show 0 ≤ IntKind.u8.wrap _
    rw [IntKind.wrap_u8]; omega
  · show IntKind.u8.wrap _ ≤ 255
    rw [IntKind.wrap_u8]; omega

set_option maxRecDepth 100000 in
set_option maxHeartbeats 2000000 in
theorem over_bytes (g n c : Nat) (w : World) (h : Blk w g c) (hn : n ≤ c) (hm : c ≤ maxLen) :
    Calls Try.prog 30 #[.slice (some ⟨g, 0, none⟩) n c] w fun e w' => e = .returned (.tuple #[]) ∧ Blk w' g c ∧ Chg (· = g) w w' := by
  have H := Lib.hid h; clear h
  unfold maxLen at hm
  go_enter Try.func30, Try.ntmps30
  go_wp2_with fail
  go_loopg [3] c (fun k v3 wr => ∃ i : Nat, i ≤ c ∧ k = c - i ∧ v3 = .int .i64 i ∧ Blk wr g c ∧ Chg (· = g) w wr)
  case atStart => exact ⟨0, Nat.zero_le _, rfl, rfl, H.out, Chg.refl _ _⟩
  case round =>
    obtain ⟨i, hi, hg, rfl, hb, hch⟩ := hrel
    have Hg := Lib.hid hg; have Hb := Lib.hid hb; have Hch := Lib.hid hch; clear hg hb hch
    by_cases hlt : i < c
    · obtain ⟨x, x0, x1, cx, fx⟩ := Hb.out.at i hlt
      have ux := Lib.hid (xor_u8 x0 x1)
      go_wp2_with fail
      have HB := Lib.hid (Hb.out.set i ux.out)
      have HC := Lib.hid (Hch.out.setCell (p := ⟨g, i, none⟩) (.inl rfl) (.int .u8 (bits .xor .u8 x 90)))
      go_roundg (c - (i + 1))
      case measure => have := Hg.out; omega
      case rel => exact ⟨i + 1, by omega, rfl, by go_num, HB.out, HC.out⟩
    · have hie : i = c := by omega
      subst hie
      go_wp2_with fail
      go_end0
      exact ⟨rfl, Hb.out, Hch.out⟩

/-- A slice of bytes of its own, or nil. -/
def U8V (P : Nat → Prop) (w : World) (v : Value) : Prop := v = .slice none 0 0 ∨ ∃ g n c, v = .slice (some ⟨g, 0, none⟩) n c ∧ P g ∧ Blk w g c ∧ n ≤ c ∧ c ≤ maxLen
/-- Bytes alone are written over. -/
def OB (P : Nat → Prop) (w w' : World) : Prop := ∃ G : Nat → Prop, Chg G w w' ∧ ∀ b, G b → P b ∧ ∃ c, Blk w b c ∧ Blk w' b c
theorem OB.blk {P : Nat → Prop} {w w' : World} (h : OB P w w') {g c : Nat} (k : Blk w g c) : Blk w' g c := by
  obtain ⟨G, hc, hG⟩ := h
  by_cases hg : G g
  · obtain ⟨_, d, k1, k2⟩ := hG g hg
    rw [k.size_eq k1]; exact k2
  · exact k.kept hc hg
theorem OB.chg {P : Nat → Prop} {w w' : World} (h : OB P w w') : Chg P w w' := by
  obtain ⟨G, hc, hG⟩ := h
  exact hc.weak (fun b _ hb => (hG b hb).1)
theorem OB.row {P : Nat → Prop} {w w' : World} (h : OB P w w') {g : Nat} {cur : Array Value} (k : w.heap[g]? = some (.cells cur 34 (0, 0))) : w'.heap[g]? = some (.cells cur 34 (0, 0)) := by
  obtain ⟨G, hc, hG⟩ := h
  rw [hc.block g (lt_of_block k) ?_]; exact k
  intro hg
  obtain ⟨_, d, ⟨cur', k1, _⟩, _⟩ := hG g hg
  rw [k] at k1; injection k1 with k1; injection k1 with _ k2 _
  exact absurd k2 (by decide)
theorem U8V.ob {P : Nat → Prop} {w w' : World} {v : Value} (h : U8V P w v) (k : OB P w w') : U8V P w' v := by
  rcases h with rfl | ⟨g, n, c, rfl, hg, hb, h1, h2⟩
  · exact .inl rfl
  · exact .inr ⟨g, n, c, rfl, hg, k.blk hb, h1, h2⟩

set_option maxHeartbeats 1000000 in
theorem over_any (P : Nat → Prop) (v : Value) (w : World) (h : U8V P w v) :
    Calls Try.prog 30 #[v] w fun e w' => e = .returned (.tuple #[]) ∧ OB P w w' := by
  rcases h with rfl | ⟨g, n, c, rfl, hg, hb, h1, h2⟩
  · go_enter Try.func30, Try.ntmps30
    go_wp2_with fail
    refine wp_loop_rounds 1 ?_
    rw [rounds_succ]
    go_wp2_with fail
    go_end0
    exact ⟨rfl, fun _ => False, Chg.refl _ _, fun _ h => h.elim⟩
  · exact (over_bytes g n c w hb h1 h2).mono fun e w' k => ⟨k.1, (· = g), k.2.2, fun b e => by subst e; exact ⟨hg, c, hb, k.2.1⟩⟩

theorem u8v_of_own {lo : Nat} {w : World} {v : Value} {n : Nat} {ys : List Value} (h : w.ownsRow lo 5 1 v n ys) (k : U8Row w v) : U8V (fun b => lo ≤ b ∧ b < w.heap.size) w v := by
  rcases h.2 with ⟨rfl, _⟩ | ⟨g, cap, cur, rfl, hb, hg, h1, h2, h3, _⟩
  · exact .inl rfl
  · obtain ⟨cur', k1, k2⟩ := k g rfl
    rw [hg] at k1; injection k1 with k1; injection k1 with k1 _ _; subst k1
    exact .inr ⟨g, n, cap, rfl, ⟨hb, lt_of_block hg⟩, ⟨cur, hg, by omega, k2⟩, h1, h2⟩
theorem U8V.kept {P S : Nat → Prop} {w w' : World} {v : Value} (h : U8V P w v) (c : Chg S w w') (hs : ∀ b, b < w.heap.size → P b → ¬ S b) : U8V P w' v := by
  rcases h with rfl | ⟨g, n, cp, rfl, hg, hb, h1, h2⟩
  · exact .inl rfl
  · exact .inr ⟨g, n, cp, rfl, hg, hb.kept c (hs g hb.lt hg), h1, h2⟩

/-- The events' own row, while it is written over. -/
structure OE (P : Nat → Prop) (w wr : World) (g : Nat) (xs : List (Ev × Value)) : Prop where
  chg : Chg P w wr
  row : ∃ cur, wr.heap[g]? = some (.cells cur 34 (0, 0)) ∧ xs.length * 7 ≤ cur.size ∧ ∀ i x, xs[i]? = some x → cur[i * 7 + 6]? = some x.2
  bs : ∀ x ∈ xs, U8V P wr x.2
theorem OE.ob {P : Nat → Prop} {w wr w' : World} {g : Nat} {xs : List (Ev × Value)} (h : OE P w wr g xs) (k : OB P wr w') : OE P w w' g xs := by
  obtain ⟨cur, h1, h2⟩ := h.row
  exact ⟨h.chg.trans k.chg, ⟨cur, k.row h1, h2⟩, fun x hx => (h.bs x hx).ob k⟩
theorem OE.cell {P : Nat → Prop} {w wr : World} {g : Nat} {xs : List (Ev × Value)} (h : OE P w wr g xs) (i : Nat) (x : Ev × Value) (hx : xs[i]? = some x) : wr.cell? ⟨g, i * 7 + 6, none⟩ = some x.2 := by
  obtain ⟨cur, h1, _, h2⟩ := h.row
  rw [cell_of_row wr g _ cur _ (0, 0) h1]; exact h2 i x hx
theorem OE.kind {P : Nat → Prop} {w wr : World} {g : Nat} {xs : List (Ev × Value)} (h : OE P w wr g xs) (i : Nat) (hi : i < xs.length) : ∃ u, wr.cell? ⟨g, i * 7, none⟩ = some u ∧ wr.frozen? ⟨g, i * 7, none⟩ = false := by
  obtain ⟨cur, h1, h2, _⟩ := h.row
  have hl : i * 7 < cur.size := by omega
  exact ⟨cur[i * 7], by rw [cell_of_row wr g _ cur _ (0, 0) h1, Array.getElem?_eq_getElem hl], frozen_of_row wr g _ cur _ h1⟩
theorem OE.set {P : Nat → Prop} {w wr : World} {g : Nat} {xs : List (Ev × Value)} (h : OE P w wr g xs) (hg : P g) (i : Nat) (u : Value) : OE P w (wr.setCell ⟨g, i * 7, none⟩ u) g xs := by
  obtain ⟨cur, h1, h2, h3⟩ := h.row
  refine ⟨h.chg.setCell (p := ⟨g, i * 7, none⟩) (.inl hg) u, ⟨_, heap_set h1 _ u, by simpa using h2, fun j x hx => ?_⟩, fun x hx => ?_⟩
  · rw [Array.getElem?_setIfInBounds_ne (by omega)]; exact h3 j x hx
  · have hne : ∀ b c, Blk wr b c → b ≠ g := by
      rintro b c ⟨cur', k1, _⟩ rfl
      rw [h1] at k1; injection k1 with k1; injection k1 with _ k2 _
      exact absurd k2 (by decide)
    rcases h.bs x hx with h | ⟨b, n, c, hv, hb, hk, h1', h2'⟩
    · exact .inl h
    · exact .inr ⟨b, n, c, hv, hb, hk.kept (S := fun b => b = g) ((Chg.refl (fun b => b = g) wr).setCell (p := ⟨g, i * 7, none⟩) (.inl rfl) u) (hne b c hk), h1', h2'⟩

set_option maxRecDepth 100000 in
set_option maxHeartbeats 2000000 in
theorem over_events (lo : Nat) (v : Value) (xs : List (Ev × Value)) (w0 w : World) (h : OwnEvs lo w0 v xs) (c0 : Chg (fun _ => False) w0 w) :
    Calls Try.prog 13 #[v] w fun e w' => e = .returned (.tuple #[]) ∧ Chg (fun b => lo ≤ b ∧ b < w0.heap.size) w w' := by
  rcases h.row.2 with ⟨rfl, h0⟩ | ⟨g, cap, cur, rfl, hg, hh, h1, h2, h3, h4⟩
  · clear h
    go_enter Try.func13, Try.ntmps13
    go_wp2_with fail
    refine wp_loop_rounds 1 ?_
    rw [rounds_succ]
    go_wp2_with fail
    go_end0
    exact ⟨rfl, Chg.refl _ _⟩
  · obtain ⟨P, hP⟩ : ∃ P : Nat → Prop, P = fun b => lo ≤ b ∧ b < w0.heap.size := ⟨_, rfl⟩
    have hPg : P g := by rw [hP]; exact ⟨hg, lt_of_block hh⟩
    have H0 : OE P w w g xs := by
      refine ⟨Chg.refl _ _, ⟨cur, by rw [c0.block g (lt_of_block hh) (fun h => h)]; exact hh, by omega, fun i x hx => ?_⟩, fun x hx => by rw [hP]; exact (u8v_of_own (h.bs x hx).1 (h.bs x hx).2).kept c0 (fun _ _ _ h => h)⟩
      have hil : i < xs.length := by
        rcases Nat.lt_or_ge i xs.length with h | h
        · exact h
        · rw [List.getElem?_eq_none h] at hx; cases hx
      have := Same.evRow_at xs i x hx 6 (by omega)
      rw [← h4, List.getElem?_take, if_pos (by omega), Array.getElem?_toList] at this
      rw [this]; rfl
    obtain ⟨n, hn⟩ : ∃ n, xs.length = n := ⟨_, rfl⟩
    have hn63 : n ≤ 9223372036854775807 := by unfold maxLen at h2; omega
    rw [hn]
    replace hn := Lib.hid hn
    replace H0 := Lib.hid H0
    rw [← hP]
    replace hP := Lib.hid hP
    clear h hh h1 h3 h4 c0
    go_enter Try.func13, Try.ntmps13
    go_wp2_with fail
    go_loopg [2] n (fun k v2 wr => ∃ i : Nat, i ≤ n ∧ k = n - i ∧ v2 = .int .i64 i ∧ OE P w wr g xs)
    case atStart => exact ⟨0, Nat.zero_le _, rfl, rfl, H0.out⟩
    case round =>
      obtain ⟨i, hi, hgk, rfl, hoe⟩ := hrel
      have Hg := Lib.hid hgk; have Hoe := Lib.hid hoe; clear hgk hoe
      by_cases hlt : i < n
      · have hx : xs[i]? = some (xs[i]'(by rw [hn.out]; exact hlt)) := List.getElem?_eq_getElem _
        obtain ⟨x, hxx⟩ : ∃ x, xs[i]'(by rw [hn.out]; exact hlt) = x := ⟨_, rfl⟩
        rw [hxx] at hx
        clear hxx
        have cx := Hoe.out.cell i x hx
        have hb := Lib.hid (Hoe.out.bs x (List.mem_of_getElem? hx))
        replace hx := Lib.hid hx
        go_wp2_with fail
        refine (over_any P x.2 wr hb.out).mono ?_
        rintro e w3 ⟨rfl, hob⟩
        have h3 := Hoe.out.ob hob
        obtain ⟨u, cu, fu⟩ := h3.kind i (by rw [hn.out]; exact hlt)
        have h4 := Lib.hid (h3.set hPg i (.int .i64 0))
        clear hob h3 cx
        go_wp2_with fail
        go_roundg (n - (i + 1))
        case measure => have := Hg.out; omega
        case rel => exact ⟨i + 1, by omega, rfl, by go_num, h4.out⟩
      · have hie : i = n := by omega
        subst hie
        go_wp2_with fail
        go_end0
        exact ⟨rfl, Hoe.out.chg⟩

end Go.Proofs.Ythdobpfojdcagaa.Over
