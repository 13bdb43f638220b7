/-
  The walk of ScriptMany.
-/
import Derived.Test.YthdobpfojdcagaaPlain
import Derived.Test.YthdobpfojdcagaaPick
import Derived.Test.YthdobpfojdcagaaKnownW
set_option linter.unusedVariables false
namespace Go.Proofs.Ythdobpfojdcagaa.Many
open Go.RowKit Go.Proofs.Ythdobpfojdcagaa.Ev Go.Proofs.Ythdobpfojdcagaa.Fold Go.Proofs.Ythdobpfojdcagaa.Lay0 Go.Proofs.Ythdobpfojdcagaa.Bytes0 Go.Proofs.Ythdobpfojdcagaa.Plain Go.Proofs.Ythdobpfojdcagaa.Next Go.Proofs.Ythdobpfojdcagaa.U8 Go.Proofs.Ythdobpfojdcagaa.Li Go.Proofs.Ythdobpfojdcagaa.EventAny Go.Proofs.Ythdobpfojdcagaa.Events Go.Proofs.Ythdobpfojdcagaa.Same Go.Proofs.Ythdobpfojdcagaa.SameEv Go.Proofs.Ythdobpfojdcagaa.Is Go.Proofs.Ythdobpfojdcagaa.App Go.Proofs.Ythdobpfojdcagaa.RBytes Go.Proofs.Ythdobpfojdcagaa.Lay Go.Proofs.Ythdobpfojdcagaa.Bytes Go.Proofs.Ythdobpfojdcagaa.Reads Go.Proofs.Ythdobpfojdcagaa.KnownW

def tri (j : Nat) : List Int := [15, (j : Int) / 256, (j : Int) % 256]
def tick (j : Nat) : Ev := ⟨6, 0, 0, 0, 0, j, []⟩
def manyB (i : Nat) : List Int := (List.range i).flatMap tri
def manyE (i : Nat) : List Ev := (List.range i).map tick
theorem manyB_succ (i : Nat) : manyB (i + 1) = manyB i ++ tri i := by unfold manyB; rw [List.range_succ, List.flatMap_append]; simp
theorem manyE_succ (i : Nat) : manyE (i + 1) = manyE i ++ [tick i] := by unfold manyE; rw [List.range_succ, List.map_append]; rfl
theorem manyB_len (i : Nat) : (manyB i).length = 3 * i := by
  induction i with
  | zero => rfl
  | succ i ih => rw [manyB_succ, List.length_append, ih]; simp [tri]; omega
theorem manyE_len (i : Nat) : (manyE i).length = i := by simp [manyE]
theorem manyB_bd (i : Nat) (hi : i ≤ 4200) : ∀ x ∈ manyB i, 0 ≤ x ∧ x ≤ 255 := by
  intro x hx
  simp only [manyB, List.mem_flatMap, List.mem_range, tri, List.mem_cons, List.not_mem_nil, or_false] at hx
  obtain ⟨j, hj, rfl | rfl | rfl⟩ := hx <;> omega
theorem tri_chunk (j : Nat) (hj : j < 4200) : Chunk (tri j) (tick j) := by
  refine ⟨fun x hx => ?_, by simp [tri], ?_, ?_⟩
  · simp only [tri, List.mem_cons, List.not_mem_nil, or_false] at hx
    rcases hx with rfl | rfl | rfl <;> omega
  · have n0 : num (tri j) 0 1 % 10 + 1 = 6 := by show ((0 : Int) * 256 + 15) % 10 + 1 = 6; omega
    have n1 : num (tri j) 1 2 = (j : Int) := by show ((0 : Int) * 256 + (j : Int) / 256) * 256 + (j : Int) % 256 = j; omega
    unfold evAt
    rw [n0]
    simp [n1, tick]
  · have n0 : num (tri j) 0 1 % 10 + 1 = 6 := by show ((0 : Int) * 256 + 15) % 10 + 1 = 6; omega
    unfold evLen
    rw [n0]
    simp [tri]
theorem tick_ok (j : Nat) (hj : j < 4200) : OkE (tick j) := ⟨by simp [tick], back67 6 j (.inl rfl) (by omega) (by omega)⟩
theorem evs_many (i : Nat) (hi : i ≤ 4200) : evs (manyB i) = (manyE i).take 4096 := by
  have hc : ∀ c ∈ (List.range i).map (fun j => (tri j, tick j)), Chunk c.1 c.2 := by
    intro c hc
    rw [List.mem_map] at hc
    obtain ⟨j, hj, rfl⟩ := hc
    rw [List.mem_range] at hj
    exact tri_chunk j (by omega)
  have e1 : ((List.range i).map (fun j => (tri j, tick j))).flatMap (·.1) = manyB i := by rw [List.flatMap_map]; rfl
  have e2 : ((List.range i).map (fun j => (tri j, tick j))).map (·.2) = manyE i := by rw [List.map_map]; rfl
  by_cases h : i ≤ 4096
  · have h1 := evsF_chunks _ hc [] 4096 (by simpa using h)
    rw [e1, e2, List.append_nil, evsF_nil, List.append_nil] at h1
    rw [List.take_of_length_le (by rw [manyE_len]; exact h)]
    exact h1
  · have h1 := evsF_take _ hc [] 4096 (by simp; omega)
    rw [e1, e2, List.append_nil] at h1
    exact h1
theorem err_many (i : Nat) (hi : i ≤ 4200) : errOf (manyE i) = if i ≤ 4096 then 0 else 3 := by
  by_cases h : i ≤ 4096
  · rw [if_pos h]
    exact (err_ok (by rw [manyE_len]; omega) (fun e he => by
      simp only [manyE, List.mem_map, List.mem_range] at he
      obtain ⟨j, hj, rfl⟩ := he
      exact tick_ok j (by omega))).1
  · rw [if_neg h]
    exact (err_long (by rw [manyE_len]; omega)).1
theorem many_evok (i : Nat) (hi : i ≤ 4200) : ∀ e ∈ manyE i, EvOk e := by
  intro e he
  simp only [manyE, List.mem_map, List.mem_range] at he
  obtain ⟨j, hj, rfl⟩ := he
  exact ⟨by simp [tick], by simp [tick], by simp [tick], by simp [tick], by simp [tick], by simp [tick], by simp [tick], by simp [tick], by simp [tick], by simp [tick], by show (-9223372036854775808 : Int) ≤ (j : Int); omega, by show (j : Int) ≤ 9223372036854775807; omega⟩

/-- The first so many of events. -/
theorem IsEvs.take {P : Nat → Prop} {w : World} {a : Option Addr} {len cap : Nat} {es : List Ev} (h : IsEvs P w a len cap es) (n : Nat) (hn : n ≤ len) : IsEvs P w a n cap (es.take n) := by
  refine ⟨by rw [List.length_take, h.len_eq]; omega, Nat.le_trans hn h.capl, h.capm, ?_⟩
  by_cases h0 : n = 0
  · exact .inl h0
  · rcases h.cells with h1 | ⟨g, off, rfl, hg, hl, hc⟩
    · omega
    · refine .inr ⟨g, off, rfl, hg, hl, fun i e he => ?_⟩
      rw [List.getElem?_take] at he
      split at he
      · exact hc i e he
      · cases he
def manyX (i : Nat) : List (Ev × Value) := (List.range i).map fun j => (tick j, Value.slice none 0 0)
theorem manyX_succ (i : Nat) : manyX (i + 1) = manyX i ++ [(tick i, Value.slice none 0 0)] := by unfold manyX; rw [List.range_succ, List.map_append]; rfl
theorem manyX_len (i : Nat) : (manyX i).length = i := by simp [manyX]
theorem manyX_fst (i : Nat) : (manyX i).map (·.1) = manyE i := by unfold manyX manyE; rw [List.map_map]; rfl

/-- The bytes and the events so far. -/
structure MN (w wr : World) (i : Nat) (vb vl : Value) : Prop where
  ob : wr.ownsRow w.heap.size 5 1 vb (3 * i) ((manyB i).map (Value.int .u8))
  ol : OwnEvs w.heap.size wr vl (manyX i)
  chg : Chg (fun _ => False) w wr
theorem apart' {w : World} {b1 b2 s1 s2 : Nat} {v u : Value} {n m : Nat} {xs ys : List Value} (h : w.ownsRow b1 5 s1 v n xs) (k : w.ownsRow b2 34 s2 u m ys) : u.ownBlock = none ∨ u.ownBlock ≠ v.ownBlock := by
  rcases rows_apart h k with h1 | h1
  · cases hu : u.ownBlock with
    | none => exact .inl rfl
    | some b => right; rw [h1]; simp
  · exact .inr (Ne.symm h1)
theorem ol_keep {w : World} {lo : Nat} {vl : Value} {i : Nat} {w' : World} {row : Option Nat} (h : OwnEvs lo w vl (manyX i)) (hg : w.grownBy w' row) (hne : vl.ownBlock = none ∨ vl.ownBlock ≠ row) : OwnEvs lo w' vl (manyX i) := by
  refine ⟨h.row.kept hg hne, fun x hx => ?_⟩
  simp only [manyX, List.mem_map, List.mem_range] at hx
  obtain ⟨j, _, rfl⟩ := hx
  exact ⟨World.ownsRow_nil _ _ _ _, U8Row.nil _⟩
theorem MN.alloc {w wr : World} {i : Nat} {vb vl : Value} (h : MN w wr i vb vl) (o : Obj) : MN w (wr.alloc o) i vb vl :=
  ⟨h.ob.alloc o, h.ol.kept ((Chg.refl (fun _ => False) wr).alloc o) (fun _ _ k => k), h.chg.alloc o⟩
/-- Half a round: the bytes. -/
structure MH (w wr : World) (i : Nat) (vb vl : Value) : Prop where
  ob : wr.ownsRow w.heap.size 5 1 vb (3 * (i + 1)) ((manyB (i + 1)).map (Value.int .u8))
  ol : OwnEvs w.heap.size wr vl (manyX i)
  chg : Chg (fun _ => False) w wr
theorem MH.alloc {w wr : World} {i : Nat} {vb vl : Value} (h : MH w wr i vb vl) (o : Obj) : MH w (wr.alloc o) i vb vl :=
  ⟨h.ob.alloc o, h.ol.kept ((Chg.refl (fun _ => False) wr).alloc o) (fun _ _ k => k), h.chg.alloc o⟩
theorem MN.bytes {w wr w' : World} {i : Nat} {vb vb' vl : Value} (h : MN w wr i vb vl) (hg : wr.grownBy w' vb.ownBlock) (ho : w'.ownsRow w.heap.size 5 1 vb' (3 * i + 3) ((manyB i).map (Value.int .u8) ++ (tri i).map (Value.int .u8))) : MH w w' i vb' vl :=
  ⟨by rw [manyB_succ, List.map_append]; exact ho, ol_keep h.ol hg (apart' h.ob h.ol.row), h.chg.grown hg (fun b hb => .inr (h.ob.lt b hb).1)⟩
theorem MH.evs {w wr w' : World} {i : Nat} {vb vl vl' : Value} (h : MH w wr i vb vl) (hg : wr.grownBy w' vl.ownBlock) (ho : w'.ownsRow w.heap.size 34 7 vl' ((manyX i).length + 1) (evRow (manyX i) ++ (evCells (tick i) (.slice none 0 0)).toList)) : MN w w' (i + 1) vb vl' :=
  ⟨h.ob.kept hg (rows_apart h.ob h.ol.row), by rw [manyX_succ]; exact h.ol.snoc (World.ownsRow_nil _ _ _ _) (U8Row.nil _) ho hg, h.chg.grown hg (fun b hb => .inr (h.ol.row.lt b hb).1)⟩

set_option maxRecDepth 100000 in
set_option maxHeartbeats 4000000 in
theorem scriptMany_walk (a0 : Int) (W : World) (h0 : -9223372036854775808 ≤ a0) (h1 : a0 ≤ 9223372036854775807) :
    Calls Try.prog 4 #[.int .i64 a0] W fun e w' => e = .returned (.bool true) ∧ Below W.heap.size W w' := by
  obtain ⟨i0, hi0, hz0, hz1, hz2⟩ := info_parts Try.info5
  replace hi0 := Lib.hid hi0; replace hz0 := Lib.hid hz0; replace hz1 := Lib.hid hz1; replace hz2 := Lib.hid hz2
  obtain ⟨j0, hj0, hy0, hy1, hy2⟩ := info_parts Try.info34
  replace hj0 := Lib.hid hj0; replace hy0 := Lib.hid hy0; replace hy1 := Lib.hid hy1; replace hy2 := Lib.hid hy2
  have PK := Lib.hid (Pick.pick_pos a0 4200 W h0 h1 (by omega) (by omega))
  have q0 := Int.emod_nonneg a0 (show (4200 : Int) ≠ 0 by omega)
  have q1 := Int.emod_lt_of_pos a0 (show (0 : Int) < 4200 by omega)
  obtain ⟨N, hN⟩ := Int.eq_ofNat_of_zero_le q0
  rw [hN] at PK
  have hN1 : N < 4200 := by omega
  clear q0 q1 hN h0 h1
  go_enter Try.func4, Try.ntmps4
  go_wp2_with fail
  refine PK.out.mono ?_
  rintro e w1 ⟨rfl, rfl⟩
  go_wp2_with fail
  go_loopg [3, 4, 5] N (fun g v3 v4 v5 wr => ∃ (i : Nat) (ab al : Option Addr) (cb cl : Nat), i ≤ N ∧ g = N - i ∧ v5 = .int .i64 i ∧ v3 = .slice ab (3 * i) cb ∧ v4 = .slice al i cl ∧ MN W wr i (.slice ab (3 * i) cb) (.slice al i cl))
  case atStart => exact ⟨0, none, none, 0, 0, Nat.zero_le _, rfl, rfl, rfl, rfl, ⟨World.ownsRow_nil _ _ _ _, ⟨World.ownsRow_nil _ _ _ _, fun _ h => by cases h⟩, Chg.refl _ _⟩⟩
  case round =>
    obtain ⟨i, ab, al, cb, cl, hi, hg, rfl, rfl, rfl, hmn⟩ := hrel
    have Hg := Lib.hid hg; have M0 := Lib.hid hmn; clear hg hmn
    by_cases hlt : i < N
    · have M1 := Lib.hid (M0.out.alloc (.cells ((tri i).map (Value.int .u8)).toArray 5))
      have HN := Lib.hid (news_of_block (heap_alloc_new wr (.cells ((tri i).map (Value.int .u8)).toArray 5)))
      have H1 : ∀ u ∈ (tri i).map (Value.int .u8), u.oneCell' = true := by
        intro v hv; simp only [List.mem_map] at hv; obtain ⟨x, _, rfl⟩ := hv; rfl
      replace H1 := Lib.hid H1
      have B1 := Lib.hid (show 3 * i + 3 ≤ maxLen by unfold maxLen; omega); have B2 := Lib.hid (show (3 * i + 3) * 1 ≤ 140737488355328 by omega)
      have B3 := Lib.hid M1.out.chg.size
      have H2 := Lib.hid (cells_one (tick i) (World.ownsRow_nil W 0 5 1))
      have D1 := Lib.hid (show i + 1 ≤ maxLen by unfold maxLen; omega); have D2 := Lib.hid (show (i + 1) * 72 ≤ 140737488355328 by omega)
      go_wp2_with (first
        | (at_builtin; refine wpList_append_lies _ rfl (.tmp 16) (.tmp 22) _ rfl W.heap.size 5 i0 _ 1 1 Try.underlying22 hi0.out hz0.out hz1.out hz2.out rfl (by omega) _ _ _ rfl M1.out.ob _ 3 3 ((tri i).map (Value.int .u8)) rfl rfl HN.out H1.out (by omega) B1.out B2.out B3.out _ rfl ?_; intro g1 cap1 w9 hown9 hgrow hat9 hlt9; have M3 := Lib.hid ((M1.out.bytes hgrow hown9).alloc (.cells (evCells (tick i) (.slice none 0 0)) 34)); have HN2 := Lib.hid (news_of_block (heap_alloc_new w9 (.cells (evCells (tick i) (.slice none 0 0)) 34))); have D3 := Lib.hid M3.out.chg.size; clear hown9 hgrow hat9)
        | (at_builtin; refine wpList_append_lies _ rfl (.tmp 24) (.tmp 27) _ rfl W.heap.size 34 j0 _ 7 72 Try.underlying24 hj0.out hy0.out hy1.out hy2.out rfl (by omega) _ i _ rfl (by have h := M3.out.ol.row; rw [manyX_len] at h; exact h) _ 1 1 (evCells (tick i) (.slice none 0 0)).toList rfl rfl HN2.out H2.out (by omega) D1.out D2.out D3.out _ rfl ?_; intro g2 cap2 w8 hown8 hgrow8 hat8 hlt8))
      have M4 := Lib.hid (M3.out.evs hgrow8 (by rw [manyX_len]; exact hown8))
      clear hown8 hgrow8 hat8
      go_roundg (N - (i + 1))
      case measure => have := Hg.out; omega
      case rel => exact ⟨i + 1, some ⟨g1, 0, none⟩, some ⟨g2, 0, none⟩, cap1, cap2, by omega, rfl, by go_num, rfl, rfl, M4.out⟩
    · have hie : i = N := by omega
      subst hie
      have IB : IsB (fun _ => True) wr ab (3 * i) cb (manyB i) := by
        obtain ⟨a, c, hv, hb⟩ := isb_of_own (bs := manyB i) (v := .slice ab (3 * i) cb) (by rw [manyB_len]; exact M0.out.ob) (manyB_bd i (by omega))
        rw [manyB_len] at hv hb
        injection hv with e1 _ e2; subst e1; subst e2
        exact IsB.weak hb (fun _ _ _ => trivial)
      have IL : IsEvs (fun _ => True) wr al i cl (manyE i) := by
        obtain ⟨a, c, hv, hb⟩ := isEvs_of_own M0.out.ol (fun x hx => by
          simp only [manyX, List.mem_map, List.mem_range] at hx
          obtain ⟨j, _, rfl⟩ := hx
          intro y hy; cases hy)
        rw [manyX_len, manyX_fst] at hb
        rw [manyX_len] at hv
        injection hv with e1 _ e2; subst e1; subst e2
        exact hb.weak (fun _ _ _ => trivial)
      have hcl : i ≤ cl := IL.capl
      have hcl2 : cl ≤ 9223372036854775807 := by have := IL.capm; unfold maxLen at this; omega
      have hev := evs_many i (by omega)
      have her := err_many i (by omega)
      have E1 := events_is (fun _ => True) ab (3 * i) cb (manyB i) wr IB (by omega)
      have B1 := fun w => bytes_is (P := fun _ => True) al i cl (manyE i) w
      rw [hev] at E1
      by_cases hN : i ≤ 4096
      · rw [if_pos hN] at her
        rw [List.take_of_length_le (by rw [manyE_len]; exact hN), manyE_len] at E1
        rw [her] at B1
        have HE := Lib.hid E1; have HB := Lib.hid B1; have HL := Lib.hid IL
        clear E1 B1 IB IL hev her
        go_wp2_with fail
        refine HE.out.mono ?_
        rintro e w2 ⟨ax, cx, rfl, r2⟩
        have R2 := Lib.hid r2; replace HL := Lib.hid (HL.out.kept r2.chg (fun _ _ _ k => k)); have C2 := Lib.hid (M0.out.chg.trans r2.chg); clear r2
        go_wp2_with fail
        refine (HB.out w2 HL.out (many_evok i (by omega))).mono ?_
        rintro e w3 ⟨ay, cy, rfl, _, c3⟩
        have r3 := R2.out.is.kept c3 (fun _ _ _ k => k)
        rw [manyE_len] at r3
        have R3 := Lib.hid r3; clear r3; replace HL := Lib.hid (HL.out.kept c3 (fun _ _ _ k => k)); have C3 := Lib.hid (C2.out.trans c3); clear c3
        go_wp2_with fail
        refine (same_yes (manyE i) w3 R3.out HL.out).mono ?_
        rintro e w4 ⟨rfl, c4⟩
        have C4 := Lib.hid (C3.out.trans c4); clear c4
        go_wp2_with fail
        refine (awake_any w4).mono ?_
        rintro e w5 ⟨rfl, c5⟩
        have C5 := Lib.hid (C4.out.trans c5); clear c5
        go_wp2_with fail
        go_ret
        exact ⟨rfl, toBelow C5.out⟩
      · rw [if_neg hN] at her
        have hlen : ((manyE i).take 4096).length = 4096 := by rw [List.length_take, manyE_len]; omega
        rw [hlen] at E1
        rw [her] at B1
        have hbig : 4096 < i := by omega
        have hd : decide ((i : Int) ≤ 4096) = false := by simp; omega
        have HE := Lib.hid E1; have HB := Lib.hid B1; have HL := Lib.hid IL; have HLE := Lib.hid hlen
        clear E1 B1 IB IL hev her hlen
        go_wp2_with fail
        refine HE.out.mono ?_
        rintro e w2 ⟨ax, cx, rfl, r2⟩
        have R2 := Lib.hid r2; replace HL := Lib.hid (HL.out.kept r2.chg (fun _ _ _ k => k)); have C2 := Lib.hid (M0.out.chg.trans r2.chg); clear r2
        go_wp2_with fail
        refine (HB.out w2 HL.out (many_evok i (by omega))).mono ?_
        rintro e w3 ⟨ay, cy, rfl, _, c3⟩
        have r3 := R2.out.is.kept c3 (fun _ _ _ k => k)
        rw [HLE.out] at r3
        have R3 := Lib.hid r3; clear r3; replace HL := Lib.hid (HL.out.kept c3 (fun _ _ _ k => k)); have C3 := Lib.hid (C2.out.trans c3); clear c3
        go_wp2_with fail
        refine (same_yes ((manyE i).take 4096) w3 R3.out (IsEvs.take HL.out 4096 (by omega))).mono ?_
        rintro e w4 ⟨rfl, c4⟩
        have C4 := Lib.hid (C3.out.trans c4); clear c4
        go_wp2_with fail
        refine (awake_any w4).mono ?_
        rintro e w5 ⟨rfl, c5⟩
        have C5 := Lib.hid (C4.out.trans c5); clear c5
        go_wp2_with fail
        go_ret
        exact ⟨rfl, toBelow C5.out⟩

end Go.Proofs.Ythdobpfojdcagaa.Many
