/-
  The walk of Events: the events of bytes, in memory of its own.
-/
import Derived.Test.YthdobpfojdcagaaEventAny
import Derived.Outline
set_option linter.unusedVariables false
namespace Go.Proofs.Ythdobpfojdcagaa.Events
open Go.RowKit Go.Proofs.Ythdobpfojdcagaa.Ev Go.Proofs.Ythdobpfojdcagaa.Next Go.Proofs.Ythdobpfojdcagaa.Fields Go.Proofs.Ythdobpfojdcagaa.Event Go.Proofs.Ythdobpfojdcagaa.Fold Go.Proofs.Ythdobpfojdcagaa.U8 Go.Proofs.Ythdobpfojdcagaa.Li Go.Proofs.Ythdobpfojdcagaa.EventAny

theorem Try.info34 : (Try.prog.info? 34).map (fun i => (i.zero, i.size, i.bytes)) = some (some (.agg #[.int .i64 0, .int .i64 0, .int .i64 0, .int .i64 0, .int .i64 0, .int .i64 0, .slice none 0 0]), 7, 72) := by kernel_rfl

def evRow (xs : List (Ev × Value)) : List Value := xs.flatMap fun x => (evCells x.1 x.2).toList
/-- Events in memory of its own, from block lo on; every B is a row of bytes whole. -/
structure OwnEvs (lo : Nat) (w : World) (v : Value) (xs : List (Ev × Value)) : Prop where
  row : w.ownsRow lo 34 7 v xs.length (evRow xs)
  bs : ∀ x ∈ xs, w.ownsRow lo 5 1 x.2 x.1.b.length (x.1.b.map (Value.int .u8)) ∧ U8Row w x.2

theorem evRow_snoc (xs : List (Ev × Value)) (x : Ev × Value) : evRow (xs ++ [x]) = evRow xs ++ (evCells x.1 x.2).toList := by
  unfold evRow; rw [List.flatMap_append]; simp

theorem U8Row.grown {w w' : World} {row : Option Nat} {base : Nat} {e : TypeId} {size : Nat} {v : Value} {n : Nat} {xs : List Value} (h : U8Row w v) (ho : w.ownsRow base e size v n xs) (hg : w.grownBy w' row) (hne : v.ownBlock = none ∨ v.ownBlock ≠ row) : U8Row w' v := by
  intro g hv
  obtain ⟨cur, h1, h2⟩ := h g hv
  refine ⟨cur, ?_, h2⟩
  rw [hg.block g (lt_of_block h1) (by rcases hne with h | h; rw [hv] at h; cases h; rw [hv] at h; exact h)]
  exact h1
/-- A row of bytes is no row of events. -/
theorem rows_apart {w : World} {b1 b2 s1 s2 : Nat} {v u : Value} {n m : Nat} {xs ys : List Value} (h : w.ownsRow b1 5 s1 v n xs) (k : w.ownsRow b2 34 s2 u m ys) : v.ownBlock = none ∨ v.ownBlock ≠ u.ownBlock := by
  rcases h.2 with ⟨rfl, _⟩ | ⟨g, cap, cur, rfl, _, hg, _⟩
  · exact .inl rfl
  · right
    rcases k.2 with ⟨rfl, _⟩ | ⟨g', cap', cur', rfl, _, hg', _⟩
    · intro e; cases e
    · intro e
      simp only [Value.ownBlock, Option.some.injEq] at e
      subst e
      rw [hg] at hg'
      injection hg' with e1; injection e1 with _ e2 _
      exact absurd e2 (by decide)

theorem OwnEvs.kept {S : Nat → Prop} {w w' : World} {lo : Nat} {v : Value} {xs : List (Ev × Value)} (h : OwnEvs lo w v xs) (c : Chg S w w') (hs : ∀ b, lo ≤ b → ¬ S b) : OwnEvs lo w' v xs :=
  ⟨owns_kept h.row c hs, fun x hx => ⟨owns_kept (h.bs x hx).1 c hs, (h.bs x hx).2.kept (h.bs x hx).1 c hs⟩⟩
theorem OwnEvs.mono {w : World} {lo lo' : Nat} {v : Value} {xs : List (Ev × Value)} (h : OwnEvs lo w v xs) (hl : lo' ≤ lo) : OwnEvs lo' w v xs :=
  ⟨h.row.mono hl, fun x hx => ⟨(h.bs x hx).1.mono hl, (h.bs x hx).2⟩⟩
/-- One event more. -/
theorem OwnEvs.snoc {lo : Nat} {w9 wa : World} {v v' : Value} {xs : List (Ev × Value)} {e : Ev} {vb : Value} (h : OwnEvs lo wa v xs) (hb : wa.ownsRow lo 5 1 vb e.b.length (e.b.map (Value.int .u8))) (hu : U8Row wa vb)
    (hr : w9.ownsRow lo 34 7 v' (xs.length + 1) (evRow xs ++ (evCells e vb).toList)) (hg : wa.grownBy w9 v.ownBlock) : OwnEvs lo w9 v' (xs ++ [(e, vb)]) := by
  refine ⟨by rw [evRow_snoc, List.length_append]; exact hr, fun x hx => ?_⟩
  rw [List.mem_append] at hx
  have key : wa.ownsRow lo 5 1 x.2 x.1.b.length (x.1.b.map (Value.int .u8)) ∧ U8Row wa x.2 := by
    rcases hx with hx | hx
    · exact h.bs x hx
    · simp only [List.mem_singleton] at hx; subst hx; exact ⟨hb, hu⟩
  have ha := rows_apart key.1 h.row
  exact ⟨key.1.kept hg ha, U8Row.grown key.2 key.1 hg ha⟩

theorem news_of_block {w : World} {B : Nat} {cs : Array Value} {t : TypeId} {fr : Nat × Nat} (hb : w.heap[B]? = some (.cells cs t fr)) : ∀ j u, cs.toList[j]? = some u → w.cell? ((⟨B, 0, none⟩ : Addr).add j) = some u := World.news_of_block hb
theorem cells_one (e : Ev) {w : World} {base : Nat} {T : TypeId} {size : Nat} {vb : Value} {n : Nat} {xs : List Value} (h : w.ownsRow base T size vb n xs) : ∀ u ∈ (evCells e vb).toList, u.oneCell' = true := by
  intro u hu
  have hvb : vb.oneCell' = true := by rcases h.2 with ⟨rfl, _⟩ | ⟨g, cap, cur, rfl, _⟩ <;> rfl
  simp only [evCells, List.mem_cons, List.not_mem_nil, or_false] at hu
  rcases hu with rfl | rfl | rfl | rfl | rfl | rfl | rfl
  all_goals first | rfl | exact hvb

/-- A slice of bytes, as the walks are told of it. -/
structure IsB (P : Nat → Prop) (w : World) (a : Option Addr) (len cap : Nat) (bs : List Int) : Prop where
  bytes : IsBytes w a len bs
  capl : len ≤ cap
  capm : cap ≤ maxLen
  blk : len = 0 ∨ ∃ b off, a = some ⟨b, off, none⟩ ∧ P b
theorem IsB.kept {P S : Nat → Prop} {w w' : World} {a : Option Addr} {len cap : Nat} {bs : List Int} (h : IsB P w a len cap bs) (c : Chg S w w') (hs : ∀ b, b < w.heap.size → P b → ¬ S b) : IsB P w' a len cap bs := by
  refine ⟨?_, h.capl, h.capm, h.blk⟩
  refine h.bytes.kept c (fun b off e h0 => ?_)
  rcases h.blk with h1 | ⟨b', off', e', hp⟩
  · exact absurd h1 h0
  · rw [e] at e'; injection e' with e'; injection e' with e1 _ _
    subst e1
    rcases h.bytes.2.2 with h1 | ⟨b2, off2, e2, hb2, _⟩
    · exact absurd h1 h0
    · rw [e] at e2; injection e2 with e2; injection e2 with e2 _ _
      subst e2
      exact hs _ hb2 hp

/-- What the loop has read: those events, and what is left. -/
def Got (bs : List Int) (xs : List (Ev × Value)) (p : Nat) : Prop := evs bs = xs.map (·.1) ++ evsF bs (4096 - xs.length) p ∧ xs.length ≤ 4096
theorem Got.zero (bs : List Int) : Got bs [] 0 := ⟨rfl, by simp⟩
theorem Got.next {bs : List Int} {xs : List (Ev × Value)} {p : Nat} (h : Got bs xs p) (hp : p < bs.length) (hx : xs.length < 4096) (vb : Value) : Got bs (xs ++ [(evAt bs p, vb)]) (p + evLen bs p) := by
  refine ⟨?_, by simp; omega⟩
  rw [h.1, List.map_append, List.length_append, List.append_assoc]
  congr 1
  rw [show 4096 - xs.length = (4096 - (xs.length + [(evAt bs p, vb)].length)) + 1 by simp; omega]
  show (if p < bs.length then _ else _) = _
  rw [if_pos hp]; rfl
theorem Got.done {bs : List Int} {xs : List (Ev × Value)} {p : Nat} (h : Got bs xs p) (hp : ¬ (p < bs.length ∧ xs.length < 4096)) : evs bs = xs.map (·.1) := by
  rw [h.1]
  have : evsF bs (4096 - xs.length) p = [] := by
    by_cases hx : xs.length < 4096
    · rw [show 4096 - xs.length = (4095 - xs.length) + 1 by omega]
      show (if p < bs.length then _ else _) = _
      rw [if_neg (fun k => hp ⟨k, hx⟩)]
    · rw [show 4096 - xs.length = 0 by omega]; rfl
  rw [this, List.append_nil]

theorem left_is (A B : Nat) (a0 : Option Addr) (len cap p : Nat) (bs : List Int) (b : Bool) (w : World) (hb : decide (p < len) = b) (hA : One w A (.int .i64 (min p len : Nat)) 3) (hR : Rd w A B a0 len cap bs) :
    Calls Try.prog 36 #[.pointer (some ⟨A, 0, none⟩), .pointer (some ⟨B, 0, none⟩)] w fun e w' => e = .returned (.bool b) ∧ w = w' :=
  (left_any A B a0 len cap (min p len) bs w hA hR).mono fun e w' h => ⟨by rw [h.1, ← hb]; congr 2; simp only [decide_eq_decide]; omega, h.2⟩

structure RdrNew (a0 : Option Addr) (len cap : Nat) (bs : List Int) (w w' : World) : Prop where
  at' : One w' (w.heap.size + 1) (.int .i64 (min 0 len : Nat)) 3
  rd : Rd w' (w.heap.size + 1) w.heap.size a0 len cap bs
  chg : Chg (fun _ => False) w w'
  size : w'.heap.size = w.heap.size + 2
/-- The reader, anew. -/
theorem reader_new (P : Nat → Prop) (a0 : Option Addr) (len cap : Nat) (bs : List Int) (w : World) (h : IsB P w a0 len cap bs) (hm : len ≤ 4611686018427387904) :
    Calls Try.prog 26 #[.slice a0 len cap] w fun e w' => e = .returned (.tuple #[.func (.func 35) #[] #[.pointer (some ⟨w.heap.size + 1, 0, none⟩), .pointer (some ⟨w.heap.size, 0, none⟩)], .func (.func 36) #[] #[.pointer (some ⟨w.heap.size + 1, 0, none⟩), .pointer (some ⟨w.heap.size, 0, none⟩)]]) ∧ RdrNew a0 len cap bs w w' := by
  refine (reader_any a0 len cap w).mono ?_
  rintro e w' ⟨rfl, h1, h2, h3, h4⟩
  refine ⟨rfl, ⟨by rw [Nat.zero_min]; exact h1, ⟨h2.cell, h2.lt, by omega, ?_, ?_, hm⟩, h3, h4⟩⟩
  · exact h.bytes.kept h3 (fun _ _ _ _ k => k)
  · intro b o e h0
    rcases h.bytes.2.2 with h5 | ⟨b', off', e', hb', _⟩
    · exact absurd h5 h0
    · rw [e] at e'; injection e' with e'; injection e' with e' _ _
      omega

set_option maxRecDepth 100000 in
set_option maxHeartbeats 2000000 in
theorem events_any (P : Nat → Prop) (a0 : Option Addr) (len cap : Nat) (bs : List Int) (w : World) (h : IsB P w a0 len cap bs) (hm : len ≤ 4611686018427387904) :
    Calls Try.prog 10 #[.slice a0 len cap] w fun e w' => ∃ v xs, e = .returned v ∧ evs bs = xs.map (·.1) ∧ OwnEvs w.heap.size w' v xs ∧ Chg (fun _ => False) w w' := by
  have H := Lib.hid h; clear h
  obtain ⟨MX, hMX⟩ : ∃ m : Nat, m = 4096 := ⟨_, rfl⟩
  have HMX := Lib.hid hMX; clear hMX
  have Hm := Lib.hid hm; clear hm
  obtain ⟨i0, hi0, hz0, hz1, hz2⟩ := info_parts Try.info34
  replace hi0 := Lib.hid hi0; replace hz0 := Lib.hid hz0; replace hz1 := Lib.hid hz1; replace hz2 := Lib.hid hz2
  go_enter Try.func10, Try.ntmps10
  go_wp2_with fail
  refine (reader_new P a0 len cap bs _ H.out Hm.out).mono ?_
  rintro e w1 ⟨rfl, K1⟩
  have k1 := Lib.hid K1; clear K1
  go_wp2_with fail
  go_loopg [5] MX (fun g v5 wr => ∃ (xs : List (Ev × Value)) (p : Nat) (ao : Option Addr) (cp : Nat), g = MX - xs.length ∧ v5 = .slice ao xs.length cp ∧ Got bs xs p ∧ OwnEvs (w.heap.size + 2) wr (.slice ao xs.length cp) xs ∧ One wr (w.heap.size + 1) (.int .i64 (min p len : Nat)) 3 ∧ Chg (· = w.heap.size + 1) w1 wr)
  case atStart => exact ⟨[], 0, none, 0, rfl, rfl, Got.zero bs, ⟨World.ownsRow_nil _ _ _ _, fun _ h => by cases h⟩, k1.out.at', Chg.refl _ _⟩
  case round =>
    obtain ⟨xs, p, ao, cp, hg, rfl, hgot, hown, hat, hch⟩ := hrel
    have hxl := hgot.2
    have hR : Rd wr (w.heap.size + 1) w.heap.size a0 len cap bs := k1.out.rd.kept hch (fun _ _ h => h)
    have Hg := Lib.hid hg; have Hgot := Lib.hid hgot; have Hown := Lib.hid hown; have Hat := Lib.hid hat; have Hch := Lib.hid hch; have HR := Lib.hid hR
    clear hg hgot hown hat hch hR
    have hbl := Lib.hid H.out.bytes.1
    by_cases hp : p < len
    · by_cases hx : xs.length < 4096
      · go_wp2_with fail
        refine (left_is _ _ a0 len cap p bs true _ (by simpa using hp) Hat.out HR.out).mono ?_
        rintro e w2 ⟨rfl, rfl⟩
        go_wp2_with fail
        have hatP : One wr (w.heap.size + 1) (.int .i64 p) 3 := by
          have h := Hat.out
          rw [Nat.min_eq_left (by omega)] at h; exact h
        refine (event_any _ _ a0 len cap p bs _ hatP HR.out hp).mono ?_
        rintro e w3 ⟨vb, rfl, ho3, hu3, hat3, hc3⟩
        have gn := Lib.hid (Hgot.out.next (by rw [hbl.out]; exact hp) hx vb)
        obtain ⟨ev, hev⟩ : ∃ ev, evAt bs p = ev := ⟨_, rfl⟩
        rw [hev] at ho3 gn ⊢
        obtain ⟨q, hq⟩ : ∃ q, p + evLen bs p = q := ⟨_, rfl⟩
        rw [hq] at hat3 gn
        clear hev hq
        have hs1 := Hch.out.size
        have hs2 := k1.out.size
        have hs3 := hc3.size
        have ownA := Lib.hid ((Hown.out.kept hc3 (fun b hb e => by omega)).kept (w' := w3.alloc (.cells (evCells ev vb) 34)) ((Chg.refl (fun _ => False) w3).alloc _) (fun _ _ h => h))
        have oB := Lib.hid ((ho3.mono (by omega : w.heap.size + 2 ≤ wr.heap.size)).alloc (.cells (evCells ev vb) 34))
        have uB := Lib.hid (hu3.kept ho3 ((Chg.refl (fun _ => False) w3).alloc (.cells (evCells ev vb) 34)) (fun _ _ h => h))
        have chA := Lib.hid ((Hch.out.trans hc3).alloc (.cells (evCells ev vb) 34))
        have atA := Lib.hid (hat3.kept ((Chg.refl (fun _ => False) w3).alloc (.cells (evCells ev vb) 34)) (fun h => h))
        have hlo : w.heap.size + 2 ≤ (w3.alloc (.cells (evCells ev vb) 34)).heap.size := by simp; omega
        have hnews := news_of_block (heap_alloc_new w3 (.cells (evCells ev vb) 34))
        have h1c : ∀ u ∈ (evCells ev vb).toList, u.oneCell' = true := cells_one ev ho3
        have r1 : xs.length + 1 ≤ maxLen := by unfold maxLen; omega
        have r2 : (xs.length + 1) * 72 ≤ 140737488355328 := by omega
        replace hlo := Lib.hid hlo; replace hnews := Lib.hid hnews; replace h1c := Lib.hid h1c; replace r1 := Lib.hid r1; replace r2 := Lib.hid r2
        clear hat3 hc3 ho3 hu3 hs1 hs2 hs3
        simp only [evCells]
        go_wp2_with (at_builtin; refine wpList_append_lies _ rfl _ _ _ rfl (w.heap.size + 2) 34 i0 _ 7 72 Try.underlying24 hi0.out hz0.out hz1.out hz2.out rfl (by omega) _ _ _ rfl ownA.out.row _ 1 1 (evCells ev vb).toList rfl rfl hnews.out h1c.out (by omega) r1.out r2.out hlo.out _ rfl ?_; intro g cap9 w9 hown9 hgrow hat9 hlt9)
        have own9 := Lib.hid (ownA.out.snoc (v' := .slice (some ⟨g, 0, none⟩) (xs.length + 1) cap9) oB.out uB.out hown9 hgrow)
        have rowlt : ∀ k, (Value.slice ao xs.length cp).ownBlock = some k → w.heap.size + 2 ≤ k := fun k hk => (ownA.out.row.lt k hk).1
        have ch9 := Lib.hid (chA.out.grown hgrow (fun k hk => .inr (by rw [k1.out.size]; exact rowlt k hk)))
        have at9 := Lib.hid (atA.out.grown hgrow (fun e => by have := rowlt _ e.symm; omega))
        replace rowlt := Lib.hid rowlt
        have hM := HMX.out; have hG := Hg.out
        go_roundg (MX - (xs.length + 1))
        case measure => omega
        case rel => exact ⟨xs ++ [(ev, vb)], q, some ⟨g, 0, none⟩, cap9, by simp, by simp, gn.out, by simpa using own9.out, at9.out, ch9.out⟩
      · go_wp2_with fail
        refine (left_is _ _ a0 len cap p bs true _ (by simpa using hp) Hat.out HR.out).mono ?_
        rintro e w2 ⟨rfl, rfl⟩
        go_wp2_with fail
        go_ret
        exact ⟨_, xs, rfl, Hgot.out.done (fun h => hx h.2), Hown.out.mono (by omega), Chg_after k1.out.chg Hch.out (fun i hi e => by omega)⟩
    · go_wp2_with fail
      refine (left_is _ _ a0 len cap p bs false _ (by simpa using hp) Hat.out HR.out).mono ?_
      rintro e w2 ⟨rfl, rfl⟩
      go_wp2_with fail
      go_ret
      exact ⟨_, xs, rfl, Hgot.out.done (fun h => hp (by have := hbl.out; omega)), Hown.out.mono (by omega), Chg_after k1.out.chg Hch.out (fun i hi e => by omega)⟩

end Go.Proofs.Ythdobpfojdcagaa.Events
