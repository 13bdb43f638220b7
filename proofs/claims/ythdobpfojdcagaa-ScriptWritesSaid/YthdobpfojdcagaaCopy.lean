/-
  The walk of CopyBytes; append(dst, src...) of events; the first so many of bytes.
-/
import Derived.Test.YthdobpfojdcagaaApp
import Derived.Test.YthdobpfojdcagaaIs
set_option linter.unusedVariables false
namespace Go.Proofs.Ythdobpfojdcagaa.Copy
open Go.RowKit Go.Proofs.Ythdobpfojdcagaa.Ev Go.Proofs.Ythdobpfojdcagaa.Next Go.Proofs.Ythdobpfojdcagaa.Li Go.Proofs.Ythdobpfojdcagaa.EventAny Go.Proofs.Ythdobpfojdcagaa.Events Go.Proofs.Ythdobpfojdcagaa.Same Go.Proofs.Ythdobpfojdcagaa.Is Go.Proofs.Ythdobpfojdcagaa.App

theorem IsB.take {P : Nat → Prop} {w : World} {a : Option Addr} {len cap : Nat} {bs : List Int} (h : IsB P w a len cap bs) (n : Nat) (hn : n ≤ len) : IsB P w a n cap (bs.take n) := by
  refine ⟨⟨by rw [List.length_take, h.bytes.1]; omega, fun x hx => h.bytes.2.1 x (List.mem_of_mem_take hx), ?_⟩, Nat.le_trans hn h.capl, h.capm, ?_⟩
  · rcases h.bytes.2.2 with h0 | ⟨b, off, e, hb, hc⟩
    · exact .inl (by omega)
    · refine .inr ⟨b, off, e, hb, fun j hj => ?_⟩
      rw [hc j (by omega)]
      unfold byte
      rw [List.getD_eq_getElem?_getD, List.getD_eq_getElem?_getD, List.getElem?_take, if_pos hj]
  · rcases h.blk with h0 | h0
    · exact .inl (by omega)
    · exact .inr h0

set_option maxRecDepth 100000 in
set_option maxHeartbeats 1000000 in
theorem copy_bytes {P : Nat → Prop} (a0 : Option Addr) (len cap : Nat) (bs : List Int) (w : World) (h : IsB P w a0 len cap bs) (hm : len ≤ 1000000000) :
    Calls Try.prog 18 #[.slice a0 len cap] w fun e w' => ∃ a c, e = .returned (.slice a len c) ∧ w'.ownsRow w.heap.size 5 1 (.slice a len c) len (bs.map (Value.int .u8)) ∧ Chg (fun _ => False) w w' := by
  obtain ⟨i0, hi0, hz0, hz1, hz2⟩ := info_parts Try.info5
  replace hi0 := Lib.hid hi0; replace hz0 := Lib.hid hz0; replace hz1 := Lib.hid hz1; replace hz2 := Lib.hid hz2
  have CA : Chg (fun _ => False) w (w.alloc (.cells #[] 5)) := (Chg.refl _ w).alloc _
  have H := Lib.hid (h.kept CA (fun _ _ _ k => k))
  have OA : (w.alloc (.cells #[] 5)).ownsRow w.heap.size 5 1 (.slice (some ⟨w.heap.size, 0, none⟩) 0 0) 0 [] := World.ownsRow_made w #[] 0 (Nat.le_refl _) (Nat.zero_le _) rfl
  replace OA := Lib.hid OA; replace CA := Lib.hid CA
  have B1 := Lib.hid (show 0 + len ≤ maxLen by unfold maxLen; omega); have B2 := Lib.hid (show (0 + len) * 1 ≤ 140737488355328 by omega)
  have B3 := Lib.hid CA.out.size
  clear h
  go_enter Try.func18, Try.ntmps18
  go_wp2_with (at_builtin; refine wpList_append_isb _ rfl _ _ _ rfl w.heap.size i0 Try.underlying22 hi0.out hz0.out hz1.out hz2.out _ _ _ rfl OA.out P _ _ _ bs rfl H.out B1.out B2.out B3.out ?_; intro v9 w9 hown9 hgrow)
  obtain ⟨a9, c9, hv9⟩ := own_form hown9
  rw [Nat.zero_add] at hv9 hown9
  subst hv9
  have ON := Lib.hid (show w9.ownsRow w.heap.size 5 1 (.slice a9 len c9) len (bs.map (Value.int .u8)) from hown9)
  have CN := Lib.hid (CA.out.grown hgrow (fun b hb => .inr (OA.out.lt b hb).1))
  clear hown9 hgrow
  go_wp2_with fail
  go_ret
  exact ⟨a9, c9, rfl, ON.out, CN.out⟩

/-- Events with the values of their bytes. -/
def Vals (P : Nat → Prop) (w : World) (xs : List (Ev × Value)) : Prop := ∀ x ∈ xs, ∃ a c, x.2 = .slice a x.1.b.length c ∧ IsB P w a x.1.b.length c x.1.b
theorem Vals.kept {P S : Nat → Prop} {w w' : World} {xs : List (Ev × Value)} (h : Vals P w xs) (c : Chg S w w') (hs : ∀ b, b < w.heap.size → P b → ¬ S b) : Vals P w' xs := fun x hx => by
  obtain ⟨a, cp, h1, h2⟩ := h x hx
  exact ⟨a, cp, h1, h2.kept c hs⟩
theorem evRow_len (xs : List (Ev × Value)) : (evRow xs).length = xs.length * 7 := by
  induction xs with
  | nil => rfl
  | cons x xs ih =>
    have e : evRow (x :: xs) = (evCells x.1 x.2).toList ++ evRow xs := by unfold evRow; simp
    rw [e, List.length_append, ih, List.length_cons]
    show 7 + _ = _
    omega
theorem evRow_app (xs ys : List (Ev × Value)) : evRow (xs ++ ys) = evRow xs ++ evRow ys := by unfold evRow; rw [List.flatMap_append]
theorem evRow_one (xs : List (Ev × Value)) (hv : ∀ x ∈ xs, x.2.oneCell' = true) : ∀ u ∈ evRow xs, u.oneCell' = true := by
  intro u hu
  simp only [evRow, List.mem_flatMap] at hu
  obtain ⟨x, hx, hu⟩ := hu
  simp only [evCells, List.mem_cons, List.not_mem_nil, or_false] at hu
  rcases hu with rfl | rfl | rfl | rfl | rfl | rfl | rfl
  all_goals first | rfl | exact hv x hx
theorem cell_ev {P : Nat → Prop} {w : World} {g o : Nat} {e : Ev} {a : Option Addr} {cp : Nat} (h : EvAt P w g o e a cp) (j : Nat) (hj : j < 7) : w.cell? ⟨g, o + j, none⟩ = (evCells e (.slice a e.b.length cp))[j]? := by
  match j, hj with
  | 0, _ => exact h.c0
  | 1, _ => exact h.c1
  | 2, _ => exact h.c2
  | 3, _ => exact h.c3
  | 4, _ => exact h.c4
  | 5, _ => exact h.c5
  | 6, _ => exact h.c6

/-- The cells of events that are read. -/
theorem vals_of {P : Nat → Prop} {w : World} {g off : Nat} {es : List Ev} (h : ∀ i e, es[i]? = some e → ∃ a1 cp, EvAt P w g (off + i * 7) e a1 cp) : ∃ xs : List (Ev × Value), xs.map (·.1) = es ∧ Vals P w xs ∧ ∀ j, j < es.length * 7 → w.cell? ⟨g, off + j, none⟩ = (evRow xs)[j]? := by
  induction es generalizing off with
  | nil => exact ⟨[], rfl, (fun _ h => by cases h), fun j hj => by simp at hj⟩
  | cons e es ih =>
    obtain ⟨a, cp, he⟩ := h 0 e (by simp)
    rw [Nat.zero_mul, Nat.add_zero] at he
    obtain ⟨xs, h1, h2, h3⟩ := ih (off := off + 7) (fun i e' hi => by
      have := h (i + 1) e' (by simpa using hi)
      rw [show off + (i + 1) * 7 = off + 7 + i * 7 by omega] at this
      exact this)
    refine ⟨(e, .slice a e.b.length cp) :: xs, by simp [h1], fun x hx => ?_, fun j hj => ?_⟩
    · rcases List.mem_cons.1 hx with rfl | hx
      · exact ⟨a, cp, rfl, he.isb⟩
      · exact h2 x hx
    · have e1 : evRow ((e, Value.slice a e.b.length cp) :: xs) = (evCells e (.slice a e.b.length cp)).toList ++ evRow xs := by unfold evRow; simp
      rw [e1]
      by_cases hj7 : j < 7
      · rw [List.getElem?_append_left (by show j < 7; exact hj7), cell_ev he j hj7]; simp
      · rw [List.getElem?_append_right (by show 7 ≤ j; omega)]
        have := h3 (j - 7) (by simp at hj; omega)
        rw [show off + 7 + (j - 7) = off + j by omega] at this
        rw [this]; rfl
theorem vals_one {P : Nat → Prop} {w : World} {xs : List (Ev × Value)} (h : Vals P w xs) : ∀ x ∈ xs, x.2.oneCell' = true := fun x hx => by
  obtain ⟨a, c, e, _⟩ := h x hx
  rw [e]; rfl

/-- Events that are owned, whatever their bytes lie in. -/
structure OwnV (lo : Nat) (P : Nat → Prop) (w : World) (v : Value) (xs : List (Ev × Value)) : Prop where
  row : w.ownsRow lo 34 7 v xs.length (evRow xs)
  vals : Vals P w xs
theorem OwnV.isEvs {lo : Nat} {P : Nat → Prop} {w : World} {v : Value} {xs : List (Ev × Value)} (h : OwnV lo P w v xs) (hP : ∀ b, lo ≤ b → P b) : ∃ a cap, v = .slice a xs.length cap ∧ IsEvs P w a xs.length cap (xs.map (·.1)) := by
  rcases h.row.2 with ⟨rfl, h0⟩ | ⟨g, cap, cur, rfl, hg, hh, h1, h2, h3, h4⟩
  · rw [h0]; exact ⟨none, 0, rfl, ⟨by simpa using h0, Nat.le_refl _, Nat.zero_le _, .inl rfl⟩⟩
  · refine ⟨_, cap, rfl, ⟨by simp, h1, h2, .inr ⟨g, 0, rfl, hP g hg, lt_of_block hh, fun i e he => ?_⟩⟩⟩
    rw [List.getElem?_map] at he
    obtain ⟨x, hx, rfl⟩ : ∃ x, xs[i]? = some x ∧ x.1 = e := by
      cases hx : xs[i]? with
      | none => rw [hx] at he; cases he
      | some x => rw [hx] at he; exact ⟨x, rfl, by simpa using he⟩
    have hil : i < xs.length := by
      rcases Nat.lt_or_ge i xs.length with h | h
      · exact h
      · rw [List.getElem?_eq_none h] at hx; cases hx
    obtain ⟨a1, cp, ev, hb1⟩ := h.vals x (List.mem_of_getElem? hx)
    have key : ∀ j, j < 7 → w.cell? ⟨g, 0 + i * 7 + j, none⟩ = (evCells x.1 x.2)[j]? := by
      intro j hj
      rw [cell_of_row w g (0 + i * 7 + j) cur _ (0, 0) hh, ← evRow_at xs i x hx j hj, ← h4, List.getElem?_take, if_pos (by omega), Array.getElem?_toList, Nat.zero_add]
    refine ⟨a1, cp, key 0 (by omega), key 1 (by omega), key 2 (by omega), key 3 (by omega), key 4 (by omega), key 5 (by omega), ?_, hb1⟩
    rw [← ev]; exact key 6 (by omega)

section
variable {Pr : Program} (w : World)
theorem run_append_evs (t ty : TypeId) (base : Nat) (i : TypeInfo) (z : Value) (ht : Pr.underlying t = some (.slice 34)) (hi : Pr.info? 34 = some i) (hz : i.zero = some z) (hsize : i.size = 7) (hby : i.bytes = 72) (hzs : z.cells.size = 7)
    (v : Value) (xs : List (Ev × Value)) (hown : w.ownsRow base 34 7 v xs.length (evRow xs)) (P : Nat → Prop) (a : Option Addr) (m c : Nat) (es : List Ev) (hs : IsEvs P w a m c es)
    (h63 : xs.length + m ≤ maxLen) (hbytes : (xs.length + m) * 72 ≤ 140737488355328) (hbase : base ≤ w.heap.size) :
    ∃ v' w' ys, (Builtin.append_ #[t, t] ty #[v, .slice a m c]).run Pr w = .ok v' w' ∧ ys.map (·.1) = es ∧ Vals P w ys ∧ w'.ownsRow base 34 7 v' (xs ++ ys).length (evRow (xs ++ ys)) ∧ w.grownBy w' v.ownBlock := by
  by_cases hm : m = 0
  · subst hm
    have hy : es = [] := List.eq_nil_of_length_eq_zero hs.len_eq
    subst hy
    rcases a with _ | ad
    · refine ⟨v, w, [], ?_, rfl, (fun _ h => by cases h), by simpa using hown, ⟨rfl, rfl, rfl, Nat.le_refl _, fun _ _ _ => rfl⟩⟩
      rcases hown.2 with ⟨rfl, h0⟩ | ⟨g, cap, cur, rfl, _, _, hnc, _⟩
      · simp [Builtin.append_, run_underlying ht, sizeOf, typeInfo, hi, Builtin.lenOf, Builtin.firstCells]
      · simp [Builtin.append_, run_underlying ht, sizeOf, typeInfo, hi, Builtin.lenOf, Builtin.firstCells, hnc, storeCells]
    · obtain ⟨v', w', hr, h2, h3, _⟩ := run_append_own (P := Pr) w base t ty 34 i z 7 72 ht hi hz hsize hby hzs (by decide) v xs.length (evRow xs) hown ad 0 c [] rfl (by simp) (by simp) h63 hbytes hbase
      exact ⟨v', w', [], hr, rfl, (fun _ h => by cases h), by simpa using h2, h3⟩
  · rcases hs.cells with h0 | ⟨g, off, rfl, hP, hl, hc⟩
    · exact absurd h0 hm
    · obtain ⟨ys, h1, h2, h3⟩ := vals_of hc
      have hyl : ys.length = m := by rw [← hs.len_eq, ← h1, List.length_map]
      have hnews : ∀ j u, (evRow ys)[j]? = some u → w.cell? ((⟨g, off, none⟩ : Addr).add j) = some u := by
        intro j u hj
        have hjl : j < es.length * 7 := by
          rcases Nat.lt_or_ge j (evRow ys).length with h | h
          · rw [evRow_len, hyl] at h; rw [hs.len_eq]; exact h
          · rw [List.getElem?_eq_none h] at hj; cases hj
        have e2 : (⟨g, off, none⟩ : Addr).add j = ⟨g, off + j, none⟩ := by unfold Addr.add; split <;> simp_all
        rw [e2, h3 j hjl, hj]
      obtain ⟨v', w', hr, k2, k3, _⟩ := run_append_own (P := Pr) w base t ty 34 i z 7 72 ht hi hz hsize hby hzs (by decide) v xs.length (evRow xs) hown ⟨g, off, none⟩ m c (evRow ys) (by rw [evRow_len, hyl]) hnews (evRow_one ys (vals_one h2)) h63 hbytes hbase
      refine ⟨v', w', ys, hr, h1, h2, ?_, k3⟩
      rw [evRow_app, List.length_append, hyl]
      exact k2

theorem wpList_append_evs {ops : Array Oper} {rest : List Oper} {o : Oper} {a : Act} {Q : Exit → Act → World → Prop} (hgd : o.guard = none) (s x : Operand) (t : TypeId)
    (ho : o.op = .call { callee := .builtin .append, args := #[s, x], argTypes := #[t, t] })
    (base : Nat) (i : TypeInfo) (z : Value) (ht : Pr.underlying t = some (.slice 34)) (hi : Pr.info? 34 = some i) (hz : i.zero = some z) (hsize : i.size = 7) (hby : i.bytes = 72) (hzs : z.cells.size = 7)
    (v : Value) (xs : List (Ev × Value)) (hsv : a.eval s = v) (hown : w.ownsRow base 34 7 v xs.length (evRow xs)) (P : Nat → Prop) (ad : Option Addr) (m c : Nat) (es : List Ev) (hx : a.eval x = .slice ad m c) (hs : IsEvs P w ad m c es)
    (h63 : xs.length + m ≤ maxLen) (hbytes : (xs.length + m) * 72 ≤ 140737488355328) (hbase : base ≤ w.heap.size)
    (h : ∀ v' w' ys, ys.map (·.1) = es → Vals P w ys → w'.ownsRow base 34 7 v' (xs ++ ys).length (evRow (xs ++ ys)) → w.grownBy w' v.ownBlock → wpList Pr ops Q rest (a.put o.dst v') w') : wpList Pr ops Q (o :: rest) a w :=
  wpList_plain hgd fun _ hK => by
    obtain ⟨v', w', ys, hr, h1, h2, h3, h4⟩ := run_append_evs (Pr := Pr) w t o.type base i z ht hi hz hsize hby hzs v xs hown P ad m c es hs h63 hbytes hbase
    unfold Oper.wp execOp
    simp only [ho, resolve, invoke, builtin, Sem.run_bind, Sem.run_pure, Result.andThen_ok, List.map_toArray, List.map_cons, List.map_nil, hsv, hx, hr]
    exact hK _ _ (h v' w' ys h1 h2 h3 h4)
end

end Go.Proofs.Ythdobpfojdcagaa.Copy
