/-
  append(dst, src...) of bytes, whatever the source: nil, empty or not.
-/
import Derived.Test.YthdobpfojdcagaaSame
set_option linter.unusedVariables false
namespace Go.Proofs.Ythdobpfojdcagaa.App
open Go.RowKit Go.Proofs.Ythdobpfojdcagaa.Ev Go.Proofs.Ythdobpfojdcagaa.Next Go.Proofs.Ythdobpfojdcagaa.Events Go.Proofs.Ythdobpfojdcagaa.Same

section
variable {Pr : Program} (w : World)

theorem run_append_isb (t ty : TypeId) (base : Nat) (i : TypeInfo) (ht : Pr.underlying t = some (.slice 5)) (hi : Pr.info? 5 = some i) (hz : i.zero = some (.int .u8 0)) (hsize : i.size = 1) (hby : i.bytes = 1)
    (v : Value) (n : Nat) (xs : List Value) (hown : w.ownsRow base 5 1 v n xs) (P : Nat → Prop) (a : Option Addr) (m c : Nat) (ys : List Int) (hs : IsB P w a m c ys)
    (h63 : n + m ≤ maxLen) (hbytes : (n + m) * 1 ≤ 140737488355328) (hbase : base ≤ w.heap.size) :
    ∃ v' w', (Builtin.append_ #[t, t] ty #[v, .slice a m c]).run Pr w = .ok v' w' ∧ w'.ownsRow base 5 1 v' (n + m) (xs ++ ys.map (Value.int .u8)) ∧ w.grownBy w' v.ownBlock := by
  have hl : (ys.map (Value.int .u8)).length = m * 1 := by rw [List.length_map, hs.bytes.1, Nat.mul_one]
  have h1 : ∀ u ∈ ys.map (Value.int .u8), u.oneCell' = true := by
    intro v hv; simp only [List.mem_map] at hv; obtain ⟨x, _, rfl⟩ := hv; rfl
  rcases a with _ | ad
  · have hm : m = 0 := by
      rcases hs.bytes.2.2 with h | ⟨b, off, h, _⟩
      · exact h
      · cases h
    subst hm
    have hy : ys = [] := List.eq_nil_of_length_eq_zero hs.bytes.1
    subst hy
    refine ⟨v, w, ?_, by simpa using hown, ⟨rfl, rfl, rfl, Nat.le_refl _, fun _ _ _ => rfl⟩⟩
    rcases hown.2 with ⟨rfl, rfl⟩ | ⟨g, cap, cur, rfl, _, _, hnc, _⟩
    · simp [Builtin.append_, run_underlying ht, sizeOf, typeInfo, hi, Builtin.lenOf, Builtin.firstCells]
    · simp [Builtin.append_, run_underlying ht, sizeOf, typeInfo, hi, Builtin.lenOf, Builtin.firstCells, hnc, storeCells]
  · have hnews : ∀ j u, (ys.map (Value.int .u8))[j]? = some u → w.cell? (ad.add j) = some u := by
      intro j u hj
      have hjl : j < ys.length := by
        rcases Nat.lt_or_ge j ys.length with h | h
        · exact h
        · rw [List.getElem?_eq_none (by simpa using h)] at hj; cases hj
      rcases hs.bytes.2.2 with h | ⟨b, off, h, hb, hc⟩
      · rw [← hs.bytes.1] at h; omega
      · injection h with h; subst h
        rw [List.getElem?_map, List.getElem?_eq_getElem hjl] at hj
        simp only [Option.map_some, Option.some.injEq] at hj
        subst hj
        have e2 : (⟨b, off, none⟩ : Addr).add j = ⟨b, off + j, none⟩ := by unfold Addr.add; split <;> simp_all
        rw [e2, hc j (by rw [← hs.bytes.1]; exact hjl)]
        unfold byte
        rw [List.getD_eq_getElem?_getD, List.getElem?_eq_getElem hjl]; rfl
    obtain ⟨v', w', hr, h2, h3, _⟩ := run_append_own (P := Pr) w base t ty 5 i (.int .u8 0) 1 1 ht hi hz hsize hby rfl (by decide) v n xs hown ad m c _ hl hnews h1 h63 hbytes hbase
    exact ⟨v', w', hr, h2, h3⟩

theorem wpList_append_isb {ops : Array Oper} {rest : List Oper} {o : Oper} {a : Act} {Q : Exit → Act → World → Prop} (hgd : o.guard = none) (s x : Operand) (t : TypeId)
    (ho : o.op = .call { callee := .builtin .append, args := #[s, x], argTypes := #[t, t] })
    (base : Nat) (i : TypeInfo) (ht : Pr.underlying t = some (.slice 5)) (hi : Pr.info? 5 = some i) (hz : i.zero = some (.int .u8 0)) (hsize : i.size = 1) (hby : i.bytes = 1)
    (v : Value) (n : Nat) (xs : List Value) (hsv : a.eval s = v) (hown : w.ownsRow base 5 1 v n xs) (P : Nat → Prop) (ad : Option Addr) (m c : Nat) (ys : List Int) (hx : a.eval x = .slice ad m c) (hs : IsB P w ad m c ys)
    (h63 : n + m ≤ maxLen) (hbytes : (n + m) * 1 ≤ 140737488355328) (hbase : base ≤ w.heap.size)
    (h : ∀ v' w', w'.ownsRow base 5 1 v' (n + m) (xs ++ ys.map (Value.int .u8)) → w.grownBy w' v.ownBlock → wpList Pr ops Q rest (a.put o.dst v') w') : wpList Pr ops Q (o :: rest) a w :=
  wpList_plain hgd fun _ hK => by
    obtain ⟨v', w', hr, h2, h3⟩ := run_append_isb (Pr := Pr) w t o.type base i ht hi hz hsize hby v n xs hown P ad m c ys hs h63 hbytes hbase
    unfold Oper.wp execOp
    simp only [ho, resolve, invoke, builtin, Sem.run_bind, Sem.run_pure, Result.andThen_ok, List.map_toArray, List.map_cons, List.map_nil, hsv, hx, hr]
    exact hK _ _ (h v' w' h2 h3)
end

/-- A value that owns a row, written out. -/
theorem own_form {w : World} {base : Nat} {e : TypeId} {size : Nat} {v : Value} {n : Nat} {xs : List Value} (h : w.ownsRow base e size v n xs) : ∃ a cp, v = .slice a n cp := by
  rcases h.2 with ⟨h, h0⟩ | ⟨g', cap', cur, h, _⟩
  · exact ⟨_, _, by rw [h, h0]⟩
  · exact ⟨_, _, h⟩

end Go.Proofs.Ythdobpfojdcagaa.App
