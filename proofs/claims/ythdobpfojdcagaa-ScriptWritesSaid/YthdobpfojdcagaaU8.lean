/-
  A row of bytes whose every cell, the room behind it too, is a byte; append keeps that.
-/
import Derived.Test.YthdobpfojdcagaaNext
import Derived.Deep.AppendLies
set_option linter.unusedVariables false
namespace Go.Proofs.Ythdobpfojdcagaa.U8
open Go.RowKit Go.Proofs.Ythdobpfojdcagaa.Next

def IsU8 (u : Value) : Prop := ∃ x : Int, 0 ≤ x ∧ x ≤ 255 ∧ u = .int .u8 x
/-- Every cell of the row that v owns is a byte. -/
def U8Row (w : World) (v : Value) : Prop := ∀ g, v.ownBlock = some g → ∃ cur, w.heap[g]? = some (.cells cur 5 (0, 0)) ∧ ∀ u ∈ cur.toList, IsU8 u

theorem U8Row.nil (w : World) : U8Row w (.slice none 0 0) := fun g hg => by cases hg
theorem U8Row.kept {S : Nat → Prop} {w w' : World} {base : Nat} {e : TypeId} {size : Nat} {v : Value} {n : Nat} {xs : List Value} (h : U8Row w v) (ho : w.ownsRow base e size v n xs) (c : Chg S w w') (hs : ∀ b, base ≤ b → ¬ S b) : U8Row w' v := by
  intro g hg
  obtain ⟨hb, hlt⟩ := ho.lt g hg
  obtain ⟨cur, h1, h2⟩ := h g hg
  exact ⟨cur, by rw [c.block g hlt (hs g hb)]; exact h1, h2⟩

theorem zero_u8 (n : Nat) : ∀ u ∈ (Builtin.zeroCells (Value.int .u8 0).cells n).toList, IsU8 u := by
  intro u hu
  simp only [Builtin.zeroCells, Value.cells, Array.toList_map, List.mem_map] at hu
  obtain ⟨i, _, rfl⟩ := hu
  refine ⟨0, by omega, by omega, ?_⟩
  show (#[Value.int .u8 0] : Array Value)[i % 1]! = _
  rw [Nat.mod_one]
  rfl

section
variable {P : Program} (w : World)

theorem run_append_u8 (t ty : TypeId) (base : Nat) (i : TypeInfo) (ht : P.underlying t = some (.slice 5)) (hi : P.info? 5 = some i) (hz : i.zero = some (.int .u8 0))
    (hsize : i.size = 1) (hby : i.bytes = 1)
    (v : Value) (n : Nat) (xs : List Value) (hown : w.ownsRow base 5 1 v n xs) (hall : U8Row w v)
    (ad : Addr) (m c : Nat) (news : List Value) (hl : news.length = m * 1) (hnews : ∀ j u, news[j]? = some u → w.cell? (ad.add j) = some u) (h1 : ∀ u ∈ news, u.oneCell' = true) (hu : ∀ u ∈ news, IsU8 u)
    (hm : 0 < m) (h63 : n + m ≤ maxLen) (hbytes : (n + m) * 1 ≤ 140737488355328) (hbase : base ≤ w.heap.size) (H : Nat) (hH : w.heap.size = H) :
    ∃ g cap w', (Builtin.append_ #[t, t] ty #[v, .slice (some ad) m c]).run P w = .ok (.slice (some ⟨g, 0, none⟩) (n + m) cap) w' ∧
      w'.ownsRow base 5 1 (.slice (some ⟨g, 0, none⟩) (n + m) cap) (n + m) (xs ++ news) ∧ w.grownBy w' v.ownBlock ∧ (v.ownBlock = some g ∨ g = H) ∧ g < w'.heap.size ∧ U8Row w' (.slice (some ⟨g, 0, none⟩) (n + m) cap) := by
  obtain ⟨g, cap, w', hr, h2, h3, h4, h5⟩ := run_append_lies (P := P) w t ty base 5 i (.int .u8 0) 1 1 ht hi hz hsize hby rfl (by decide) v n xs hown ad m c news hl hnews h1 hm h63 hbytes hbase H hH
  refine ⟨g, cap, w', hr, h2, h3, h4, h5, ?_⟩
  have hsmall : n + m ≤ 9223372036854775807 := by simp only [maxLen] at h63; omega
  rcases hown.2 with ⟨rfl, rfl⟩ | ⟨g0, cap0, cur, rfl, hbg, hg, hnc, hcm, hcs, htake⟩
  · have hx := run_append_nil (P := P) w t ty 5 i (.int .u8 0) ht hi hz ad m c news (by rw [hsize]; exact hl) hnews hm (by omega) (by rw [hby]; omega)
    rw [hr] at hx
    injection hx with e1 e2
    injection e1 with e3 _ _
    injection e3 with e4
    injection e4 with e5 _ _
    subst e2; subst e5
    intro g' hg'
    simp only [Value.ownBlock, Option.some.injEq] at hg'
    subst hg'
    refine ⟨_, heap_alloc_new w.drew _, ?_⟩
    intro u hu'
    rw [Array.toList_append, List.mem_append] at hu'
    rcases hu' with h | h
    · exact hu u (by simpa using h)
    · exact zero_u8 _ u h
  · obtain ⟨cur', hg', hcur⟩ := hall g0 rfl
    rw [hg] at hg'
    injection hg' with hg'; injection hg' with hg' _ _; subst hg'
    by_cases hroom : n + m ≤ cap0
    · have hx := run_append_room (P := P) w t ty 5 i ht hi g0 n cap0 cur hg ad m c news (by rw [hsize]; exact hl) hnews h1 hroom (by rw [hl, hcs, hsize]; omega)
      rw [hr] at hx
      injection hx with e1 e2
      injection e1 with e3 _ _
      injection e3 with e4
      injection e4 with e5 _ _
      subst e2; subst e5
      intro g' hg'
      simp only [Value.ownBlock, Option.some.injEq] at hg'
      subst hg'
      refine ⟨_, setRow_heap w g cur _ 5 _ hg, ?_⟩
      intro u hu'
      simp only [List.mem_append] at hu'
      rcases hu' with (h | h) | h
      · exact hcur u (List.mem_of_mem_take h)
      · exact hu u h
      · exact hcur u (List.mem_of_mem_drop h)
    · have holds : ∀ j u, xs[j]? = some u → w.cell? ((⟨g0, 0, none⟩ : Addr).add j) = some u := hown.cells (g := g0) rfl
      have hx := run_append_grow (P := P) w t ty 5 i (.int .u8 0) ht hi hz ⟨g0, 0, none⟩ n cap0 xs (by rw [hsize]; exact hown.1) holds ad m c news (by rw [hsize]; exact hl) hnews (by omega) (by omega) (growslice_fits (by omega) (by rw [hby]; exact hbytes))
      rw [hr] at hx
      injection hx with e1 e2
      injection e1 with e3 _ _
      injection e3 with e4
      injection e4 with e5 _ _
      subst e2; subst e5
      intro g' hg'
      simp only [Value.ownBlock, Option.some.injEq] at hg'
      subst hg'
      refine ⟨_, heap_alloc_new w.drew _, ?_⟩
      intro u hu'
      simp only [Array.toList_append, List.mem_append] at hu'
      rcases hu' with (h | h) | h
      · rw [← htake] at h; exact hcur u (List.mem_of_mem_take (by simpa using h))
      · exact hu u (by simpa using h)
      · exact zero_u8 _ u h

/-- At the operation. -/
theorem wp_append_u8 {o : Oper} {a : Act} {K : Act → World → Prop} {Q : Exit → Act → World → Prop} (s x : Operand) (t : TypeId)
    (ho : o.op = .call { callee := .builtin .append, args := #[s, x], argTypes := #[t, t] })
    (base : Nat) (i : TypeInfo) (ht : P.underlying t = some (.slice 5)) (hi : P.info? 5 = some i) (hz : i.zero = some (.int .u8 0)) (hsize : i.size = 1) (hby : i.bytes = 1)
    (v : Value) (n : Nat) (xs : List Value) (hs : a.eval s = v) (hown : w.ownsRow base 5 1 v n xs) (hall : U8Row w v)
    (ad : Addr) (m c : Nat) (news : List Value) (hx : a.eval x = .slice (some ad) m c) (hl : news.length = m * 1) (hnews : ∀ j u, news[j]? = some u → w.cell? (ad.add j) = some u) (h1 : ∀ u ∈ news, u.oneCell' = true) (hu : ∀ u ∈ news, IsU8 u)
    (hm : 0 < m) (h63 : n + m ≤ maxLen) (hbytes : (n + m) * 1 ≤ 140737488355328) (hbase : base ≤ w.heap.size) (H : Nat) (hH : w.heap.size = H)
    (h : ∀ g cap w', w'.ownsRow base 5 1 (.slice (some ⟨g, 0, none⟩) (n + m) cap) (n + m) (xs ++ news) → w.grownBy w' v.ownBlock → (v.ownBlock = some g ∨ g = H) → g < w'.heap.size → U8Row w' (.slice (some ⟨g, 0, none⟩) (n + m) cap) → K (a.put o.dst (.slice (some ⟨g, 0, none⟩) (n + m) cap)) w') : o.wp P a w K Q := by
  obtain ⟨g, cap, w', hr, h2, h3, h4, h5, h6⟩ := run_append_u8 (P := P) w t o.type base i ht hi hz hsize hby v n xs hown hall ad m c news hl hnews h1 hu hm h63 hbytes hbase H hH
  unfold Oper.wp execOp
  simp only [ho, resolve, invoke, builtin, Sem.run_bind, Sem.run_pure, Result.andThen_ok, List.map_toArray, List.map_cons, List.map_nil, hs, hx, hr]
  exact h g cap w' h2 h3 h4 h5 h6

/-- At a plain region's list. -/
theorem wpList_append_u8 {ops : Array Oper} {rest : List Oper} {o : Oper} {a : Act} {Q : Exit → Act → World → Prop} (hgd : o.guard = none) (s x : Operand) (t : TypeId)
    (ho : o.op = .call { callee := .builtin .append, args := #[s, x], argTypes := #[t, t] })
    (base : Nat) (i : TypeInfo) (ht : P.underlying t = some (.slice 5)) (hi : P.info? 5 = some i) (hz : i.zero = some (.int .u8 0)) (hsize : i.size = 1) (hby : i.bytes = 1)
    (v : Value) (n : Nat) (xs : List Value) (hs : a.eval s = v) (hown : w.ownsRow base 5 1 v n xs) (hall : U8Row w v)
    (ad : Addr) (m c : Nat) (news : List Value) (hx : a.eval x = .slice (some ad) m c) (hl : news.length = m * 1) (hnews : ∀ j u, news[j]? = some u → w.cell? (ad.add j) = some u) (h1 : ∀ u ∈ news, u.oneCell' = true) (hu : ∀ u ∈ news, IsU8 u)
    (hm : 0 < m) (h63 : n + m ≤ maxLen) (hbytes : (n + m) * 1 ≤ 140737488355328) (hbase : base ≤ w.heap.size) (H : Nat) (hH : w.heap.size = H)
    (h : ∀ g cap w', w'.ownsRow base 5 1 (.slice (some ⟨g, 0, none⟩) (n + m) cap) (n + m) (xs ++ news) → w.grownBy w' v.ownBlock → (v.ownBlock = some g ∨ g = H) → g < w'.heap.size → U8Row w' (.slice (some ⟨g, 0, none⟩) (n + m) cap) → wpList P ops Q rest (a.put o.dst (.slice (some ⟨g, 0, none⟩) (n + m) cap)) w') : wpList P ops Q (o :: rest) a w :=
  wpList_plain hgd fun _ hK => wp_append_u8 w s x t ho base i ht hi hz hsize hby v n xs hs hown hall ad m c news hx hl hnews h1 hu hm h63 hbytes hbase H hH fun g cap w' h2 h3 h4 h5 h6 => hK _ _ (h g cap w' h2 h3 h4 h5 h6)

/-- At a step of a region that draws its order. -/
theorem step_append_u8 {ops : Array Oper} {o : Oper} {a : Act} {K : Act → World → Prop} {Q : Exit → Act → World → Prop} {E : Prop} (hgd : o.guard = none) (s x : Operand) (t : TypeId)
    (ho : o.op = .call { callee := .builtin .append, args := #[s, x], argTypes := #[t, t] })
    (base : Nat) (i : TypeInfo) (ht : P.underlying t = some (.slice 5)) (hi : P.info? 5 = some i) (hz : i.zero = some (.int .u8 0)) (hsize : i.size = 1) (hby : i.bytes = 1)
    (v : Value) (n : Nat) (xs : List Value) (hs : a.eval s = v) (hown : w.ownsRow base 5 1 v n xs) (hall : U8Row w v)
    (ad : Addr) (m c : Nat) (news : List Value) (hx : a.eval x = .slice (some ad) m c) (hl : news.length = m * 1) (hnews : ∀ j u, news[j]? = some u → w.cell? (ad.add j) = some u) (h1 : ∀ u ∈ news, u.oneCell' = true) (hu : ∀ u ∈ news, IsU8 u)
    (hm : 0 < m) (h63 : n + m ≤ maxLen) (hbytes : (n + m) * 1 ≤ 140737488355328) (hbase : base ≤ w.heap.size) (H : Nat) (hH : w.heap.size = H)
    (h : ∀ g cap w', w'.ownsRow base 5 1 (.slice (some ⟨g, 0, none⟩) (n + m) cap) (n + m) (xs ++ news) → w.grownBy w' v.ownBlock → (v.ownBlock = some g ∨ g = H) → g < w'.heap.size → U8Row w' (.slice (some ⟨g, 0, none⟩) (n + m) cap) → K (a.put o.dst (.slice (some ⟨g, 0, none⟩) (n + m) cap)) w') :
    if Region.wanted o (yielded ops a.tmps) = true then Oper.wp P o a w K Q else E := by
  have hw : Region.wanted o (yielded ops a.tmps) = true := by simp [Region.wanted, hgd]
  rw [if_pos hw]
  exact wp_append_u8 w s x t ho base i ht hi hz hsize hby v n xs hs hown hall ad m c news hx hl hnews h1 hu hm h63 hbytes hbase H hH h

end
end Go.Proofs.Ythdobpfojdcagaa.U8
