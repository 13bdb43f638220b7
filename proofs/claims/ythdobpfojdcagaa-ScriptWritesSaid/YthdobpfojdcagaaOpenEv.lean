/-
  Events that came in, as the walks are told of them.
-/
import Derived.Test.YthdobpfojdcagaaOpen
import Derived.Test.YthdobpfojdcagaaRBytes
import Derived.Deep.Slices
import Derived.Deep.Fields
set_option linter.unusedVariables false
namespace Go.Proofs.Ythdobpfojdcagaa.OpenEv
open Go.ChangeShapes Go.WideShapes Go.RowKit Go.Deep Go.Proofs.Ythdobpfojdcagaa.Ev Go.Proofs.Ythdobpfojdcagaa.Next Go.Proofs.Ythdobpfojdcagaa.Events Go.Proofs.Ythdobpfojdcagaa.Same Go.Proofs.Ythdobpfojdcagaa.RBytes

section
variable {H : Type} {enc : TypeId × Value → H} {P : Program} {w : World} {base : Nat} {spare : Nat → Bool} {held : Bool}

/-- One event of such a slice: six numbers, and its bytes. -/
theorem open_one {e u : TypeId} {fs : Array Field} {n : Nat} {cs : List Value} {x : DataW H × List MemPlace} {g o : Nat} (he : P.underlying e = some (.struct fs)) (hone : oneCellFields P fs = true) (hsz : fs.size = 7)
    (hk : ∀ (j : Nat) f, j < 6 → fs[j]? = some f → P.underlying f.type = some (.int .i64)) (hk6 : ∀ f, fs[6]? = some f → P.underlying f.type = some (.slice u)) (hu : P.underlying u = some (.int .u8)) (hCu : P.cellsOf u = 1) (hC : P.cellsOf e = 7)
    (h : DataW.trod enc P w base spare held n e cs = some x) (hat : ∀ j, j < 7 → w.cell? ⟨g, o + j, none⟩ = cs[j]?) :
    ∃ ev a cp, EvAt (fun b => b < w.heap.size) w g o ev a cp ∧ EvOk ev := by
  obtain ⟨ys, n', _, _, hlen, hyl, hfld⟩ := DataW.trod_struct he h
  rw [hC] at hlen
  have part : ∀ j, (hj : j < 7) → ∃ f v y, fs[j]? = some f ∧ cs[j]? = some v ∧ DataW.trod enc P w base spare held n' f.type [v] = some y := by
    intro j hj
    have hjf : fs[j]? = some (fs[j]'(by omega)) := Array.getElem?_eq_getElem (by omega)
    obtain ⟨ho, hkk⟩ := hone_of hone j _ hjf
    have h1 := hfld j _ hjf
    rw [ho, hkk] at h1
    have hj' : j < cs.length := by omega
    have hone' : (cs.drop j).take 1 = [cs[j]] := by rw [List.drop_eq_getElem_cons hj']; rfl
    rw [hone', List.getElem?_eq_getElem (by omega)] at h1
    exact ⟨_, _, _, hjf, List.getElem?_eq_getElem hj', h1⟩
  have int : ∀ j, j < 6 → ∃ z : Int, w.cell? ⟨g, o + j, none⟩ = some (.int .i64 z) ∧ -9223372036854775808 ≤ z ∧ z ≤ 9223372036854775807 := by
    intro j hj
    obtain ⟨f, v, y, hf, hv, ht⟩ := part j (by omega)
    obtain ⟨z, hz, _, hwf⟩ := DataW.trod_int (hk j f hj hf) ht
    refine ⟨z, ?_, bounds_i64 hwf⟩
    rw [hat j (by omega), hv]
    simpa using hz
  obtain ⟨z0, c0, b0⟩ := int 0 (by omega)
  obtain ⟨z1, c1, b1⟩ := int 1 (by omega)
  obtain ⟨z2, c2, b2⟩ := int 2 (by omega)
  obtain ⟨z3, c3, b3⟩ := int 3 (by omega)
  obtain ⟨z4, c4, b4⟩ := int 4 (by omega)
  obtain ⟨z5, c5, b5⟩ := int 5 (by omega)
  obtain ⟨f, v, y, hf, hv, ht⟩ := part 6 (by omega)
  have c6 := hat 6 (by omega)
  rw [hv] at c6
  obtain ⟨a, len, cp, bs, hvv, hb⟩ : ∃ a len cp bs, v = .slice a len cp ∧ IsB (fun b => b < w.heap.size) w a len cp bs := by
    rcases open_slice (hk6 f hf) ht with ⟨hcs, _⟩ | ⟨x, l, c, m, n, D, Pl, hcs, _⟩
    · obtain ⟨bs, hb⟩ := Open.open_bytes (a := none) (len := 0) (cap := 0) (d := y.1) (p := y.2) (hk6 f hf) hu hCu ⟨n', by rw [show (Value.slice none 0 0).cells.toList = [v] by rw [hcs]; rfl]; exact ht⟩
      exact ⟨none, 0, 0, bs, by simpa using hcs, hb⟩
    · obtain ⟨bs, hb⟩ := Open.open_bytes (a := some x) (len := l) (cap := c) (d := y.1) (p := y.2) (hk6 f hf) hu hCu ⟨n', by rw [show (Value.slice (some x) l c).cells.toList = [v] by rw [hcs]; rfl]; exact ht⟩
      exact ⟨some x, l, c, bs, by simpa using hcs, hb⟩
  subst hvv
  have hl := hb.bytes.1
  subst hl
  exact ⟨⟨z0, z1, z2, z3, z4, z5, bs⟩, a, cp, ⟨c0, c1, c2, c3, c4, c5, c6, hb⟩, ⟨b0.1, b0.2, b1.1, b1.2, b2.1, b2.2, b3.1, b3.2, b4.1, b4.2, b5.1, b5.2⟩⟩

theorem list_of {Q : Nat → Ev → Prop} (n : Nat) (h : ∀ i, i < n → ∃ e, Q i e) : ∃ es : List Ev, es.length = n ∧ ∀ i e, es[i]? = some e → Q i e := by
  induction n with
  | zero => exact ⟨[], rfl, fun i e he => by simp at he⟩
  | succ n ih =>
    obtain ⟨es, h1, h2⟩ := ih (fun i hi => h i (by omega))
    obtain ⟨e, he⟩ := h n (by omega)
    refine ⟨es ++ [e], by simp [h1], fun i x hx => ?_⟩
    by_cases hi : i < es.length
    · rw [List.getElem?_append_left hi] at hx; exact h2 i x hx
    · rw [List.getElem?_append_right (by omega)] at hx
      have : i - es.length = 0 := by
        rcases Nat.eq_zero_or_pos (i - es.length) with h0 | h0
        · exact h0
        · rw [List.getElem?_eq_none (by simp; omega)] at hx; cases hx
      rw [this] at hx
      simp only [List.getElem?_cons_zero, Option.some.injEq] at hx
      subst hx
      rw [show i = n by omega]; exact he

theorem open_events {t e u : TypeId} {fs : Array Field} {a : Option Addr} {len cap : Nat} {d : DataW H} {p : List MemPlace} (ht : P.underlying t = some (.slice e)) (he : P.underlying e = some (.struct fs)) (hone : oneCellFields P fs = true) (hsz : fs.size = 7)
    (hk : ∀ (j : Nat) f, j < 6 → fs[j]? = some f → P.underlying f.type = some (.int .i64)) (hk6 : ∀ f, fs[6]? = some f → P.underlying f.type = some (.slice u)) (hu : P.underlying u = some (.int .u8)) (hCu : P.cellsOf u = 1) (hC : P.cellsOf e = 7)
    (h : DataW.Trod enc P w base spare held t (.slice a len cap) d p) : ∃ es, IsEvs (fun b => b < w.heap.size) w a len cap es ∧ ∀ x ∈ es, EvOk x := by
  obtain ⟨fuel, hf⟩ := h
  rcases open_slice ht hf with ⟨hcs, _⟩ | ⟨x, l, c, m, n, D, Pl, hcs, _, hlc, hcm, hm, _, hi⟩
  · simp [Value.cells] at hcs
    obtain ⟨rfl, rfl, rfl⟩ := hcs
    exact ⟨[], ⟨rfl, Nat.le_refl _, Nat.zero_le _, .inl rfl⟩, (fun _ h => by cases h)⟩
  · simp only [Value.cells, List.cons.injEq, Value.slice.injEq, and_true] at hcs
    obtain ⟨rfl, rfl, rfl⟩ := hcs
    by_cases h0 : len = 0
    · subst h0
      exact ⟨[], ⟨rfl, hlc, hcm, .inl rfl⟩, (fun _ h => by cases h)⟩
    have hlm : len ≤ m := by rw [hm]; split <;> omega
    rw [hC] at hi
    obtain ⟨g, off, spot⟩ := x
    have hspot : spot = none := by
      obtain ⟨cs', hc, ht'⟩ := hi 0 (by omega)
      obtain ⟨_, hcl, hat⟩ := World.cells?_some hc
      have h1 := hat 0 (by omega)
      rw [List.getElem?_eq_getElem (by omega)] at h1
      have := World.cell?_spot h1
      simpa [Addr.add] using this
    subst hspot
    have key : ∀ i, i < len → ∃ ev, (∃ a1 cp, EvAt (fun b => b < w.heap.size) w g (off + i * 7) ev a1 cp) ∧ EvOk ev := by
      intro i hil
      obtain ⟨cs', hc, ht'⟩ := hi i (by omega)
      obtain ⟨_, hcl, hat⟩ := World.cells?_some hc
      obtain ⟨ev, a1, cp, h1, h2⟩ := open_one (g := g) (o := off + i * 7) he hone hsz hk hk6 hu hCu hC ht' (fun j hj => by
        have := hat j (by omega)
        rw [Go.WideShapes.add_plain, Go.WideShapes.add_plain] at this
        exact this)
      exact ⟨ev, ⟨a1, cp, h1⟩, h2⟩
    obtain ⟨es, hl, hes⟩ := list_of len key
    refine ⟨es, ⟨hl, hlc, hcm, .inr ⟨g, off, rfl, ?_, ?_, fun i e he => (hes i e he).1⟩⟩, fun x hx => ?_⟩
    · obtain ⟨e, he⟩ : ∃ e, es[0]? = some e := ⟨es[0]'(by omega), List.getElem?_eq_getElem (by omega)⟩
      obtain ⟨a1, cp, k⟩ := (hes 0 e he).1
      exact World.block_lt_of_cell? w _ k.c0
    · obtain ⟨e, he⟩ : ∃ e, es[0]? = some e := ⟨es[0]'(by omega), List.getElem?_eq_getElem (by omega)⟩
      obtain ⟨a1, cp, k⟩ := (hes 0 e he).1
      exact World.block_lt_of_cell? w _ k.c0
    · obtain ⟨i, hi, hie⟩ := List.getElem_of_mem hx
      exact (hes i x (by rw [List.getElem?_eq_getElem hi, hie])).2
end

section
variable {H : Type} {enc : TypeId × Value → H} {w : World} {base : Nat} {spare : Nat → Bool} {held : Bool}
theorem open_evs {a : Option Addr} {len cap : Nat} {d : DataW H} {p : List MemPlace} (h : DataW.Trod enc Try.prog w base spare held 24 (.slice a len cap) d p) : ∃ es, IsEvs (fun b => b < w.heap.size) w a len cap es ∧ ∀ x ∈ es, EvOk x := by
  refine open_events Try.underlying24 Try.underlying34 (by kernel_rfl) rfl ?_ ?_ Try.underlying5 (by kernel_rfl) (by kernel_rfl) h
  · intro j f hj hf
    match j, hj with
    | 0, _ => injection hf with hf; subst hf; exact Try.underlying3
    | 1, _ => injection hf with hf; subst hf; exact Try.underlying3
    | 2, _ => injection hf with hf; subst hf; exact Try.underlying3
    | 3, _ => injection hf with hf; subst hf; exact Try.underlying3
    | 4, _ => injection hf with hf; subst hf; exact Try.underlying3
    | 5, _ => injection hf with hf; subst hf; exact Try.underlying3
  · intro f hf
    injection hf with hf; subst hf; exact Try.underlying22
end
end Go.Proofs.Ythdobpfojdcagaa.OpenEv
