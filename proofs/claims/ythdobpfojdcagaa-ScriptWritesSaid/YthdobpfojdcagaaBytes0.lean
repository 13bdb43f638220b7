/-
  Whether events may be, and their bytes, plainly. No program in sight.
-/
import Derived.Test.YthdobpfojdcagaaLay0
namespace Go.Proofs.Ythdobpfojdcagaa.Bytes0
open Go.Proofs.Ythdobpfojdcagaa.Ev Go.Proofs.Ythdobpfojdcagaa.Fold Go.Proofs.Ythdobpfojdcagaa.Lay0

/-- May an event be? -/
def OkE (e : Ev) : Prop := e.b.length ≤ 4096 ∧ evAt (layE e) 0 = e
instance (e : Ev) : Decidable (OkE e) := by unfold OkE; infer_instance
/-- What is told of events: 0: they may be; 3: too many; 2: one may not be. -/
def errOf (es : List Ev) : Int := if 4096 < es.length then 3 else if ∀ e ∈ es, OkE e then 0 else 2
def outOf (es : List Ev) : List Int := if errOf es = 0 then es.flatMap layE else []

theorem err_long {es : List Ev} (h : 4096 < es.length) : errOf es = 3 ∧ outOf es = [] := by
  have e : errOf es = 3 := by unfold errOf; rw [if_pos h]
  exact ⟨e, by unfold outOf; rw [e, if_neg (by decide)]⟩
theorem err_ok {es : List Ev} (h : ¬ 4096 < es.length) (ok : ∀ e ∈ es, OkE e) : errOf es = 0 ∧ outOf es = es.flatMap layE := by
  have e : errOf es = 0 := by unfold errOf; rw [if_neg h, if_pos ok]
  exact ⟨e, by unfold outOf; rw [e, if_pos rfl]⟩
theorem err_bad {es : List Ev} (h : ¬ 4096 < es.length) {e : Ev} (he : e ∈ es) (bad : ¬ OkE e) : errOf es = 2 ∧ outOf es = [] := by
  have e : errOf es = 2 := by unfold errOf; rw [if_neg h, if_neg (fun k => bad (k e he))]
  exact ⟨e, by unfold outOf; rw [e, if_neg (by decide)]⟩
theorem flatMap_len (es : List Ev) (n : Nat) (h : ∀ e ∈ es, e.b.length ≤ n) : (es.flatMap layE).length ≤ es.length * (13 + 3 * n) := by
  induction es with
  | nil => simp
  | cons e es ih =>
    rw [List.flatMap_cons, List.length_append, List.length_cons, Nat.add_mul, Nat.one_mul]
    have h1 := layE_len e
    have h2 := h e (List.mem_cons_self ..)
    have h3 := ih (fun x hx => h x (List.mem_cons_of_mem _ hx))
    omega
theorem take_snoc (es : List Ev) (i : Nat) (e : Ev) (h : es[i]? = some e) : es.take (i + 1) = es.take i ++ [e] := by
  have hl : i < es.length := by
    rcases Nat.lt_or_ge i es.length with h' | h'
    · exact h'
    · rw [List.getElem?_eq_none h'] at h; cases h
  rw [List.getElem?_eq_getElem hl] at h; injection h with h
  rw [List.take_succ_eq_append_getElem hl, h]
theorem flat_snoc (es : List Ev) (i : Nat) (e : Ev) (h : es[i]? = some e) : (es.take (i + 1)).flatMap layE = (es.take i).flatMap layE ++ layE e := by
  rw [take_snoc es i e h, List.flatMap_append]; simp

end Go.Proofs.Ythdobpfojdcagaa.Bytes0
