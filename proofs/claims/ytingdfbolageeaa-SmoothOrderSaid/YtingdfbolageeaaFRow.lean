/-
  A slice of floats that came in, as the walks are told of it: nil, or a row of cells, each a float.
-/
import Derived.Test.YtingdfbolageeaaBest
import Derived.OpenShut
import Derived.Deep.Slices
import Derived.Deep.Fields
set_option linter.unusedVariables false
namespace Go.Proofs.Ytingdfbolageeaa.FRow
open Go.ChangeShapes Go.WideShapes Go.RowKit Go.Deep Go.Proofs.Ytingdfbolageeaa.Best

/-- The float in a cell. -/
def fltAt (w : World) (a : Addr) : Nat := match w.cell? a with | some (.float _ n) => n | _ => 0

/-- What is known of a slice of floats. -/
def IsRow (w : World) (a : Option Addr) (len cap : Nat) : Prop :=
  (len = 0 ∧ (a = none ∧ cap = 0 ∨ ∃ x, a = some x)) ∨
  ∃ b off l, a = some ⟨b, off, none⟩ ∧ b < w.heap.size ∧ len ≤ maxLen ∧ ∀ i, i < len → w.cell? ⟨b, off + i, none⟩ = some (.float .f64 (at' l i))

section
variable {H : Type} {enc : TypeId × Value → H} {P : Program} {w : World} {base : Nat} {spare : Nat → Bool} {held : Bool}

theorem trod_float {t : TypeId} {k : FloatKind} {cs : List Value} {x : DataW H × List MemPlace} {n : Nat} (ht : P.underlying t = some (.float k)) (h : DataW.trod enc P w base spare held n t cs = some x) : ∃ b, cs = [.float k b] := by
  cases n with
  | zero => simp [DataW.trod] at h
  | succ n =>
    simp only [DataW.trod, ht] at h
    split at h <;> first
      | (cases h; done)
      | (rename_i heq; injection heq with heq; cases heq; done)
      | (rename_i k1 k2 b heq
         injection heq with heq
         injection heq with heq
         subst heq
         by_cases hk : k2 = k
         · subst hk; exact ⟨_, rfl⟩
         · simp [hk] at h)

theorem open_row {t e : TypeId} {a : Option Addr} {len cap : Nat} {d : DataW H} {p : List MemPlace} (ht : P.underlying t = some (.slice e)) (he : P.underlying e = some (.float .f64)) (hC : P.cellsOf e = 1)
    (h : DataW.Trod enc P w base spare held t (.slice a len cap) d p) : IsRow w a len cap := by
  obtain ⟨fuel, hf⟩ := h
  rcases open_slice ht hf with ⟨hcs, _⟩ | ⟨x, l, c, m, n, D, Pl, hcs, _, hlc, hcm, hm, _, hi⟩
  · simp [Value.cells] at hcs
    exact .inl ⟨hcs.2.1, .inl ⟨hcs.1, hcs.2.2⟩⟩
  · simp only [Value.cells, List.cons.injEq, Value.slice.injEq, and_true] at hcs
    obtain ⟨rfl, rfl, rfl⟩ := hcs
    by_cases h0 : len = 0
    · exact .inl ⟨h0, .inr ⟨x, rfl⟩⟩
    have hlm : len ≤ m := by rw [hm]; split <;> omega
    have key : ∀ i, i < len → ∃ b, w.cell? (x.add i) = some (.float .f64 b) := by
      intro i hil
      obtain ⟨cs', hc, ht'⟩ := hi i (by omega)
      rw [hC] at hc
      obtain ⟨b, rfl⟩ := trod_float he ht'
      obtain ⟨_, _, hat⟩ := World.cells?_some hc
      have := hat 0 (by omega)
      rw [Nat.mul_one] at this
      refine ⟨b, ?_⟩
      simpa [Addr.add] using this
    obtain ⟨b, off, spot⟩ := x
    obtain ⟨z0, hz0⟩ := key 0 (by omega)
    have hspot : spot = none := by simpa [Addr.add] using World.cell?_spot hz0
    subst hspot
    have hb : b < w.heap.size := by have h := World.block_lt_of_cell? w _ hz0; rw [Go.WideShapes.add_plain] at h; exact h
    refine .inr ⟨b, off, (List.range len).map (fun i => fltAt w ⟨b, off + i, none⟩), rfl, hb, by omega, fun i hil => ?_⟩
    obtain ⟨z, hz⟩ := key i hil
    rw [Go.WideShapes.add_plain] at hz
    have e : at' ((List.range len).map (fun i => fltAt w ⟨b, off + i, none⟩)) i = z := by
      unfold at'
      rw [List.getD_eq_getElem?_getD, List.getElem?_map, List.getElem?_range hil]
      show fltAt w ⟨b, off + i, none⟩ = z
      unfold fltAt; rw [hz]
    rw [e]; exact hz
end

end Go.Proofs.Ytingdfbolageeaa.FRow
