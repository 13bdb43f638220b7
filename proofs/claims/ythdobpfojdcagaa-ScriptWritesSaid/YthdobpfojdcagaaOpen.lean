/-
  Bytes that came in, as the walks are told of them.
-/
import Derived.Test.YthdobpfojdcagaaIs
import Derived.Deep.Slices
import Derived.ChangeSlices
set_option linter.unusedVariables false
namespace Go.Proofs.Ythdobpfojdcagaa.Open
open Go.ChangeShapes Go.WideShapes Go.RowKit Go.Deep Go.Proofs.Ythdobpfojdcagaa.Ev Go.Proofs.Ythdobpfojdcagaa.Next Go.Proofs.Ythdobpfojdcagaa.Events Go.Proofs.Ythdobpfojdcagaa.Same

section
variable {H : Type} {enc : TypeId × Value → H} {P : Program} {w : World} {base : Nat} {spare : Nat → Bool} {held : Bool}

theorem open_bytes {t e : TypeId} {a : Option Addr} {len cap : Nat} {d : DataW H} {p : List MemPlace} (ht : P.underlying t = some (.slice e)) (he : P.underlying e = some (.int .u8)) (hC : P.cellsOf e = 1)
    (h : DataW.Trod enc P w base spare held t (.slice a len cap) d p) : ∃ bs, IsB (fun b => b < w.heap.size) w a len cap bs := by
  obtain ⟨fuel, hf⟩ := h
  rcases open_ints ht he hC hf with ⟨hcs, _⟩ | ⟨x, l, c, zs, hcs, _, hlc, hcm, hz, _, hc, hwf⟩
  · simp [Value.cells] at hcs
    obtain ⟨rfl, rfl, rfl⟩ := hcs
    exact ⟨[], ⟨rfl, (fun _ h => by cases h), .inl rfl⟩, Nat.le_refl _, Nat.zero_le _, .inl rfl⟩
  · simp only [Value.cells, List.cons.injEq, Value.slice.injEq, and_true] at hcs
    obtain ⟨rfl, rfl, rfl⟩ := hcs
    have hlz : len ≤ zs.length := by rw [hz]; split <;> omega
    have hlen : (zs.take len).length = len := by simp; omega
    refine ⟨zs.take len, ⟨hlen, fun y hy => bounds_u8 (hwf y (List.mem_of_mem_take hy)), ?_⟩, hlc, hcm, ?_⟩
    all_goals
      by_cases h0 : len = 0
      · exact .inl h0
      obtain ⟨b, off, spot⟩ := x
      have hz0 := hc 0 (by omega)
      have hspot : spot = none := by simpa [Addr.add] using World.cell?_spot hz0
      subst hspot
      have hb : b < w.heap.size := by have h := World.block_lt_of_cell? w _ hz0; rw [Go.WideShapes.add_plain] at h; exact h
    · refine .inr ⟨b, off, rfl, hb, fun j hj => ?_⟩
      have h1 := hc j (by omega)
      rw [Go.WideShapes.add_plain] at h1
      rw [h1]
      unfold byte
      rw [List.getD_eq_getElem?_getD, List.getD_eq_getElem?_getD, List.getElem?_take, if_pos hj]
    · exact .inr ⟨b, off, rfl, hb⟩
end
end Go.Proofs.Ythdobpfojdcagaa.Open
