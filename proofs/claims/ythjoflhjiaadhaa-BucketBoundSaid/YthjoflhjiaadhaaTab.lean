/-
  A slice of structs of ints that came in, as the walks are told of it: nil, or a row of cells, each an int of 64 bits.
-/
import Derived.Deep.Slices
import Derived.Deep.Fields
import Derived.OpenShut
import Derived.WalkKit
set_option linter.unusedVariables false
namespace Go.Proofs.Ythjoflhjiaadhaa.Tab
open Go.ChangeShapes Go.WideShapes Go.RowKit Go.Deep

/-- The int in a cell. -/
def intAt (w : World) (a : Addr) : Int := match w.cell? a with | some (.int _ n) => n | _ => 0

/-- What is known of a slice of structs of m ints. -/
def IsTab (w : World) (a : Option Addr) (len m : Nat) : Prop :=
  (a = none ∧ len = 0) ∨
  (len = 0) ∨
  ∃ b off, a = some ⟨b, off, none⟩ ∧ b < w.heap.size ∧ len ≤ maxLen ∧ ∀ i, i < len → ∀ j, j < m → w.cell? ⟨b, off + i * m + j, none⟩ = some (.int .i64 (intAt w ⟨b, off + i * m + j, none⟩)) ∧
    -9223372036854775808 ≤ intAt w ⟨b, off + i * m + j, none⟩ ∧ intAt w ⟨b, off + i * m + j, none⟩ ≤ 9223372036854775807

section
variable {H : Type} {enc : TypeId × Value → H} {P : Program} {w : World} {base : Nat} {spare : Nat → Bool} {held : Bool}

theorem open_tab {t e : TypeId} {fs : Array Field} {a : Option Addr} {len cap : Nat} {d : DataW H} {p : List MemPlace} (ht : P.underlying t = some (.slice e)) (he : P.underlying e = some (.struct fs)) (hone : oneCellFields P fs = true)
    (hk : ∀ (j : Nat) f, fs[j]? = some f → P.underlying f.type = some (.int .i64)) (hC : P.cellsOf e = fs.size) (hpos : 0 < fs.size) (h : DataW.Trod enc P w base spare held t (.slice a len cap) d p) : IsTab w a len fs.size := by
  obtain ⟨fuel, hf⟩ := h
  rcases open_slice ht hf with ⟨hcs, _⟩ | ⟨x, l, c, m, n, D, Pl, hcs, _, hlc, hcm, hm, _, hi⟩
  · simp [Value.cells] at hcs
    exact .inl ⟨hcs.1, hcs.2.1⟩
  · simp only [Value.cells, List.cons.injEq, Value.slice.injEq, and_true] at hcs
    obtain ⟨rfl, rfl, rfl⟩ := hcs
    by_cases h0 : len = 0
    · exact .inr (.inl h0)
    have hlm : len ≤ m := by rw [hm]; split <;> omega
    have key : ∀ i, i < len → ∀ j, j < fs.size → ∃ n, w.cell? (x.add (i * fs.size + j)) = some (.int .i64 n) ∧ (Lit.int .i64 n).wf = true := by
      intro i hil j hj
      obtain ⟨cs', hc, ht'⟩ := hi i (by omega)
      rw [hC] at hc
      obtain ⟨ys, n', _, _, hlen, hyl, hfld⟩ := DataW.trod_struct he ht'
      obtain ⟨_, hcl, hat⟩ := World.cells?_some hc
      have hjf : fs[j]? = some fs[j] := Array.getElem?_eq_getElem hj
      obtain ⟨ho, hkk⟩ := hone_of hone j fs[j] hjf
      have h1 := hfld j fs[j] hjf
      rw [ho, hkk] at h1
      have hj' : j < cs'.length := by omega
      have hone' : (cs'.drop j).take 1 = [cs'[j]] := by rw [List.drop_eq_getElem_cons hj']; rfl
      rw [hone', List.getElem?_eq_getElem (by omega)] at h1
      obtain ⟨z, hz, _, hwf⟩ := DataW.trod_int (hk j fs[j] hjf) h1
      have hzz : cs'[j] = .int .i64 z := by simpa using hz
      refine ⟨z, ?_, hwf⟩
      rw [← Go.Deep.add_add, hat j (by omega), List.getElem?_eq_getElem hj', hzz]
    obtain ⟨b, off, spot⟩ := x
    obtain ⟨z0, hz0, _⟩ := key 0 (by omega) 0 hpos
    have hspot : spot = none := by simpa [Addr.add] using World.cell?_spot hz0
    subst hspot
    have hb : b < w.heap.size := by have h := World.block_lt_of_cell? w _ hz0; rw [Go.WideShapes.add_plain] at h; exact h
    refine .inr (.inr ⟨b, off, rfl, hb, by omega, fun i hil j hj => ?_⟩)
    obtain ⟨z, hz, hwf⟩ := key i hil j hj
    rw [Go.WideShapes.add_plain, ← Nat.add_assoc] at hz
    have e : intAt w ⟨b, off + i * fs.size + j, none⟩ = z := by unfold intAt; rw [hz]
    rw [e]
    exact ⟨hz, bounds_i64 hwf⟩
theorem ints_all {fs : Array Field} {T : TypeId} (h : fs.toList.all (fun f => f.type == T) = true) (hT : P.underlying T = some (.int .i64)) : ∀ (j : Nat) f, fs[j]? = some f → P.underlying f.type = some (.int .i64) := by
  intro j f hj
  have hm : f ∈ fs.toList := by
    rw [← Array.getElem?_toList] at hj
    exact List.mem_of_getElem? hj
  have := List.all_eq_true.1 h f hm
  rw [show f.type = T by simpa using this]
  exact hT
end

end Go.Proofs.Ythjoflhjiaadhaa.Tab
