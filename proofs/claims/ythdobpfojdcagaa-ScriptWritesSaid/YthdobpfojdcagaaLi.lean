/-
  What event's loop over the names keeps; the names as the map holds them.
-/
import Derived.Test.YthdobpfojdcagaaEvent
import Derived.Test.YthdobpfojdcagaaFold
import Derived.Test.YthdobpfojdcagaaU8
import Derived.Laws.OwnMore
set_option linter.unusedVariables false
namespace Go.Proofs.Ythdobpfojdcagaa.Li
open Go.RowKit Go.Proofs.Ythdobpfojdcagaa.Ev Go.Proofs.Ythdobpfojdcagaa.Fold Go.Proofs.Ythdobpfojdcagaa.Next Go.Proofs.Ythdobpfojdcagaa.Fields Go.Proofs.Ythdobpfojdcagaa.U8

theorem owns_kept {S : Nat → Prop} {w w' : World} {base : Nat} {e : TypeId} {size : Nat} {v : Value} {n : Nat} {xs : List Value} (h : w.ownsRow base e size v n xs) (c : Chg S w w') (hs : ∀ b, base ≤ b → ¬ S b) : w'.ownsRow base e size v n xs := by
  refine ⟨h.1, ?_⟩
  rcases h.2 with h0 | ⟨g, cap, cur, rfl, hb, hg, h1, h2, h3, h4⟩
  · exact .inl h0
  · exact .inr ⟨g, cap, cur, rfl, hb, by rw [c.block g (lt_of_block hg) (hs g hb)]; exact hg, h1, h2, h3, h4⟩

theorem Chg_after {S T : Nat → Prop} {a b c : World} (h : Chg S a b) (k : Chg T b c) (hs : ∀ i, i < a.heap.size → T i → S i) : Chg S a c :=
  ⟨k.os.trans h.os, k.tape.trans h.tape, k.output.trans h.output, Nat.le_trans h.size k.size, fun i hi hn => (k.block i (Nat.lt_of_lt_of_le hi h.size) (fun e => hn (hs i hi e))).trans (h.block i hi hn)⟩
def evCells (c : Ev) (vb : Value) : Array Value := #[.int .i64 c.k, .int .i64 c.s, .int .i64 c.who, .int .i64 c.port, .int .i64 c.conn, .int .i64 c.n, vb]

/-- Behind some names: the event so far, its bytes, where the reader stands. -/
structure LI (w3 wr : World) (E A base len : Nat) (x : Ev × Nat) (vb : Value) : Prop where
  cells : wr.heap[E]? = some (.cells (evCells x.1 vb) 34 (0, 0))
  own : wr.ownsRow base 5 1 vb x.1.b.length (x.1.b.map (Value.int .u8))
  all : U8Row wr vb
  at' : One wr A (.int .i64 (min x.2 len : Nat)) 3
  chg : Chg (fun b => b = A ∨ b = E) w3 wr

theorem LI.next {w3 wr w' : World} {E A base len : Nat} {x : Ev × Nat} {vb : Value} (h : LI w3 wr E A base len x vb) (q : Nat) (o : One w' A (.int .i64 (min q len : Nat)) 3) (c : Chg (· = A) wr w') (hE : E ≠ A) (hA : A < base) :
    LI w3 w' E A base len (x.1, q) vb :=
  ⟨by rw [c.block E (lt_of_block h.cells) hE]; exact h.cells, owns_kept h.own c (fun b hb e => by omega), h.all.kept h.own c (fun b hb e => by omega), o, h.chg.trans (c.weak (fun _ _ e => .inl e))⟩
theorem LI.set {w3 wr : World} {E A base len : Nat} {x : Ev × Nat} {vb : Value} (h : LI w3 wr E A base len x vb) (i : Nat) (u : Value) (c' : Ev) (hc : (evCells x.1 vb).setIfInBounds i u = evCells c' vb) (hb : c'.b = x.1.b) (hE : E ≠ A) (hEb : E < base) :
    LI w3 (wr.setCell ⟨E, i, none⟩ u) E A base len (c', x.2) vb :=
  ⟨by rw [← hc]; exact heap_set h.cells i u, by rw [hb]; exact owns_kept h.own ((Chg.refl (fun b => b = E) wr).setCell (p := ⟨E, i, none⟩) (.inl rfl) u) (fun b hb e => by omega),
   h.all.kept h.own ((Chg.refl (fun b => b = E) wr).setCell (p := ⟨E, i, none⟩) (.inl rfl) u) (fun b hb e => by omega),
   h.at'.kept (S := fun b => b = E) ((Chg.refl (fun b => b = E) wr).setCell (p := ⟨E, i, none⟩) (.inl rfl) u) (fun e => hE e.symm), h.chg.trans (((Chg.refl (fun b => b = A ∨ b = E) wr).setCell (p := ⟨E, i, none⟩) (.inl (.inr rfl)) u))⟩

theorem row_ne {w : World} {base : Nat} {e : TypeId} {size : Nat} {v : Value} {n : Nat} {xs : List Value} (h : w.ownsRow base e size v n xs) {b : Nat} (hb : b < base) : some b ≠ v.ownBlock := by
  rcases h.2 with ⟨rfl, _⟩ | ⟨g, cap, cur, rfl, hg, _⟩
  · intro e; cases e
  · intro e
    simp [Value.ownBlock] at e
    omega
/-- Behind an append onto the event's bytes: its cells are still there. -/
theorem LI.far {w3 w8 wa w9 : World} {E A base len : Nat} {x : Ev × Nat} {vb : Value} (h : LI w3 w8 E A base len x vb) (c : Chg (fun _ => False) w8 wa) (hgrow : wa.grownBy w9 vb.ownBlock) (hE : E < base) :
    w9.heap[E]? = some (.cells (evCells x.1 vb) 34 (0, 0)) := by
  have hlt := lt_of_block h.cells
  rw [hgrow.block E (Nat.lt_of_lt_of_le hlt c.size) (row_ne h.own hE), c.block E hlt (fun e => e)]
  exact h.cells
theorem LI.append {w3 w8 wa w9 : World} {E A base len : Nat} {x : Ev × Nat} {vb vb' : Value} {y : Int} (h : LI w3 w8 E A base len x vb) (c : Chg (fun _ => False) w8 wa) (hgrow : wa.grownBy w9 vb.ownBlock)
    (own' : w9.ownsRow base 5 1 vb' (x.1.b.length + 1) (x.1.b.map (Value.int .u8) ++ [.int .u8 y])) (all' : U8Row w9 vb') (hb : base = w3.heap.size) (hE : E < base) (hA : A < base) (hEA : E ≠ A) :
    LI w3 (w9.setCell ⟨E, 6, none⟩ vb') E A base len ({ x.1 with b := x.1.b ++ [y] }, x.2) vb' := by
  have hAlt := h.at'.lt
  have k9 : Chg (fun b => base ≤ b) w8 w9 := c.weak (fun _ _ e => e.elim) |>.trans ⟨hgrow.os, hgrow.tape, hgrow.output, hgrow.size, fun k hk hn => hgrow.block k hk (row_ne h.own (by omega))⟩
  have kE : Chg (fun b => b = E) w9 (w9.setCell ⟨E, 6, none⟩ vb') := (Chg.refl (fun b => b = E) w9).setCell (p := ⟨E, 6, none⟩) (.inl rfl) vb'
  refine ⟨?_, ?_, all'.kept own' kE (fun b hb' e => by omega), ?_, ?_⟩
  · have := heap_set (h.far c hgrow hE) 6 vb'
    exact this
  · refine owns_kept (S := fun b => b = E) ?_ kE (fun b hb' e => by omega)
    simpa using own'
  · exact (h.at'.kept k9 (by omega)).kept kE (fun e => hEA e.symm)
  · refine Chg_after (Chg_after h.chg k9 (fun i hi e => by omega)) kE (fun i hi e => .inr e)

/-- A name's bytes. -/
def nmB : Nm → ByteArray
  | .who => ⟨#[119, 104, 111]⟩ | .port => ⟨#[112, 111, 114, 116]⟩ | .conn => ⟨#[99, 111, 110, 110]⟩ | .n => ⟨#[110]⟩ | .sort => ⟨#[115, 111, 114, 116]⟩ | .b => ⟨#[98]⟩

/-- The names of each kind, as they lie behind block h. -/
theorem names_at (h : Nat) (k : Int) (hk : k = 1 ∨ k = 2 ∨ k = 3 ∨ k = 4 ∨ k = 5 ∨ k = 6 ∨ k = 7 ∨ k = 8 ∨ k = 9 ∨ k = 10) :
    ∃ i v, Instr.findNow (.int .i64) (.int .i64 k) (entries h).toList 0 = some (some (i, v)) ∧
      ((v = .slice none 0 0 ∧ nms k = []) ∨ ∃ j, j < 9 ∧ v = .slice (some ⟨h + (j + 1), 0, none⟩) (nms k).length (nms k).length ∧ names j = ((nms k).map fun y => Value.string (nmB y)).toArray) := by
  rcases hk with rfl | rfl | rfl | rfl | rfl | rfl | rfl | rfl | rfl | rfl
  · exact ⟨0, _, rfl, .inr ⟨0, by omega, rfl, rfl⟩⟩
  · exact ⟨2, _, rfl, .inr ⟨2, by omega, rfl, rfl⟩⟩
  · exact ⟨3, _, rfl, .inr ⟨3, by omega, rfl, rfl⟩⟩
  · exact ⟨4, _, rfl, .inr ⟨4, by omega, rfl, rfl⟩⟩
  · exact ⟨5, _, rfl, .inr ⟨5, by omega, rfl, rfl⟩⟩
  · exact ⟨6, _, rfl, .inr ⟨6, by omega, rfl, rfl⟩⟩
  · exact ⟨7, _, rfl, .inr ⟨7, by omega, rfl, rfl⟩⟩
  · exact ⟨1, _, rfl, .inr ⟨1, by omega, rfl, rfl⟩⟩
  · exact ⟨8, _, rfl, .inr ⟨8, by omega, rfl, rfl⟩⟩
  · exact ⟨9, _, rfl, .inl ⟨rfl, rfl⟩⟩

end Go.Proofs.Ythdobpfojdcagaa.Li
