/-
  An event's fields, one name behind the other, come to the event that stands there. No program in sight.
-/
import Derived.Test.YthdobpfojdcagaaEv
namespace Go.Proofs.Ythdobpfojdcagaa.Fold
open Go.Proofs.Ythdobpfojdcagaa.Ev

inductive Nm where | who | port | conn | n | sort | b
  deriving DecidableEq

/-- The names of a kind. -/
def nms (k : Int) : List Nm :=
  if k = 1 ∨ k = 8 then [.who, .port, .b] else if k = 2 then [.sort, .who] else if k = 3 then [.conn, .b] else if k = 4 then [.conn]
  else if k = 5 then [.conn, .n] else if k = 6 ∨ k = 7 then [.n] else if k = 9 then [.n, .b] else []
/-- One field read. -/
def step (bs : List Int) (x : Ev × Nat) : Nm → Ev × Nat
  | .who => ({ x.1 with who := num bs x.2 4 }, x.2 + 4)
  | .port => ({ x.1 with port := num bs x.2 2 }, x.2 + 2)
  | .conn => ({ x.1 with conn := num bs x.2 2 }, x.2 + 2)
  | .n => ({ x.1 with n := num bs x.2 2 }, x.2 + 2)
  | .sort => ({ x.1 with s := num bs x.2 1 % 4 }, x.2 + 1)
  | .b => ({ x.1 with b := run bs (x.2 + 2) (cnt bs x.2) }, x.2 + 2 + cnt bs x.2)
def zero (k : Int) : Ev := { k, s := 0, who := 0, port := 0, conn := 0, n := 0, b := [] }

theorem fold_ev (bs : List Int) (p : Nat) (hb : ∀ x ∈ bs, 0 ≤ x ∧ x ≤ 255) :
    (nms (num bs p 1 % 10 + 1)).foldl (step bs) (zero (num bs p 1 % 10 + 1), p + 1) = (evAt bs p, p + evLen bs p) := by
  have h0 := (num_bd hb p 1).1
  have hk : num bs p 1 % 10 + 1 = 1 ∨ num bs p 1 % 10 + 1 = 2 ∨ num bs p 1 % 10 + 1 = 3 ∨ num bs p 1 % 10 + 1 = 4 ∨ num bs p 1 % 10 + 1 = 5 ∨ num bs p 1 % 10 + 1 = 6 ∨ num bs p 1 % 10 + 1 = 7 ∨ num bs p 1 % 10 + 1 = 8 ∨ num bs p 1 % 10 + 1 = 9 ∨ num bs p 1 % 10 + 1 = 10 := by omega
  unfold evAt evLen
  generalize num bs p 1 % 10 + 1 = k at hk
  rcases hk with rfl | rfl | rfl | rfl | rfl | rfl | rfl | rfl | rfl | rfl <;> simp [nms, step, zero, Nat.add_assoc]

theorem bytes_keep (bs : List Int) (l : List Nm) (x : Ev × Nat) (h : ∀ m ∈ l, m ≠ .b) : (l.foldl (step bs) x).1.b = x.1.b := by
  induction l generalizing x with
  | nil => rfl
  | cons m l ih =>
    rw [List.foldl_cons, ih _ (fun m' hm => h m' (List.mem_cons_of_mem _ hm))]
    have := h m (List.mem_cons_self ..)
    cases m <;> first | rfl | (exact absurd rfl this)
/-- The bytes come last. -/
theorem bytes_last (bs : List Int) (k : Int) (y p : Nat) (hk : k = 1 ∨ k = 2 ∨ k = 3 ∨ k = 4 ∨ k = 5 ∨ k = 6 ∨ k = 7 ∨ k = 8 ∨ k = 9 ∨ k = 10) (hy : y < (nms k).length) (h : (nms k).getD y .n = .b) :
    (((nms k).take y).foldl (step bs) (zero k, p)).1.b = [] := by
  rw [bytes_keep]
  · rfl
  · rcases hk with rfl | rfl | rfl | rfl | rfl | rfl | rfl | rfl | rfl | rfl
    all_goals
      simp [nms] at hy h ⊢
      try (match y, hy with
        | 0, _ => simp_all
        | 1, _ => simp_all
        | 2, _ => simp_all)

end Go.Proofs.Ythdobpfojdcagaa.Fold
