/-
  The walks of the buckets' methods: what each answers, and what stands in the bucket behind it; nothing else that was there is written.
-/
import Derived.Test.YthjoflhjiaadhaaRef01
import Derived.StillTailTactics
import Derived.Deep.DeepFit
import Derived.Laws.StructEq
set_option linter.unusedVariables false
namespace Go.Proofs.Ythjoflhjiaadhaa.Bkt
open Go.RowKit Go.Proofs.Ythjoflhjiaadhaa.Num

/-- Block B is a bucket of five cells. -/
def Bk (w : World) (B : Nat) (r bu t a : Int) : Prop :=
  w.heap[B]? = some (.cells #[.bool true, .int .i64 r, .int .i64 bu, .int .i64 t, .int .i64 a] 50 (0, 0))
/-- The counts of a bucket. -/
structure Ok (r bu t a : Int) : Prop where
  r0 : 0 ≤ r
  r1 : r ≤ 9007199254740992
  b0 : 0 ≤ bu
  b1 : bu ≤ 9007199254740992
  t0 : 0 ≤ t
  tb : t ≤ bu
  a0 : 0 ≤ a
  a1 : a ≤ 1099511627776

def fillT (r bu t a now : Int) : Int := if now < a ∨ 1099511627776 < now then t else min (addI t (mulI r (subI now a))) bu
def fillA (a now : Int) : Int := if now < a ∨ 1099511627776 < now then a else now

theorem within_any (now : Int) (w : World) :
    Calls Try.prog 22 #[.int .i64 now] w fun e w' => e = .returned (.bool (decide (0 ≤ now) && decide (now ≤ 1099511627776))) ∧ w = w' := by
  by_cases h : 0 ≤ now
  · by_cases h2 : now ≤ 1099511627776
    · have e1 : decide (0 ≤ now) = true := decide_eq_true h
      have e2 : decide (now ≤ 1099511627776) = true := decide_eq_true h2
      rw [e1, e2]
      go_enter Try.func22, Try.ntmps22
      go_wp2
      go_ret
      exact ⟨rfl, rfl⟩
    · have e1 : decide (0 ≤ now) = true := decide_eq_true h
      have e2 : decide (now ≤ 1099511627776) = false := decide_eq_false h2
      rw [e1, e2]
      go_enter Try.func22, Try.ntmps22
      go_wp2
      go_ret
      exact ⟨rfl, rfl⟩
  · have e1 : decide (0 ≤ now) = false := decide_eq_false h
    rw [e1]
    go_enter Try.func22, Try.ntmps22
    go_wp2
    go_ret
    exact ⟨rfl, rfl⟩

theorem cells {w : World} {B : Nat} {r bu t a : Int} (h : Bk w B r bu t a) :
    w.cell? ⟨B, 0, none⟩ = some (.bool true) ∧ w.cell? ⟨B, 1, none⟩ = some (.int .i64 r) ∧ w.cell? ⟨B, 2, none⟩ = some (.int .i64 bu) ∧ w.cell? ⟨B, 3, none⟩ = some (.int .i64 t) ∧ w.cell? ⟨B, 4, none⟩ = some (.int .i64 a) ∧
    w.frozen? ⟨B, 3, none⟩ = false ∧ w.frozen? ⟨B, 4, none⟩ = false :=
  ⟨cell_of_row w B 0 _ _ _ h, cell_of_row w B 1 _ _ _ h, cell_of_row w B 2 _ _ _ h, cell_of_row w B 3 _ _ _ h, cell_of_row w B 4 _ _ _ h, frozen_of_row w B 3 _ _ h, frozen_of_row w B 4 _ _ h⟩

set_option maxHeartbeats 1000000 in
theorem fill_stay (B : Nat) (r bu t a now : Int) (w : World) (hb : Bk w B r bu t a) (ok : Ok r bu t a) (h : now < a ∨ 1099511627776 < now) :
    Calls Try.prog 24 #[.pointer (some ⟨B, 0, none⟩), .int .i64 now] w fun e w' => e = .returned (.tuple #[]) ∧ w = w' := by
  obtain ⟨c0, c1, c2, c3, c4, f3, f4⟩ := cells hb
  have a0 := ok.a0; have a1 := ok.a1
  by_cases h1 : now < a
  · clear h hb ok
    go_enter Try.func24, Try.ntmps24
    go_wp2
    exact bodyPost_ret (results_none rfl _ _ _) rfl ⟨rfl, rfl⟩
  · have e1 : decide (0 ≤ now) = true := decide_eq_true (by omega)
    have e2 : decide (now ≤ 1099511627776) = false := decide_eq_false (by omega)
    clear h hb ok
    go_enter Try.func24, Try.ntmps24
    go_wp2_with (go_at_call 22; refine (within_any _ _).mono ?_; rintro e w' ⟨rfl, rfl⟩; rw [e1, e2])
    exact bodyPost_ret (results_none rfl _ _ _) rfl ⟨rfl, rfl⟩

set_option maxHeartbeats 1000000 in
theorem fill_go (B : Nat) (r bu t a now : Int) (w : World) (hb : Bk w B r bu t a) (ok : Ok r bu t a) (h1 : a ≤ now) (h2 : now ≤ 1099511627776) :
    Calls Try.prog 24 #[.pointer (some ⟨B, 0, none⟩), .int .i64 now] w fun e w' => e = .returned (.tuple #[]) ∧ ∃ n v, v = fillT r bu t a now ∧ w' = ((w.drewN n).setCell ⟨B, 3, none⟩ (.int .i64 v)).setCell ⟨B, 4, none⟩ (.int .i64 now) := by
  obtain ⟨c0, c1, c2, c3, c4, f3, f4⟩ := cells hb
  have a0 := ok.a0; have a1 := ok.a1
  have e1 : decide (0 ≤ now) = true := decide_eq_true (by omega)
  have e2 : decide (now ≤ 1099511627776) = true := decide_eq_true (by omega)
  clear hb ok
  go_enter Try.func24, Try.ntmps24
  go_wp2_with (go_at_call 22; refine (within_any _ _).mono ?_; rintro e w' ⟨rfl, rfl⟩; rw [e1, e2])
  go_quiet (first | (go_at_call 30; exact Calls.quiet_of_same ((Sat.sub_any _ _ _).mono fun _ _ h => ⟨h.1, h.2.symm⟩)) | (go_at_call 29; exact Calls.quiet_of (Sat.mul_any _ _ _)))
  go_wp2_with fail
  refine wp_region_still_tail 17 (by kernel_rfl) (by kernel_rfl) ?_
  simp only [List.take_succ_cons, List.take_zero, List.drop_succ_cons, List.drop_zero]
  change wpStill _ _ (w.drewN (nq + 1)) _ _ _
  obtain ⟨W, hW⟩ : ∃ W, W = w.drewN (nq + 1) := ⟨_, rfl⟩
  rw [← hW]
  have d2 : W.cell? ⟨B, 2, none⟩ = some (.int .i64 bu) := by rw [hW]; exact c2
  have d3 : W.cell? ⟨B, 3, none⟩ = some (.int .i64 t) := by rw [hW]; exact c3
  have d4 : W.cell? ⟨B, 4, none⟩ = some (.int .i64 a) := by rw [hW]; exact c4
  have g3 : W.frozen? ⟨B, 3, none⟩ = false := by rw [hW]; exact f3
  have g4 : W.frozen? ⟨B, 4, none⟩ = false := by rw [hW]; exact f4
  have HW := Lib.hid hW
  clear hW c0 c1 c2 c3 c4 f3 f4
  repeat still_step
  still_call ((Sat.add_any _ _ _).mono fun _ _ h => ⟨h.1, h.2.symm⟩)
  repeat still_step
  refine wpStill_nil ?_
  change wpList _ _ _ _ _ (w.drewN (nq + 1))
  rw [← HW.out]
  go_wp2
  go_end0
  exact ⟨rfl, nq + 1, _, by unfold fillT; rw [if_neg (by omega)], by rw [← HW.out]⟩

/-! ### What a call leaves: the bucket's cells, and nothing else that was there is written -/
def Post (w w' : World) (B : Nat) (r bu t a : Int) : Prop := Bk w' B r bu t a ∧ w.grownBy w' (some B)

theorem heap_set {w : World} {b : Nat} {C : Array Value} {T : TypeId} (h : w.heap[b]? = some (.cells C T (0, 0))) (i : Nat) (u : Value) :
    (w.setCell ⟨b, i, none⟩ u).heap[b]? = some (.cells (C.setIfInBounds i u) T (0, 0)) := by
  have hlt := lt_of_block h
  have h' : w.heap[b] = .cells C T (0, 0) := by simpa [Array.getElem?_eq_getElem hlt] using h
  show (w.heap.modify b _)[b]? = _
  rw [Array.getElem?_eq_getElem (by simpa using hlt), Array.getElem_modify_self, h']
  rfl
theorem grown_set {w w' : World} {b : Nat} (h : w.grownBy w' (some b)) (i : Nat) (u : Value) : w.grownBy (w'.setCell ⟨b, i, none⟩ u) (some b) :=
  ⟨h.os, h.tape, h.output, by rw [World.size_setCell]; exact h.size, fun k hk hne => by
    rw [Below.heap_setCell _ _ _ _ (fun e => hne (by rw [e])), h.block k hk hne]⟩
theorem grown_drewN (w : World) (n : Nat) (row : Option Nat) : w.grownBy (w.drewN n) row := ⟨rfl, rfl, rfl, Nat.le_refl _, fun _ _ _ => rfl⟩
theorem Post.refl {w : World} {B : Nat} {r bu t a : Int} (h : Bk w B r bu t a) : Post w w B r bu t a := ⟨h, World.grownBy.refl _ _⟩
theorem Post.trans {w w1 w2 : World} {B : Nat} {r bu t a r' bu' t' a' : Int} (h : Post w w1 B r bu t a) (k : Post w1 w2 B r' bu' t' a') : Post w w2 B r' bu' t' a' := ⟨k.1, h.2.trans k.2⟩
theorem Post.drewN {w w1 : World} {B : Nat} {r bu t a : Int} (h : Post w w1 B r bu t a) (n : Nat) : Post w (w1.drewN n) B r bu t a := ⟨h.1, ⟨h.2.os, h.2.tape, h.2.output, h.2.size, h.2.block⟩⟩
theorem Post.token {w w1 : World} {B : Nat} {r bu t a : Int} (h : Post w w1 B r bu t a) (u : Int) : Post w (w1.setCell ⟨B, 3, none⟩ (.int .i64 u)) B r bu u a :=
  ⟨heap_set h.1 3 _, grown_set h.2 3 _⟩

theorem Ok.fill {r bu t a : Int} (h : Ok r bu t a) (now : Int) : Ok r bu (fillT r bu t a now) (fillA a now) := by
  unfold fillT fillA
  have h1 := h.t0; have h2 := h.tb; have h3 := h.a0; have h4 := h.b0
  have h5 : 0 ≤ addI t (mulI r (subI now a)) := (cutI_bd _).1
  split
  · exact h
  · exact ⟨h.r0, h.r1, h.b0, h.b1, by omega, by omega, by omega, by omega⟩

theorem fill_any (B : Nat) (r bu t a now : Int) (w : World) (hb : Bk w B r bu t a) (ok : Ok r bu t a) :
    Calls Try.prog 24 #[.pointer (some ⟨B, 0, none⟩), .int .i64 now] w fun e w' => e = .returned (.tuple #[]) ∧ Post w w' B r bu (fillT r bu t a now) (fillA a now) := by
  by_cases h : now < a ∨ 1099511627776 < now
  · refine (fill_stay B r bu t a now w hb ok h).mono ?_
    rintro e w' ⟨rfl, rfl⟩
    refine ⟨rfl, ?_⟩
    unfold fillT fillA
    rw [if_pos h, if_pos h]
    exact Post.refl hb
  · refine (fill_go B r bu t a now w hb ok (by omega) (by omega)).mono ?_
    rintro e w' ⟨rfl, n, v, rfl, rfl⟩
    refine ⟨rfl, ?_⟩
    have e : fillA a now = now := by unfold fillA; rw [if_neg h]
    rw [e]
    have h1 : Bk (w.drewN n) B r bu t a := hb
    exact ⟨heap_set (heap_set h1 3 _) 4 _, grown_set (grown_set (grown_drewN w n _) 3 _) 4 _⟩

theorem none_made (B : Nat) (w : World) (h : w.cell? ⟨B, 0, none⟩ = some (.bool true)) :
    Calls Try.prog 23 #[.pointer (some ⟨B, 0, none⟩)] w fun e w' => e = .returned (.bool false) ∧ w = w' := by
  go_enter Try.func23, Try.ntmps23
  go_wp2
  go_ret
  exact ⟨rfl, rfl⟩
theorem none_nil (w : World) :
    Calls Try.prog 23 #[.pointer none] w fun e w' => e = .returned (.bool true) ∧ w = w' := by
  go_enter Try.func23, Try.ntmps23
  go_wp2
  go_ret
  exact ⟨rfl, rfl⟩
theorem none_unmade (B : Nat) (w : World) (h : w.cell? ⟨B, 0, none⟩ = some (.bool false)) :
    Calls Try.prog 23 #[.pointer (some ⟨B, 0, none⟩)] w fun e w' => e = .returned (.bool true) ∧ w = w' := by
  go_enter Try.func23, Try.ntmps23
  go_wp2
  go_ret
  exact ⟨rfl, rfl⟩

/-! ### Take, Tokens, Full, When -/
def takeB (r bu t a n now : Int) : Bool := decide (0 ≤ n) && decide (n ≤ fillT r bu t a now)
def takeT (r bu t a n now : Int) : Int := if n < 0 then t else if fillT r bu t a now < n then fillT r bu t a now else fillT r bu t a now - n
def takeA (a n now : Int) : Int := if n < 0 then a else fillA a now

theorem Ok.take {r bu t a : Int} (h : Ok r bu t a) (n now : Int) : Ok r bu (takeT r bu t a n now) (takeA a n now) := by
  unfold takeT takeA
  have k := h.fill now
  have h1 := k.t0; have h2 := k.tb
  split
  · exact h
  · split
    · exact k
    · exact ⟨k.r0, k.r1, k.b0, k.b1, by omega, by omega, k.a0, k.a1⟩

set_option maxHeartbeats 1000000 in
theorem take_any (B : Nat) (r bu t a n now : Int) (w : World) (hb : Bk w B r bu t a) (ok : Ok r bu t a) :
    Calls Try.prog 10 #[.pointer (some ⟨B, 0, none⟩), .int .i64 n, .int .i64 now] w fun e w' => e = .returned (.bool (takeB r bu t a n now)) ∧ Post w w' B r bu (takeT r bu t a n now) (takeA a n now) := by
  have c0 := (cells hb).1
  by_cases hn : n < 0
  · have e1 : takeB r bu t a n now = false := by unfold takeB; rw [decide_eq_false (by omega)]; rfl
    have e2 : takeT r bu t a n now = t := by unfold takeT; rw [if_pos hn]
    have e3 : takeA a n now = a := by unfold takeA; rw [if_pos hn]
    rw [e1, e2, e3]
    have HB := Lib.hid hb
    clear hb e1 e2 e3
    go_enter Try.func10, Try.ntmps10
    go_wp2_with (go_at_call 23; refine (none_made _ _ c0).mono ?_; rintro e w' ⟨rfl, rfl⟩)
    go_ret
    exact ⟨rfl, Post.refl HB.out⟩
  · have okf := ok.fill now
    obtain ⟨T, hT⟩ : ∃ T, T = fillT r bu t a now := ⟨_, rfl⟩
    obtain ⟨A, hA⟩ : ∃ A, A = fillA a now := ⟨_, rfl⟩
    have T0 := okf.t0; have T1 := okf.tb; have T2 := ok.b1
    have n0 : 0 ≤ n := by omega
    rw [← hT] at T0 T1
    have HB := Lib.hid hb; have OK := Lib.hid ok; have HT := Lib.hid hT; have HA := Lib.hid hA
    by_cases ht : T < n
    · have e1 : takeB r bu t a n now = false := by unfold takeB; rw [← hT, decide_eq_false (show ¬ n ≤ T by omega)]; simp
      have e2 : takeT r bu t a n now = T := by unfold takeT; rw [if_neg hn, ← hT, if_pos ht]
      have e3 : takeA a n now = A := by unfold takeA; rw [if_neg hn, ← hA]
      rw [e1, e2, e3]
      clear hb ok okf hT hA e1 e2 e3 hn
      go_enter Try.func10, Try.ntmps10
      go_wp2_with (first
        | (go_at_call 23; refine (none_made _ _ c0).mono ?_; rintro e w' ⟨rfl, rfl⟩)
        | (go_at_call 24; refine (fill_any B r bu t a now _ HB.out OK.out).mono ?_; rintro e w1 ⟨rfl, hp⟩; rw [← HT.out, ← HA.out] at hp; have c3 := (cells hp.1).2.2.2.1; have HP := Lib.hid hp; clear hp))
      go_ret
      exact ⟨rfl, Hid.out (by assumption)⟩
    · have e1 : takeB r bu t a n now = true := by unfold takeB; rw [← hT, decide_eq_true (show 0 ≤ n by omega), decide_eq_true (show n ≤ T by omega)]; rfl
      have e2 : takeT r bu t a n now = T - n := by unfold takeT; rw [if_neg hn, ← hT, if_neg ht]
      have e3 : takeA a n now = A := by unfold takeA; rw [if_neg hn, ← hA]
      have ht' : n ≤ T := by omega
      rw [e1, e2, e3]
      clear hb ok okf hT hA e1 e2 e3 hn ht
      go_enter Try.func10, Try.ntmps10
      go_wp2_with (first
        | (go_at_call 23; refine (none_made _ _ c0).mono ?_; rintro e w' ⟨rfl, rfl⟩)
        | (go_at_call 24; refine (fill_any B r bu t a now _ HB.out OK.out).mono ?_; rintro e w1 ⟨rfl, hp⟩; rw [← HT.out, ← HA.out] at hp; obtain ⟨_, _, _, c3, _, f3, _⟩ := cells hp.1; have HP := Lib.hid hp; clear hp))
      go_ret
      exact ⟨rfl, (Hid.out ‹Hid (Post w _ B r bu T A)›).token _⟩

set_option maxHeartbeats 1000000 in
theorem tokens_any (B : Nat) (r bu t a now : Int) (w : World) (hb : Bk w B r bu t a) (ok : Ok r bu t a) :
    Calls Try.prog 14 #[.pointer (some ⟨B, 0, none⟩), .int .i64 now] w fun e w' => e = .returned (.int .i64 (fillT r bu t a now)) ∧ Post w w' B r bu (fillT r bu t a now) (fillA a now) := by
  have c0 := (cells hb).1
  have HB := Lib.hid hb; have OK := Lib.hid ok
  clear hb ok
  go_enter Try.func14, Try.ntmps14
  go_wp2_with (first
    | (go_at_call 23; refine (none_made _ _ c0).mono ?_; rintro e w' ⟨rfl, rfl⟩)
    | (go_at_call 24; refine (fill_any B r bu t a now _ HB.out OK.out).mono ?_; rintro e w1 ⟨rfl, hp⟩; have c3 := (cells hp.1).2.2.2.1; have HP := Lib.hid hp; clear hp))
  go_ret
  exact ⟨rfl, Hid.out (by assumption)⟩

/-! ### Two states of a bucket, compared -/
theorem state_fields : (Try.prog.fieldsOf 48).toList.map (fun f => (f.name == "_", f.type, f.offset)) = [(false, 3, 0), (false, 3, 1)] := by kernel_rfl
theorem part0 (x y : Value) (w : World) : (part 3 #[x, y] 0).run Try.prog w = .ok x w := by kernel_rfl
theorem part1 (x y : Value) (w : World) : (part 3 #[x, y] 1).run Try.prog w = .ok y w := by kernel_rfl
theorem eq_two {l : List Field} (h : l.map (fun f => (f.name == "_", f.type, f.offset)) = [(false, 3, 0), (false, 3, 1)]) (x y x' y' : Int) (w : World) :
    (Op.eqFields 9999 #[.int .i64 x, .int .i64 y] #[.int .i64 x', .int .i64 y'] l).run Try.prog w = .ok ((x == x') && (y == y')) w := by
  obtain ⟨f, l1, rfl⟩ : ∃ f l1, l = f :: l1 := by cases l with | nil => simp at h | cons a b => exact ⟨a, b, rfl⟩
  obtain ⟨g, l2, rfl⟩ : ∃ g l2, l1 = g :: l2 := by cases l1 with | nil => simp at h | cons a b => exact ⟨a, b, rfl⟩
  obtain rfl : l2 = [] := by cases l2 with | nil => rfl | cons a b => simp at h
  simp only [List.map_cons, List.map_nil, List.cons.injEq, Prod.mk.injEq, and_true] at h
  obtain ⟨⟨hf, hft, hfo⟩, hg, hgt, hgo⟩ := h
  have hf' : f.name ≠ "_" := by simpa using hf
  have hg' : g.name ≠ "_" := by simpa using hg
  have e1 := fun a b w => run_equalIn_int (P := Try.prog) w 9998 3 .i64 .i64 a b Try.underlying3
  simp only [Op.eqFields, if_pos hf', if_pos hg', hft, hfo, hgt, hgo, Sem.run_bind, part0, part1, Result.andThen_ok, e1, Sem.run_ite, Sem.run_pure]
  by_cases e : x = x'
  · subst e
    by_cases e2 : y = y'
    · simp [e2]
    · have : (y == y') = false := by simpa using e2
      simp [this]
  · have : (x == x') = false := by simpa using e
    simp [this]
theorem eq_state (x y x' y' : Int) (w : World) : (binOp .eql 48 (.agg #[.int .i64 x, .int .i64 y]) (.agg #[.int .i64 x', .int .i64 y'])).run Try.prog w = .ok (.bool ((x == x') && (y == y'))) w := by
  rw [run_eql_struct, run_equalIn_struct (P := Try.prog) w 9999 48 #[.int .i64 x, .int .i64 y] #[.int .i64 x', .int .i64 y'] (by kernel_rfl) (by kernel_rfl), eq_two state_fields]
  rfl

set_option maxHeartbeats 1000000 in
theorem full_any (B : Nat) (r bu t a now : Int) (w : World) (hb : Bk w B r bu t a) (ok : Ok r bu t a) :
    Calls Try.prog 13 #[.pointer (some ⟨B, 0, none⟩), .int .i64 now] w fun e w' => e = .returned (.bool (fillT r bu t a now == bu)) ∧ Post w w' B r bu (fillT r bu t a now) (fillA a now) := by
  have c0 := (cells hb).1
  have HB := Lib.hid hb; have OK := Lib.hid ok
  have hst := eq_state
  clear hb ok
  go_enter Try.func13, Try.ntmps13
  go_wp2_with (first
    | (go_at_call 23; refine (none_made _ _ c0).mono ?_; rintro e w' ⟨rfl, rfl⟩)
    | (go_at_call 24; refine (fill_any B r bu t a now _ HB.out OK.out).mono ?_; rintro e w1 ⟨rfl, hp⟩; obtain ⟨_, _, c2, c3, c4, _, _⟩ := cells hp.1; have HP := Lib.hid hp; clear hp))
  go_quiet (fail)
  go_wp2
  go_ret
  exact ⟨by simp, (Hid.out ‹Hid (Post w _ B r bu _ _)›).drewN _⟩

/-- When, of a bucket that has t tokens. -/
def whenV (r bu t n : Int) : Int :=
  if n ≤ t then 0 else if bu < n ∨ r = 0 then -1 else
    if 1099511627776 < (n - t) / r + (if (n - t) % r = 0 then 0 else 1) then -1 else (n - t) / r + (if (n - t) % r = 0 then 0 else 1)

set_option maxHeartbeats 2000000 in
theorem when_any (B : Nat) (r bu t a n now : Int) (w : World) (hb : Bk w B r bu t a) (ok : Ok r bu t a) :
    Calls Try.prog 15 #[.pointer (some ⟨B, 0, none⟩), .int .i64 n, .int .i64 now] w fun e w' => e = .returned (.int .i64 (whenV r bu (fillT r bu t a now) n)) ∧ Post w w' B r bu (fillT r bu t a now) (fillA a now) := by
  have c0 := (cells hb).1
  have okf := ok.fill now
  obtain ⟨T, hT⟩ : ∃ T, T = fillT r bu t a now := ⟨_, rfl⟩
  obtain ⟨A, hA⟩ : ∃ A, A = fillA a now := ⟨_, rfl⟩
  have T0 := okf.t0; have T1 := okf.tb; have T2 := ok.b1; have r0 := ok.r0; have r1 := ok.r1
  rw [← hT] at T0 T1
  rw [← hT, ← hA]
  have HB := Lib.hid hb; have OK := Lib.hid ok; have HT := Lib.hid hT; have HA := Lib.hid hA
  clear hb ok okf hT hA
  by_cases h1 : n ≤ T
  · have hv : whenV r bu T n = 0 := by unfold whenV; rw [if_pos h1]
    rw [hv]
    clear hv
    go_enter Try.func15, Try.ntmps15
    go_wp2_with (first
      | (go_at_call 23; refine (none_made _ _ c0).mono ?_; rintro e w' ⟨rfl, rfl⟩)
      | (go_at_call 24; refine (fill_any B r bu t a now _ HB.out OK.out).mono ?_; rintro e w1 ⟨rfl, hp⟩; rw [← HT.out, ← HA.out] at hp; obtain ⟨_, d1, d2, d3, _, _, _⟩ := cells hp.1; have HP := Lib.hid hp; clear hp))
    go_ret
    exact ⟨rfl, Hid.out (by assumption)⟩
  · by_cases h2 : bu < n ∨ r = 0
    · have hv : whenV r bu T n = -1 := by unfold whenV; rw [if_neg h1, if_pos h2]
      rw [hv]
      have h3 : bu < n ∨ (n ≤ bu ∧ (r == 0) = true) := by
        rcases h2 with h | h
        · exact .inl h
        · by_cases hh : bu < n
          · exact .inl hh
          · exact .inr ⟨by omega, by rw [beq_iff_eq]; exact h⟩
      clear hv h2
      have h1' : T < n := by omega
      rcases h3 with h3 | ⟨h3, h4⟩
      all_goals
        go_enter Try.func15, Try.ntmps15
        go_wp2_with (first
          | (go_at_call 23; refine (none_made _ _ c0).mono ?_; rintro e w' ⟨rfl, rfl⟩)
          | (go_at_call 24; refine (fill_any B r bu t a now _ HB.out OK.out).mono ?_; rintro e w1 ⟨rfl, hp⟩; rw [← HT.out, ← HA.out] at hp; obtain ⟨_, d1, d2, d3, _, _, _⟩ := cells hp.1; have HP := Lib.hid hp; clear hp))
        go_ret
        exact ⟨rfl, Hid.out (by assumption)⟩
    · have hr : (r == 0) = false := by rw [beq_eq_false_iff_ne]; omega
      have hr1 : 1 ≤ r := by omega
      have h3 : n ≤ bu := by omega
      have h1' : T < n := by omega
      have q0 := Int.ediv_nonneg (show 0 ≤ n - T by omega) (show 0 ≤ r by omega)
      have q1 := Int.ediv_le_self r (show 0 ≤ n - T by omega)
      obtain ⟨q, hq⟩ : ∃ q, (n - T) / r = q := ⟨_, rfl⟩
      obtain ⟨m, hm⟩ : ∃ m, (n - T) % r = m := ⟨_, rfl⟩
      have hv : whenV r bu T n = if 1099511627776 < q + (if m = 0 then 0 else 1) then -1 else q + (if m = 0 then 0 else 1) := by
        unfold whenV; rw [if_neg h1, if_neg h2, hq, hm]
      rw [hq] at q0 q1
      have HV := Lib.hid hv
      clear hv h2 h1
      by_cases hm0 : m = 0
      · have em : (m == 0) = true := by rw [beq_iff_eq]; exact hm0
        have em' : (m != 0) = false := by rw [hm0]; rfl
        have Hm0 := Lib.hid hm0
        clear hm0
        by_cases hd : 1099511627776 < q
        all_goals
          go_enter Try.func15, Try.ntmps15
          go_wp2_with (first
            | (go_at_call 23; refine (none_made _ _ c0).mono ?_; rintro e w' ⟨rfl, rfl⟩)
            | (go_at_call 24; refine (fill_any B r bu t a now _ HB.out OK.out).mono ?_; rintro e w1 ⟨rfl, hp⟩; rw [← HT.out, ← HA.out] at hp; obtain ⟨_, d1, d2, d3, _, _, _⟩ := cells hp.1; have HP := Lib.hid hp; clear hp))
          go_ret
          exact ⟨Sat.ret_i64 (by rw [HV.out, if_pos Hm0.out, Int.add_zero]; split <;> omega), Hid.out (by assumption)⟩
      · have em : (m == 0) = false := by rw [beq_eq_false_iff_ne]; exact hm0
        have em' : (m != 0) = true := by rw [bne_iff_ne]; exact hm0
        have Hm0 := Lib.hid hm0
        clear hm0
        by_cases hd : 1099511627776 < q + 1
        all_goals
          go_enter Try.func15, Try.ntmps15
          go_wp2_with (first
            | (go_at_call 23; refine (none_made _ _ c0).mono ?_; rintro e w' ⟨rfl, rfl⟩)
            | (go_at_call 24; refine (fill_any B r bu t a now _ HB.out OK.out).mono ?_; rintro e w1 ⟨rfl, hp⟩; rw [← HT.out, ← HA.out] at hp; obtain ⟨_, d1, d2, d3, _, _, _⟩ := cells hp.1; have HP := Lib.hid hp; clear hp))
          go_ret
          exact ⟨Sat.ret_i64 (by rw [HV.out, if_neg Hm0.out]; split <;> omega), Hid.out (by assumption)⟩

/-! ### New -/
set_option maxHeartbeats 1000000 in
theorem new_bad (rate burst now : Int) (w : World) (h : ¬ (0 ≤ rate ∧ rate ≤ 9007199254740992 ∧ 0 ≤ burst ∧ burst ≤ 9007199254740992 ∧ 0 ≤ now ∧ now ≤ 1099511627776)) :
    Calls Try.prog 9 #[.int .i64 rate, .int .i64 burst, .int .i64 now] w fun e w' => e = .returned (.tuple #[.pointer none, .int .i64 2]) ∧ w = w' := by
  by_cases h1 : cutI rate = rate
  · by_cases h2 : cutI burst = burst
    · have e1 : (cutI rate != rate) = false := by rw [h1]; simp
      have e2 : (cutI burst != burst) = false := by rw [h2]; simp
      have e3 : (decide (0 ≤ now) && decide (now ≤ 1099511627776)) = false := by
        have := cutI_bd rate; have := cutI_bd burst
        rw [Bool.and_eq_false_iff, decide_eq_false_iff_not, decide_eq_false_iff_not]; omega
      clear h h1 h2
      go_enter Try.func9, Try.ntmps9
      go_wp2_with (first
        | (go_at_call 21; refine (Sat.cut_any _ _).mono ?_; rintro e w' ⟨rfl, rfl⟩)
        | (go_at_call 22; refine (within_any _ _).mono ?_; rintro e w' ⟨rfl, rfl⟩; rw [e3]))
      go_ret2
      exact ⟨rfl, rfl⟩
    · have e1 : (cutI rate != rate) = false := by rw [h1]; simp
      have e2 : (cutI burst != burst) = true := by rw [bne_iff_ne]; exact h2
      clear h h1 h2
      go_enter Try.func9, Try.ntmps9
      go_wp2_with (go_at_call 21; refine (Sat.cut_any _ _).mono ?_; rintro e w' ⟨rfl, rfl⟩)
      go_ret2
      exact ⟨rfl, rfl⟩
  · have e1 : (cutI rate != rate) = true := by rw [bne_iff_ne]; exact h1
    clear h h1
    go_enter Try.func9, Try.ntmps9
    go_wp2_with (go_at_call 21; refine (Sat.cut_any _ _).mono ?_; rintro e w' ⟨rfl, rfl⟩)
    go_ret2
    exact ⟨rfl, rfl⟩

set_option maxHeartbeats 1000000 in
theorem new_good (rate burst now : Int) (w : World) (r0 : 0 ≤ rate) (r1 : rate ≤ 9007199254740992) (b0 : 0 ≤ burst) (b1 : burst ≤ 9007199254740992) (n0 : 0 ≤ now) (n1 : now ≤ 1099511627776) :
    Calls Try.prog 9 #[.int .i64 rate, .int .i64 burst, .int .i64 now] w fun e w' =>
      e = .returned (.tuple #[.pointer (some ⟨w.heap.size, 0, none⟩), .int .i64 0]) ∧ w' = w.alloc (.cells #[.bool true, .int .i64 rate, .int .i64 burst, .int .i64 burst, .int .i64 now] 50) := by
  have e1 : cutI rate = rate := cutI_id r0 r1
  have e2 : cutI burst = burst := cutI_id b0 b1
  have e3 : (decide (0 ≤ now) && decide (now ≤ 1099511627776)) = true := by rw [decide_eq_true n0, decide_eq_true n1]; rfl
  go_enter Try.func9, Try.ntmps9
  go_wp2_with (first
    | (go_at_call 21; refine (Sat.cut_any _ _).mono ?_; rintro e w' ⟨rfl, rfl⟩; first | rw [e1] | rw [e2])
    | (go_at_call 22; refine (within_any _ _).mono ?_; rintro e w' ⟨rfl, rfl⟩; rw [e3]))
  go_ret2
  exact ⟨rfl, rfl⟩

theorem new_bk (rate burst now : Int) (w : World) : Bk (w.alloc (.cells #[.bool true, .int .i64 rate, .int .i64 burst, .int .i64 burst, .int .i64 now] 50)) w.heap.size rate burst burst now := heap_alloc_new w _
theorem new_ok {rate burst now : Int} (r0 : 0 ≤ rate) (r1 : rate ≤ 9007199254740992) (b0 : 0 ≤ burst) (b1 : burst ≤ 9007199254740992) (n0 : 0 ≤ now) (n1 : now ≤ 1099511627776) : Ok rate burst burst now := ⟨r0, r1, b0, b1, b0, Int.le_refl _, n0, n1⟩

end Go.Proofs.Ythjoflhjiaadhaa.Bkt
