/-
  What is read of an event's own bytes is that event; events behind events; events of bytes that are cut. No program in sight.
-/
import Derived.Test.YthdobpfojdcagaaBytes0
namespace Go.Proofs.Ythdobpfojdcagaa.Plain
open Go.Proofs.Ythdobpfojdcagaa.Ev Go.Proofs.Ythdobpfojdcagaa.Fold Go.Proofs.Ythdobpfojdcagaa.Lay0 Go.Proofs.Ythdobpfojdcagaa.Bytes0

theorem byte_app (xs ys : List Int) (i : Nat) : byte (xs ++ ys) (xs.length + i) = byte ys i := by
  unfold byte
  rw [List.getD_eq_getElem?_getD, List.getD_eq_getElem?_getD, List.getElem?_append_right (by omega), Nat.add_sub_cancel_left]
theorem byte_pre (xs ys : List Int) (i : Nat) (h : i < xs.length) : byte (xs ++ ys) i = byte xs i := by
  unfold byte
  rw [List.getD_eq_getElem?_getD, List.getD_eq_getElem?_getD, List.getElem?_append_left h]
theorem num_app (xs ys : List Int) (p z : Nat) : num (xs ++ ys) (xs.length + p) z = num ys p z := by
  induction z with
  | zero => rfl
  | succ z ih => unfold num; rw [ih, Nat.add_assoc, byte_app]
theorem num_pre (xs ys : List Int) (p z : Nat) (h : p + z ≤ xs.length) : num (xs ++ ys) p z = num xs p z := by
  induction z with
  | zero => rfl
  | succ z ih => unfold num; rw [ih (by omega), byte_pre _ _ _ (by omega)]
theorem cnt_app (xs ys : List Int) (p : Nat) : cnt (xs ++ ys) (xs.length + p) = cnt ys p := by unfold cnt; rw [num_app]
theorem cnt_pre (xs ys : List Int) (p : Nat) (h : p + 2 ≤ xs.length) : cnt (xs ++ ys) p = cnt xs p := by unfold cnt; rw [num_pre _ _ _ _ h]
theorem run_app (xs ys : List Int) (p n : Nat) : run (xs ++ ys) (xs.length + p) n = run ys p n := by
  unfold run; congr 1; funext i; rw [Nat.add_assoc, byte_app]
theorem run_pre (xs ys : List Int) (p n : Nat) (h : p + n ≤ xs.length) : run (xs ++ ys) p n = run xs p n := by
  unfold run
  apply List.map_congr_left
  intro i hi
  rw [List.mem_range] at hi
  exact byte_pre _ _ _ (by omega)
theorem evAt_app (xs ys : List Int) (p : Nat) : evAt (xs ++ ys) (xs.length + p) = evAt ys p := by
  unfold evAt
  simp only [Nat.add_assoc, num_app, cnt_app, run_app]
theorem evLen_app (xs ys : List Int) (p : Nat) : evLen (xs ++ ys) (xs.length + p) = evLen ys p := by
  unfold evLen
  simp only [Nat.add_assoc, num_app, cnt_app]
theorem kind_cases {bs : List Int} (h : ∀ x ∈ bs, 0 ≤ x ∧ x ≤ 255) (p : Nat) : num bs p 1 % 10 + 1 = 1 ∨ num bs p 1 % 10 + 1 = 2 ∨ num bs p 1 % 10 + 1 = 3 ∨ num bs p 1 % 10 + 1 = 4 ∨ num bs p 1 % 10 + 1 = 5 ∨ num bs p 1 % 10 + 1 = 6 ∨ num bs p 1 % 10 + 1 = 7 ∨ num bs p 1 % 10 + 1 = 8 ∨ num bs p 1 % 10 + 1 = 9 ∨ num bs p 1 % 10 + 1 = 10 := by
  have h0 := (num_bd h p 1).1
  omega
/-- An event that lies whole in the first part. -/
theorem evAt_pre {xs ys : List Int} (hx : ∀ x ∈ xs, 0 ≤ x ∧ x ≤ 255) (p : Nat) (h : p + evLen xs p ≤ xs.length) : evAt (xs ++ ys) p = evAt xs p ∧ evLen (xs ++ ys) p = evLen xs p := by
  have hk := kind_cases hx p
  have h1 : p + 1 ≤ xs.length := by
    unfold evLen at h
    simp only at h
    rcases hk with h' | h' | h' | h' | h' | h' | h' | h' | h' | h' <;> (rw [h'] at h; simp at h; omega)
  have e1 := num_pre xs ys p 1 h1
  unfold evAt evLen
  unfold evLen at h
  rw [e1]
  generalize num xs p 1 % 10 + 1 = k at hk h
  rcases hk with rfl | rfl | rfl | rfl | rfl | rfl | rfl | rfl | rfl | rfl
  all_goals
    simp at h ⊢
  all_goals first
    | (rw [num_pre xs ys (p + 1) 4 (by omega), num_pre xs ys (p + 5) 2 (by omega), cnt_pre xs ys (p + 7) (by omega), run_pre xs ys (p + 9) (cnt xs (p + 7)) (by omega)]; simp)
    | (rw [num_pre xs ys (p + 1) 1 (by omega), num_pre xs ys (p + 2) 4 (by omega)]; simp)
    | (rw [num_pre xs ys (p + 1) 2 (by omega), cnt_pre xs ys (p + 3) (by omega), run_pre xs ys (p + 5) (cnt xs (p + 3)) (by omega)]; simp)
    | (rw [num_pre xs ys (p + 1) 2 (by omega), num_pre xs ys (p + 3) 2 (by omega)]; exact ⟨rfl, rfl⟩)
    | (rw [num_pre xs ys (p + 1) 2 (by omega)])

theorem run_len (bs : List Int) (p n : Nat) : (run bs p n).length = n := by simp [run]
/-- How many bytes an event took is as many as it lays. -/
theorem evLen_lay {bs : List Int} (hb : ∀ x ∈ bs, 0 ≤ x ∧ x ≤ 255) (p : Nat) : evLen bs p = (layE (evAt bs p)).length := by
  have hk := kind_cases hb p
  unfold evLen evAt
  generalize num bs p 1 % 10 + 1 = k at hk
  rcases hk with rfl | rfl | rfl | rfl | rfl | rfl | rfl | rfl | rfl | rfl <;> simp [layE, nms, fld, putN_length, run_len] <;> omega


/-! ### Numbers, laid and read -/
theorem num2 {x : Int} (h0 : 0 ≤ x) (h1 : x < 65536) : ((0 : Int) * 256 + bX x 1) * 256 + bX x 0 = x := by
  unfold bX
  simp only [Nat.mul_one, Nat.mul_zero, show (2 : Int) ^ 8 = 256 by decide, show (2 : Int) ^ 0 = 1 by decide]
  omega
theorem num4 {x : Int} (h0 : 0 ≤ x) (h1 : x < 4294967296) : ((((0 : Int) * 256 + bX x 3) * 256 + bX x 2) * 256 + bX x 1) * 256 + bX x 0 = x := by
  unfold bX
  simp only [Nat.mul_one, Nat.mul_zero, show 8 * 2 = 16 by rfl, show 8 * 3 = 24 by rfl, show (2 : Int) ^ 24 = 16777216 by decide, show (2 : Int) ^ 16 = 65536 by decide, show (2 : Int) ^ 8 = 256 by decide, show (2 : Int) ^ 0 = 1 by decide]
  omega
theorem num1 {x : Int} (h0 : 0 ≤ x) (h1 : x < 256) : (0 : Int) * 256 + bX x 0 = x := by
  unfold bX
  simp only [Nat.mul_zero, show (2 : Int) ^ 0 = 1 by decide]
  omega
theorem run_self (l : List Int) : run l 0 l.length = l := by
  unfold run
  apply List.ext_getElem (by simp)
  intro i h1 h2
  simp only [List.getElem_map, List.getElem_range, Nat.zero_add]
  unfold byte
  rw [List.getD_eq_getElem?_getD, List.getElem?_eq_getElem h2]; rfl
theorem run_tail (xs l : List Int) (p n : Nat) (hp : xs.length = p) (hn : l.length = n) : run (xs ++ l) p n = l := by
  subst hp; subst hn
  have h := run_app xs l 0 l.length
  rw [Nat.add_zero] at h
  rw [h, run_self]

/-! ### An event that is laid and read again -/
theorem back1 (k who port : Int) (b : List Int) (hk : k = 1 ∨ k = 8) (h1 : 0 ≤ who) (h2 : who < 4294967296) (h3 : 0 ≤ port) (h4 : port < 65536) (h5 : b.length ≤ 4096) : evAt (layE ⟨k, 0, who, port, 0, 0, b⟩) 0 = ⟨k, 0, who, port, 0, 0, b⟩ := by
  have hl : layE ⟨k, 0, who, port, 0, 0, b⟩ = [k - 1, bX who 3, bX who 2, bX who 1, bX who 0, bX port 1, bX port 0, bX b.length 1, bX b.length 0] ++ b := by
    rcases hk with rfl | rfl <;> simp [layE, nms, fld, putN]
  rw [hl]
  have n0 : num ([k - 1, bX who 3, bX who 2, bX who 1, bX who 0, bX port 1, bX port 0, bX b.length 1, bX b.length 0] ++ b) 0 1 % 10 + 1 = k := by
    show ((0 : Int) * 256 + (k - 1)) % 10 + 1 = k
    omega
  have n1 : num ([k - 1, bX who 3, bX who 2, bX who 1, bX who 0, bX port 1, bX port 0, bX b.length 1, bX b.length 0] ++ b) 1 4 = who := num4 h1 h2
  have n2 : num ([k - 1, bX who 3, bX who 2, bX who 1, bX who 0, bX port 1, bX port 0, bX b.length 1, bX b.length 0] ++ b) 5 2 = port := num2 h3 h4
  have n3 : num ([k - 1, bX who 3, bX who 2, bX who 1, bX who 0, bX port 1, bX port 0, bX b.length 1, bX b.length 0] ++ b) 7 2 = (b.length : Int) := num2 (by omega) (by omega)
  have n4 : cnt ([k - 1, bX who 3, bX who 2, bX who 1, bX who 0, bX port 1, bX port 0, bX b.length 1, bX b.length 0] ++ b) 7 = b.length := by unfold cnt; rw [n3]; omega
  have n5 := run_tail [k - 1, bX who 3, bX who 2, bX who 1, bX who 0, bX port 1, bX port 0, bX b.length 1, bX b.length 0] b 9 b.length rfl rfl
  unfold evAt
  rw [n0]
  simp only [Nat.zero_add]
  rw [if_pos hk, n1, n2, n4, n5]
theorem back2 (s who : Int) (h1 : 0 ≤ who) (h2 : who < 4294967296) (h3 : 0 ≤ s) (h4 : s < 4) : evAt (layE ⟨2, s, who, 0, 0, 0, []⟩) 0 = ⟨2, s, who, 0, 0, 0, []⟩ := by
  have hl : layE ⟨2, s, who, 0, 0, 0, []⟩ = [1, bX s 0, bX who 3, bX who 2, bX who 1, bX who 0] := by simp [layE, nms, fld, putN]
  rw [hl]
  have n1 : num [1, bX s 0, bX who 3, bX who 2, bX who 1, bX who 0] 1 1 = s := num1 h3 (by omega)
  have n2 : num [1, bX s 0, bX who 3, bX who 2, bX who 1, bX who 0] 2 4 = who := num4 h1 h2
  have n0 : num [1, bX s 0, bX who 3, bX who 2, bX who 1, bX who 0] 0 1 % 10 + 1 = 2 := by show ((0 : Int) * 256 + 1) % 10 + 1 = 2; omega
  unfold evAt
  rw [n0]
  simp only [Nat.zero_add]
  rw [n1, n2, show s % 4 = s by omega]
  simp
theorem back3 (conn : Int) (b : List Int) (h1 : 0 ≤ conn) (h2 : conn < 65536) (h5 : b.length ≤ 4096) : evAt (layE ⟨3, 0, 0, 0, conn, 0, b⟩) 0 = ⟨3, 0, 0, 0, conn, 0, b⟩ := by
  have hl : layE ⟨3, 0, 0, 0, conn, 0, b⟩ = [2, bX conn 1, bX conn 0, bX b.length 1, bX b.length 0] ++ b := by simp [layE, nms, fld, putN]
  rw [hl]
  have n0 : num ([2, bX conn 1, bX conn 0, bX b.length 1, bX b.length 0] ++ b) 0 1 % 10 + 1 = 3 := by show ((0 : Int) * 256 + 2) % 10 + 1 = 3; omega
  have n1 : num ([2, bX conn 1, bX conn 0, bX b.length 1, bX b.length 0] ++ b) 1 2 = conn := num2 h1 h2
  have n3 : num ([2, bX conn 1, bX conn 0, bX b.length 1, bX b.length 0] ++ b) 3 2 = (b.length : Int) := num2 (by omega) (by omega)
  have n4 : cnt ([2, bX conn 1, bX conn 0, bX b.length 1, bX b.length 0] ++ b) 3 = b.length := by unfold cnt; rw [n3]; omega
  have n5 := run_tail [2, bX conn 1, bX conn 0, bX b.length 1, bX b.length 0] b 5 b.length rfl rfl
  unfold evAt
  rw [n0]
  simp only [Nat.zero_add]
  rw [n1, n4, n5]
  simp
theorem back9 (m : Int) (b : List Int) (h1 : 0 ≤ m) (h2 : m < 65536) (h5 : b.length ≤ 4096) : evAt (layE ⟨9, 0, 0, 0, 0, m, b⟩) 0 = ⟨9, 0, 0, 0, 0, m, b⟩ := by
  have hl : layE ⟨9, 0, 0, 0, 0, m, b⟩ = [8, bX m 1, bX m 0, bX b.length 1, bX b.length 0] ++ b := by simp [layE, nms, fld, putN]
  rw [hl]
  have n0 : num ([8, bX m 1, bX m 0, bX b.length 1, bX b.length 0] ++ b) 0 1 % 10 + 1 = 9 := by show ((0 : Int) * 256 + 8) % 10 + 1 = 9; omega
  have n1 : num ([8, bX m 1, bX m 0, bX b.length 1, bX b.length 0] ++ b) 1 2 = m := num2 h1 h2
  have n3 : num ([8, bX m 1, bX m 0, bX b.length 1, bX b.length 0] ++ b) 3 2 = (b.length : Int) := num2 (by omega) (by omega)
  have n4 : cnt ([8, bX m 1, bX m 0, bX b.length 1, bX b.length 0] ++ b) 3 = b.length := by unfold cnt; rw [n3]; omega
  have n5 := run_tail [8, bX m 1, bX m 0, bX b.length 1, bX b.length 0] b 5 b.length rfl rfl
  unfold evAt
  rw [n0]
  simp only [Nat.zero_add]
  rw [n1, n4, n5]
  simp
theorem back4 (conn : Int) (h1 : 0 ≤ conn) (h2 : conn < 65536) : evAt (layE ⟨4, 0, 0, 0, conn, 0, []⟩) 0 = ⟨4, 0, 0, 0, conn, 0, []⟩ := by
  have hl : layE ⟨4, 0, 0, 0, conn, 0, []⟩ = [3, bX conn 1, bX conn 0] := by simp [layE, nms, fld, putN]
  rw [hl]
  have n0 : num [3, bX conn 1, bX conn 0] 0 1 % 10 + 1 = 4 := by show ((0 : Int) * 256 + 3) % 10 + 1 = 4; omega
  have n1 : num [3, bX conn 1, bX conn 0] 1 2 = conn := num2 h1 h2
  unfold evAt
  rw [n0]
  simp only [Nat.zero_add]
  rw [n1]
  simp
theorem back5 (conn m : Int) (h1 : 0 ≤ conn) (h2 : conn < 65536) (h3 : 0 ≤ m) (h4 : m < 65536) : evAt (layE ⟨5, 0, 0, 0, conn, m, []⟩) 0 = ⟨5, 0, 0, 0, conn, m, []⟩ := by
  have hl : layE ⟨5, 0, 0, 0, conn, m, []⟩ = [4, bX conn 1, bX conn 0, bX m 1, bX m 0] := by simp [layE, nms, fld, putN]
  rw [hl]
  have n0 : num [4, bX conn 1, bX conn 0, bX m 1, bX m 0] 0 1 % 10 + 1 = 5 := by show ((0 : Int) * 256 + 4) % 10 + 1 = 5; omega
  have n1 : num [4, bX conn 1, bX conn 0, bX m 1, bX m 0] 1 2 = conn := num2 h1 h2
  have n2 : num [4, bX conn 1, bX conn 0, bX m 1, bX m 0] 3 2 = m := num2 h3 h4
  unfold evAt
  rw [n0]
  simp only [Nat.zero_add]
  rw [n1, n2]
  simp
theorem back67 (k m : Int) (hk : k = 6 ∨ k = 7) (h1 : 0 ≤ m) (h2 : m < 65536) : evAt (layE ⟨k, 0, 0, 0, 0, m, []⟩) 0 = ⟨k, 0, 0, 0, 0, m, []⟩ := by
  have hl : layE ⟨k, 0, 0, 0, 0, m, []⟩ = [k - 1, bX m 1, bX m 0] := by rcases hk with rfl | rfl <;> simp [layE, nms, fld, putN]
  rw [hl]
  have n0 : num [k - 1, bX m 1, bX m 0] 0 1 % 10 + 1 = k := by show ((0 : Int) * 256 + (k - 1)) % 10 + 1 = k; omega
  have n1 : num [k - 1, bX m 1, bX m 0] 1 2 = m := num2 h1 h2
  unfold evAt
  rw [n0]
  simp only [Nat.zero_add]
  rw [n1]
  rcases hk with rfl | rfl <;> simp
theorem back10 : evAt (layE ⟨10, 0, 0, 0, 0, 0, []⟩) 0 = ⟨10, 0, 0, 0, 0, 0, []⟩ := by decide

theorem cnt_le {bs : List Int} (hb : ∀ x ∈ bs, 0 ≤ x ∧ x ≤ 255) (p : Nat) : cnt bs p ≤ 4096 := by
  have := (num_bd hb p 2).1
  unfold cnt; omega
/-- An event that was read may be. -/
theorem okE_at {bs : List Int} (hb : ∀ x ∈ bs, 0 ≤ x ∧ x ≤ 255) (p : Nat) : OkE (evAt bs p) := by
  have hk := kind_cases hb p
  have q4 : ∀ i, 0 ≤ num bs i 4 ∧ num bs i 4 < 4294967296 := fun i => by have := num_bd hb i 4; exact ⟨this.1, by have h := this.2; rw [show (256 : Int) ^ 4 = 4294967296 by decide] at h; exact h⟩
  have q2 : ∀ i, 0 ≤ num bs i 2 ∧ num bs i 2 < 65536 := fun i => by have := num_bd hb i 2; exact ⟨this.1, by have h := this.2; rw [show (256 : Int) ^ 2 = 65536 by decide] at h; exact h⟩
  have q1 : ∀ i, 0 ≤ num bs i 1 := fun i => (num_bd hb i 1).1
  have qc := fun i => cnt_le hb i
  rcases hk with h | h | h | h | h | h | h | h | h | h
  · have he : evAt bs p = ⟨1, 0, num bs (p + 1) 4, num bs (p + 5) 2, 0, 0, run bs (p + 9) (cnt bs (p + 7))⟩ := by unfold evAt; rw [h]; simp
    rw [he]
    exact ⟨by rw [run_len]; exact qc _, back1 1 _ _ _ (.inl rfl) (q4 _).1 (q4 _).2 (q2 _).1 (q2 _).2 (by rw [run_len]; exact qc _)⟩
  · have he : evAt bs p = ⟨2, num bs (p + 1) 1 % 4, num bs (p + 2) 4, 0, 0, 0, []⟩ := by unfold evAt; rw [h]; simp
    rw [he]
    have := q1 (p + 1)
    exact ⟨by simp, back2 _ _ (q4 _).1 (q4 _).2 (by omega) (by omega)⟩
  · have he : evAt bs p = ⟨3, 0, 0, 0, num bs (p + 1) 2, 0, run bs (p + 5) (cnt bs (p + 3))⟩ := by unfold evAt; rw [h]; simp
    rw [he]
    exact ⟨by rw [run_len]; exact qc _, back3 _ _ (q2 _).1 (q2 _).2 (by rw [run_len]; exact qc _)⟩
  · have he : evAt bs p = ⟨4, 0, 0, 0, num bs (p + 1) 2, 0, []⟩ := by unfold evAt; rw [h]; simp
    rw [he]
    exact ⟨by simp, back4 _ (q2 _).1 (q2 _).2⟩
  · have he : evAt bs p = ⟨5, 0, 0, 0, num bs (p + 1) 2, num bs (p + 3) 2, []⟩ := by unfold evAt; rw [h]; simp
    rw [he]
    exact ⟨by simp, back5 _ _ (q2 _).1 (q2 _).2 (q2 _).1 (q2 _).2⟩
  · have he : evAt bs p = ⟨6, 0, 0, 0, 0, num bs (p + 1) 2, []⟩ := by unfold evAt; rw [h]; simp
    rw [he]
    exact ⟨by simp, back67 6 _ (.inl rfl) (q2 _).1 (q2 _).2⟩
  · have he : evAt bs p = ⟨7, 0, 0, 0, 0, num bs (p + 1) 2, []⟩ := by unfold evAt; rw [h]; simp
    rw [he]
    exact ⟨by simp, back67 7 _ (.inr rfl) (q2 _).1 (q2 _).2⟩
  · have he : evAt bs p = ⟨8, 0, num bs (p + 1) 4, num bs (p + 5) 2, 0, 0, run bs (p + 9) (cnt bs (p + 7))⟩ := by unfold evAt; rw [h]; simp
    rw [he]
    exact ⟨by rw [run_len]; exact qc _, back1 8 _ _ _ (.inr rfl) (q4 _).1 (q4 _).2 (q2 _).1 (q2 _).2 (by rw [run_len]; exact qc _)⟩
  · have he : evAt bs p = ⟨9, 0, 0, 0, 0, num bs (p + 1) 2, run bs (p + 5) (cnt bs (p + 3))⟩ := by unfold evAt; rw [h]; simp
    rw [he]
    exact ⟨by rw [run_len]; exact qc _, back9 _ _ (q2 _).1 (q2 _).2 (by rw [run_len]; exact qc _)⟩
  · have he : evAt bs p = ⟨10, 0, 0, 0, 0, 0, []⟩ := by unfold evAt; rw [h]; simp
    rw [he]
    exact ⟨by simp, back10⟩

/-! ### Events behind events -/
/-- Bytes that are just one event. -/
structure Chunk (c : List Int) (e : Ev) : Prop where
  bd : ∀ x ∈ c, 0 ≤ x ∧ x ≤ 255
  pos : 0 < c.length
  ev : evAt c 0 = e
  len : evLen c 0 = c.length
theorem chunk_lay {e : Ev} (hb : ∀ y ∈ e.b, 0 ≤ y ∧ y ≤ 255) (h : OkE e) : Chunk (layE e) e :=
  ⟨layE_bd hb, layE_pos e, h.2, by rw [evLen_lay (layE_bd hb) 0, h.2]⟩
theorem evsF_app (xs ys : List Int) (f p : Nat) : evsF (xs ++ ys) f (xs.length + p) = evsF ys f p := by
  induction f generalizing p with
  | zero => rfl
  | succ f ih =>
    unfold evsF
    rw [List.length_append, evAt_app, evLen_app, Nat.add_assoc, ih]
    by_cases h : p < ys.length
    · rw [if_pos (by omega), if_pos h]
    · rw [if_neg (by omega), if_neg h]
theorem evsF_chunk {c : List Int} {e : Ev} (h : Chunk c e) (ys : List Int) (f : Nat) : evsF (c ++ ys) (f + 1) 0 = e :: evsF ys f 0 := by
  have h1 := evAt_pre (ys := ys) h.bd 0 (by rw [h.len]; omega)
  have h2 := evsF_app c ys f 0
  show (if 0 < (c ++ ys).length then evAt (c ++ ys) 0 :: evsF (c ++ ys) f (0 + evLen (c ++ ys) 0) else []) = _
  rw [if_pos (by have := h.pos; simp; omega), h1.1, h1.2, h.ev, h.len, Nat.zero_add]
  rw [Nat.add_zero] at h2
  rw [h2]
/-- Chunks, and what lies behind them. -/
theorem evsF_chunks (cs : List (List Int × Ev)) (h : ∀ c ∈ cs, Chunk c.1 c.2) (ys : List Int) (f : Nat) (hf : cs.length ≤ f) : evsF (cs.flatMap (·.1) ++ ys) f 0 = cs.map (·.2) ++ evsF ys (f - cs.length) 0 := by
  induction cs generalizing f with
  | nil => simp
  | cons c cs ih =>
    obtain ⟨g, rfl⟩ : ∃ g, f = g + 1 := ⟨f - 1, by simp at hf; omega⟩
    rw [List.flatMap_cons, List.append_assoc, evsF_chunk (h c (List.mem_cons_self ..)), ih (fun x hx => h x (List.mem_cons_of_mem _ hx)) g (by simpa using hf)]
    simp
theorem evsF_take (cs : List (List Int × Ev)) (h : ∀ c ∈ cs, Chunk c.1 c.2) (ys : List Int) (f : Nat) (hf : f ≤ cs.length) : evsF (cs.flatMap (·.1) ++ ys) f 0 = (cs.map (·.2)).take f := by
  have e : cs.flatMap (·.1) = (cs.take f).flatMap (·.1) ++ (cs.drop f).flatMap (·.1) := by rw [← List.flatMap_append, List.take_append_drop]
  rw [e, List.append_assoc, evsF_chunks (cs.take f) (fun c hc => h c (List.mem_of_mem_take hc)) _ f (by simp; omega)]
  have hl : (cs.take f).length = f := by simp; omega
  rw [hl, Nat.sub_self]
  show _ ++ [] = _
  rw [List.append_nil, List.map_take]
theorem evsF_nil (f p : Nat) : evsF [] f p = [] := by
  cases f with
  | zero => rfl
  | succ f => unfold evsF; rw [if_neg (by simp)]
theorem map_snd (es : List Ev) : es.map ((fun x : List Int × Ev => x.2) ∘ fun e => (layE e, e)) = es := List.map_id' es
/-- What events are as bytes is read as them. -/
theorem evs_lay {es : List Ev} (hb : ∀ e ∈ es, ∀ y ∈ e.b, 0 ≤ y ∧ y ≤ 255) (h : ∀ e ∈ es, OkE e) (hl : es.length ≤ 4096) : evs (es.flatMap layE) = es := by
  have h1 := evsF_chunks (es.map fun e => (layE e, e)) (by intro c hc; rw [List.mem_map] at hc; obtain ⟨e, he, rfl⟩ := hc; exact chunk_lay (hb e he) (h e he)) [] 4096 (by simpa using hl)
  rw [List.append_nil, evsF_nil, List.append_nil, List.flatMap_map, List.map_map] at h1
  rw [map_snd] at h1
  exact h1
theorem evsF_ok {bs : List Int} (hb : ∀ x ∈ bs, 0 ≤ x ∧ x ≤ 255) (f p : Nat) : ∀ e ∈ evsF bs f p, OkE e := by
  induction f generalizing p with
  | zero => intro e he; cases he
  | succ f ih =>
    intro e he
    unfold evsF at he
    split at he
    · rcases List.mem_cons.1 he with rfl | he
      · exact okE_at hb p
      · exact ih _ e he
    · cases he
theorem evsF_length (bs : List Int) (f p : Nat) : (evsF bs f p).length ≤ f := by
  induction f generalizing p with
  | zero => simp [evsF]
  | succ f ih =>
    unfold evsF
    split
    · have := ih (p + evLen bs p); simp; omega
    · simp
theorem evLen_pos (bs : List Int) (p : Nat) : 1 ≤ evLen bs p := by
  unfold evLen
  simp only
  repeat' split
  all_goals omega
theorem evsF_length2 (bs : List Int) (f p : Nat) : (evsF bs f p).length ≤ bs.length - p := by
  induction f generalizing p with
  | zero => simp [evsF]
  | succ f ih =>
    unfold evsF
    split
    · have := ih (p + evLen bs p); have := evLen_pos bs p; simp; omega
    · simp
theorem evsF_fuel (bs : List Int) (f g p : Nat) (hf : bs.length - p ≤ f) (hg : bs.length - p ≤ g) : evsF bs f p = evsF bs g p := by
  induction f generalizing g p with
  | zero =>
    cases g with
    | zero => rfl
    | succ g => unfold evsF; rw [if_neg (by omega)]
  | succ f ih =>
    cases g with
    | zero => unfold evsF; rw [if_neg (by omega)]
    | succ g =>
      unfold evsF
      split
      · have := evLen_pos bs p
        rw [ih g (p + evLen bs p) (by omega) (by omega)]
      · rfl
theorem evs_ok {bs : List Int} (hb : ∀ x ∈ bs, 0 ≤ x ∧ x ≤ 255) : ∀ e ∈ evs bs, OkE e := evsF_ok hb 4096 0
theorem evs_len (bs : List Int) : (evs bs).length ≤ 4096 := evsF_length bs 4096 0

/-- The events of bytes behind those that are told of others are both. -/
theorem evs_behind {es : List Ev} {bs : List Int} (hb : ∀ e ∈ es, ∀ y ∈ e.b, 0 ≤ y ∧ y ≤ 255) (h : ∀ e ∈ es, OkE e) (hl : es.length ≤ 1000) (hbl : bs.length ≤ 1000) : evs (es.flatMap layE ++ bs) = es ++ evs bs := by
  have h1 := evsF_chunks (es.map fun e => (layE e, e)) (by intro c hc; rw [List.mem_map] at hc; obtain ⟨e, he, rfl⟩ := hc; exact chunk_lay (hb e he) (h e he)) bs 4096 (by simp; omega)
  rw [List.flatMap_map, List.map_map, List.length_map] at h1
  show evsF _ 4096 0 = _ ++ evsF bs 4096 0
  rw [map_snd] at h1
  rw [evsF_fuel bs 4096 (4096 - es.length) 0 (by omega) (by omega)]
  exact h1

/-- Bytes that are cut short: all but the last event are the same, and the last is of the same kind. -/
theorem cut_evs {xs ys : List Int} (hx : ∀ x ∈ xs, 0 ≤ x ∧ x ≤ 255) (f p : Nat) :
    (evsF xs f p).length ≤ (evsF (xs ++ ys) f p).length ∧ (evsF xs f p).take ((evsF xs f p).length - 1) = (evsF (xs ++ ys) f p).take ((evsF xs f p).length - 1) ∧
    (0 < (evsF xs f p).length → ∃ a b, (evsF xs f p)[(evsF xs f p).length - 1]? = some a ∧ (evsF (xs ++ ys) f p)[(evsF xs f p).length - 1]? = some b ∧ a.k = b.k) := by
  induction f generalizing p with
  | zero => simp [evsF]
  | succ f ih =>
    by_cases hp : p < xs.length
    · have e1 : evsF xs (f + 1) p = evAt xs p :: evsF xs f (p + evLen xs p) := by
        show (if p < xs.length then _ else _) = _
        rw [if_pos hp]
      have e2 : evsF (xs ++ ys) (f + 1) p = evAt (xs ++ ys) p :: evsF (xs ++ ys) f (p + evLen (xs ++ ys) p) := by
        show (if p < (xs ++ ys).length then _ else _) = _
        rw [if_pos (by simp; omega)]
      rw [e1, e2]
      by_cases hq : p + evLen xs p ≤ xs.length
      · obtain ⟨h1, h2⟩ := evAt_pre (ys := ys) hx p hq
        rw [h1, h2]
        obtain ⟨i1, i2, i3⟩ := ih (p + evLen xs p)
        obtain ⟨c, hc⟩ : ∃ c, evsF xs f (p + evLen xs p) = c := ⟨_, rfl⟩
        obtain ⟨m, hm⟩ : ∃ m, evsF (xs ++ ys) f (p + evLen xs p) = m := ⟨_, rfl⟩
        rw [hc, hm] at i1 i2 i3 ⊢
        rcases Nat.eq_zero_or_pos c.length with h0 | h0
        · have : c = [] := List.eq_nil_of_length_eq_zero h0
          subst this
          refine ⟨by simp, by simp, fun _ => ⟨evAt xs p, evAt xs p, by simp, by simp, rfl⟩⟩
        · refine ⟨by simpa using i1, ?_, fun _ => ?_⟩
          · obtain ⟨n, hn⟩ : ∃ n, c.length = n + 1 := ⟨c.length - 1, by omega⟩
            rw [hn] at i2
            simp only [List.length_cons, hn, Nat.add_sub_cancel] at i2 ⊢
            rw [List.take_succ_cons, List.take_succ_cons, i2]
          · obtain ⟨a, b, ha, hb, hk⟩ := i3 h0
            obtain ⟨n, hn⟩ : ∃ n, c.length = n + 1 := ⟨c.length - 1, by omega⟩
            rw [hn] at ha hb
            simp only [List.length_cons, hn, Nat.add_sub_cancel] at ha hb ⊢
            exact ⟨a, b, by simpa using ha, by simpa using hb, hk⟩
      · have e3 : evsF xs f (p + evLen xs p) = [] := by
          cases f with
          | zero => rfl
          | succ f => show (if _ then _ else _) = _; rw [if_neg (by omega)]
        rw [e3]
        refine ⟨by simp, by simp, fun _ => ⟨evAt xs p, evAt (xs ++ ys) p, by simp, by simp, ?_⟩⟩
        have kk : ∀ (bs : List Int) (q : Nat), (evAt bs q).k = num bs q 1 % 10 + 1 := by
          intro bs q
          unfold evAt
          simp only
          repeat' split
          all_goals rfl
        rw [kk, kk, num_pre xs ys p 1 (by omega)]
    · have e1 : evsF xs (f + 1) p = [] := by
        show (if p < xs.length then _ else _) = _
        rw [if_neg hp]
      rw [e1]
      simp

end Go.Proofs.Ythdobpfojdcagaa.Plain
