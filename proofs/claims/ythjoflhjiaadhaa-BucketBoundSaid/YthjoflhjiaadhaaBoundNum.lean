/-
  The plain law of BucketBound: whatever is taken, at whatever times: what was taken from one moment on, and what is there still, is at most the burst and the rate times the ticks between.
-/
import Derived.Test.YthjoflhjiaadhaaBkt
set_option linter.unusedVariables false
namespace Go.Proofs.Ythjoflhjiaadhaa.BoundNum
open Go.Proofs.Ythjoflhjiaadhaa.Num Go.Proofs.Ythjoflhjiaadhaa.Bkt

/-- The sum of the elements from i on, below k. -/
def S (l : List Int) (i k : Nat) : Int := ((l.take k).drop i).sum

theorem S_same (l : List Int) (i : Nat) : S l i i = 0 := by unfold S; rw [List.drop_of_length_le (by simp; omega)]; rfl
theorem S_step (l : List Int) (i k : Nat) (hik : i ≤ k) (hk : k < l.length) : S l i (k + 1) = S l i k + l.getD k 0 := by
  unfold S
  rw [List.take_succ_eq_append_getElem hk, List.drop_append_of_le_length (by simp; omega), List.sum_append, List.getD_eq_getElem?_getD, List.getElem?_eq_getElem hk]
  simp
theorem S_snoc (l : List Int) (x : Int) (i k : Nat) (hk : k ≤ l.length) : S (l ++ [x]) i k = S l i k := by
  unfold S; rw [List.take_append_of_le_length hk]
theorem getD_snoc (l : List Int) (x : Int) (k : Nat) (hk : k < l.length) : (l ++ [x]).getD k 0 = l.getD k 0 := by
  rw [List.getD_eq_getElem?_getD, List.getD_eq_getElem?_getD, List.getElem?_append_left hk]
theorem getD_last (l : List Int) (x : Int) : (l ++ [x]).getD l.length 0 = x := by
  rw [List.getD_eq_getElem?_getD, List.getElem?_append_right (Nat.le_refl _)]; simp
theorem getD_mem (l : List Int) (k : Nat) (hk : k < l.length) : l.getD k 0 ∈ l := by
  rw [List.getD_eq_getElem?_getD, List.getElem?_eq_getElem hk]; exact List.getElem_mem hk

structure Inv (rate burst t a : Int) (ats took : List Int) : Prop where
  len : ats.length = took.length
  tk : ∀ x ∈ took, 0 ≤ x ∧ x ≤ burst
  at_ : ∀ x ∈ ats, 0 ≤ x ∧ x ≤ a
  pair : ∀ i k, i ≤ k → k < took.length → S took i (k + 1) ≤ burst + rate * (ats.getD k 0 - ats.getD i 0)
  pot : ∀ i, i < took.length → S took i took.length + t ≤ burst + rate * (a - ats.getD i 0)

theorem Inv.start (rate burst t a : Int) : Inv rate burst t a [] [] :=
  ⟨rfl, fun x hx => by simp at hx, fun x hx => by simp at hx, fun i k _ h => by simp at h, fun i h => by simp at h⟩

theorem cutI_le {z : Int} (h : 0 ≤ z) : cutI z ≤ z := by unfold cutI; split <;> (try split) <;> omega

/-- Filling adds at most the rate times the ticks. -/
theorem fillT_le {r bu t a now : Int} (ok : Ok r bu t a) (h1 : a ≤ now) (h2 : now ≤ 1099511627776) : fillT r bu t a now ≤ t + r * (now - a) ∧ fillA a now = now := by
  have a0 := ok.a0; have t0 := ok.t0
  have p0 : 0 ≤ r * (now - a) := Int.mul_nonneg ok.r0 (by omega)
  have e1 : subI now a = now - a := by unfold subI; rw [cutI_id (n := now) (by omega) (by omega), cutI_id a0 (by have := ok.a1; omega), cutI_id (show 0 ≤ now - a by omega) (by omega)]
  have e2 : mulI r (subI now a) ≤ r * (now - a) := by
    rw [Ref01.mulI_eq, e1, cutI_id ok.r0 ok.r1, cutI_id (show 0 ≤ now - a by omega) (by omega)]
    exact cutI_le p0
  have e3 : 0 ≤ mulI r (subI now a) := (scaleI_bd _ _ _).1
  have e4 : addI t (mulI r (subI now a)) ≤ t + mulI r (subI now a) := by
    unfold addI
    have h3 := cutI_le t0
    have h4 := cutI_le e3
    have h5 := (cutI_bd t).1
    have h6 := (cutI_bd (mulI r (subI now a))).1
    have h7 := cutI_le (show 0 ≤ cutI t + cutI (mulI r (subI now a)) by omega)
    omega
  unfold fillT fillA
  rw [if_neg (by omega), if_neg (by omega)]
  exact ⟨by omega, rfl⟩

theorem Inv.fill {rate burst t a now : Int} {ats took : List Int} (h : Inv rate burst t a ats took) (ok : Ok rate burst t a) (h1 : a ≤ now) (h2 : now ≤ 1099511627776) : Inv rate burst (fillT rate burst t a now) now ats took := by
  refine ⟨h.len, h.tk, fun x hx => ⟨(h.at_ x hx).1, by have := (h.at_ x hx).2; omega⟩, h.pair, fun i hi => ?_⟩
  have e := (fillT_le ok h1 h2).1
  have p := h.pot i hi
  have d : rate * (now - ats.getD i 0) = rate * (a - ats.getD i 0) + rate * (now - a) := by rw [← Int.mul_add]; congr 1; omega
  omega

theorem Inv.take {rate burst t a n : Int} {ats took : List Int} (h : Inv rate burst t a ats took) (ok : Ok rate burst t a) (n0 : 0 ≤ n) (n1 : n ≤ t) : Inv rate burst (t - n) a (ats ++ [a]) (took ++ [n]) := by
  have hl := h.len
  have tb := ok.tb
  have a0 := ok.a0
  have key : ∀ i, i ≤ took.length → S (took ++ [n]) i (took.length + 1) + (t - n) ≤ burst + rate * (a - (ats ++ [a]).getD i 0) := by
    intro i hi
    rw [S_step _ _ _ hi (by simp), S_snoc _ _ _ _ (Nat.le_refl _), getD_last]
    by_cases e : i = took.length
    · subst e
      rw [S_same, ← hl, getD_last]
      rw [Int.sub_self, Int.mul_zero]; omega
    · have := h.pot i (by omega)
      rw [getD_snoc _ _ _ (by omega)]; omega
  refine ⟨by simp [hl], ?_, ?_, ?_, ?_⟩
  · intro x hx
    rcases List.mem_append.1 hx with hx | hx
    · exact h.tk x hx
    · obtain rfl : x = n := by simpa using hx
      omega
  · intro x hx
    rcases List.mem_append.1 hx with hx | hx
    · exact h.at_ x hx
    · obtain rfl : x = a := by simpa using hx
      omega
  · intro i k hik hk
    have hk' : k < took.length + 1 := by simpa using hk
    by_cases e : k = took.length
    · subst e
      have := key i hik
      rw [show (ats ++ [a]).getD took.length 0 = a by rw [← hl]; exact getD_last _ _]
      omega
    · rw [S_snoc _ _ _ _ (by omega), getD_snoc _ _ _ (by omega), getD_snoc _ _ _ (by omega)]
      exact h.pair i k hik (by omega)
  · intro i hi
    have hi' : i < took.length + 1 := by simpa using hi
    have := key i (by omega)
    simpa using this

theorem S_nonneg {l : List Int} (h : ∀ x ∈ l, 0 ≤ x) (i k : Nat) : 0 ≤ S l i k := by
  unfold S
  have h2 : ∀ x ∈ (l.take k).drop i, 0 ≤ x := fun x hx => h x (List.mem_of_mem_take (List.mem_of_mem_drop hx))
  generalize (l.take k).drop i = m at h2
  induction m with
  | nil => simp
  | cons y m ih =>
    rw [List.sum_cons]
    have := h2 y (by simp)
    have := ih (fun x hx => h2 x (by simp [hx]))
    omega

/-- What the last loops ask. -/
theorem Inv.asked {rate burst t a : Int} {ats took : List Int} (h : Inv rate burst t a ats took) (r0 : 0 ≤ rate) (r1 : rate ≤ 1073741824) (b1 : burst ≤ 1073741824) (a1 : a ≤ 2147483648) {i k : Nat} (hik : i ≤ k) (hk : k < took.length) :
    0 ≤ took.getD k 0 ∧ took.getD k 0 ≤ burst ∧ 0 ≤ S took i k ∧ S took i (k + 1) = S took i k + took.getD k 0 ∧ S took i (k + 1) ≤ burst + rate * (ats.getD k 0 - ats.getD i 0) ∧
    0 ≤ ats.getD k 0 ∧ ats.getD k 0 ≤ 2147483648 ∧ 0 ≤ ats.getD i 0 ∧ ats.getD i 0 ≤ 2147483648 ∧ -2305843009213693952 ≤ rate * (ats.getD k 0 - ats.getD i 0) ∧ rate * (ats.getD k 0 - ats.getD i 0) ≤ 2305843009213693952 := by
  have hl := h.len
  have h1 := h.tk _ (getD_mem took k hk)
  have h2 := h.at_ _ (getD_mem ats k (by omega))
  have h3 := h.at_ _ (getD_mem ats i (by omega))
  refine ⟨h1.1, h1.2, S_nonneg (fun x hx => (h.tk x hx).1) i k, S_step took i k hik hk, h.pair i k hik hk, h2.1, by omega, h3.1, by omega, ?_, ?_⟩
  · have : rate * -2147483648 ≤ rate * (ats.getD k 0 - ats.getD i 0) := Int.mul_le_mul_of_nonneg_left (by omega) r0
    omega
  · have : rate * (ats.getD k 0 - ats.getD i 0) ≤ rate * 2147483648 := Int.mul_le_mul_of_nonneg_left (by omega) r0
    omega

theorem Inv.took_no {rate burst t a n now : Int} {ats took : List Int} (h : Inv rate burst t a ats took) (ok : Ok rate burst t a) (h1 : a ≤ now) (h2 : now ≤ 1099511627776) (hb : takeB rate burst t a n now = false) :
    Inv rate burst (takeT rate burst t a n now) (takeA a n now) ats took ∧ takeA a n now ≤ now := by
  have e := (fillT_le ok h1 h2).2
  unfold takeT takeA
  by_cases hn : n < 0
  · rw [if_pos hn, if_pos hn]; exact ⟨h, h1⟩
  · have hf : fillT rate burst t a now < n := by
      refine Int.not_le.1 fun hle => ?_
      unfold takeB at hb
      rw [decide_eq_true (show 0 ≤ n by omega), decide_eq_true hle] at hb
      simp at hb
    rw [if_neg hn, if_neg hn, if_pos hf, e]
    exact ⟨h.fill ok h1 h2, Int.le_refl _⟩

theorem Inv.took_yes {rate burst t a n now : Int} {ats took : List Int} (h : Inv rate burst t a ats took) (ok : Ok rate burst t a) (h1 : a ≤ now) (h2 : now ≤ 1099511627776) (hb : takeB rate burst t a n now = true) :
    Inv rate burst (takeT rate burst t a n now) (takeA a n now) (ats ++ [now]) (took ++ [n]) ∧ takeA a n now = now := by
  have e := (fillT_le ok h1 h2).2
  unfold takeB at hb
  rw [Bool.and_eq_true, decide_eq_true_eq, decide_eq_true_eq] at hb
  have ok2 := ok.fill now
  rw [e] at ok2
  unfold takeT takeA
  rw [if_neg (by omega), if_neg (by omega), if_neg (by omega), e]
  exact ⟨(h.fill ok h1 h2).take ok2 hb.1 hb.2, rfl⟩

end Go.Proofs.Ythjoflhjiaadhaa.BoundNum
