/-
  The walks of both Bests, over a slice of any length; which place it is.
-/
import Derived.Test.YtingdfbolageeaaBef
import Derived.Deep.LoopGhost
import Derived.StillTailTactics
import Derived.BigQuiet
import Derived.Deep.QuietTactic
set_option linter.unusedVariables false
namespace Go.Proofs.Ytingdfbolageeaa.Best
open Go.RowKit Go.Proofs.Ytingdfbolageeaa.Fl Go.Proofs.Ytingdfbolageeaa.Val Go.Proofs.Ytingdfbolageeaa.Rnd Go.Proofs.Ytingdfbolageeaa.Mn Go.Proofs.Ytingdfbolageeaa.Bef

/-- A float's place in the order: NaN behind all. -/
def key (x : Nat) : Int := if isN x = true then (rv INF : Int) + 1 else E x
theorem E_le {x : Nat} (h : isN x = false) : E x ≤ (rv INF : Int) := by
  rw [isN_rg] at h
  have h : rg x ≤ INF := by
    have : ¬ 0x7ff0000000000000 < rg x := by simpa using h
    unfold INF; omega
  have := rv_le h
  unfold E; split <;> omega
theorem before_key (a b : Nat) : beforeF a b = decide (key a < key b) := by
  unfold beforeF key
  rcases ha : isN a with _ | _
  · rcases hb : isN b with _ | _
    · have : ltF a b = decide (E a < E b) := by
        unfold ltF
        rw [show FloatKind.f64.format.order a b = F.order a b from rfl, order_E ha hb]
        unfold cmpZ
        by_cases h : E a < E b
        · rw [if_pos h]; simp [h]
        · rw [if_neg h]; split <;> simp [h]
      simp [this]
    · have := E_le ha
      simp; omega
  · rw [ltF_nan ha]
    simp
    rcases hb : isN b with _ | _
    · have := E_le hb
      simp; omega
    · simp

def at' (l : List Nat) (i : Nat) : Nat := l.getD i 0
def bestK (l : List Nat) : Nat → Int
  | 0 => -1
  | k + 1 => if bestK l k < 0 then (k : Int) else if beforeF (at' l k) (at' l (bestK l k).toNat) = true then (k : Int) else bestK l k

theorem bestK_bd (l : List Nat) (k : Nat) : -1 ≤ bestK l k ∧ bestK l k < k := by
  induction k with
  | zero => simp [bestK]
  | succ k ih => unfold bestK; split <;> (try split) <;> omega
theorem bestK_pos (l : List Nat) (k : Nat) (h : 0 < k) : 0 ≤ bestK l k := by
  obtain ⟨k, rfl⟩ : ∃ j, k = j + 1 := ⟨k - 1, by omega⟩
  unfold bestK; split <;> (try split) <;> omega
theorem bestK_least (l : List Nat) (k : Nat) : (∀ i, i < k → key (at' l (bestK l k).toNat) ≤ key (at' l i)) ∧ (∀ i : Nat, (i : Int) < bestK l k → key (at' l (bestK l k).toNat) < key (at' l i)) := by
  induction k with
  | zero => exact ⟨fun i h => by omega, fun i h => by simp [bestK] at h; omega⟩
  | succ k ih =>
    obtain ⟨h1, h2⟩ := ih
    have hb := bestK_bd l k
    by_cases h0 : bestK l k < 0
    · have e : bestK l (k + 1) = k := by rw [bestK, if_pos h0]
      have hk : k = 0 := by
        by_cases hk : k = 0
        · exact hk
        · have := bestK_pos l k (by omega); omega
      subst hk
      rw [e]
      exact ⟨fun i hi => by have : i = 0 := by omega
                            subst this; simp, fun i hi => by omega⟩
    · by_cases hbf : beforeF (at' l k) (at' l (bestK l k).toNat) = true
      · have e : bestK l (k + 1) = k := by rw [bestK, if_neg h0, if_pos hbf]
        rw [before_key, decide_eq_true_eq] at hbf
        rw [e]
        refine ⟨fun i hi => ?_, fun i hi => ?_⟩
        · by_cases hik : i = k
          · subst hik; simp
          · have := h1 i (by omega); rw [Int.toNat_natCast]; omega
        · have := h1 i (by omega); rw [Int.toNat_natCast]; omega
      · have e : bestK l (k + 1) = bestK l k := by rw [bestK, if_neg h0, if_neg hbf]
        rw [before_key, decide_eq_true_eq] at hbf
        rw [e]
        refine ⟨fun i hi => ?_, h2⟩
        by_cases hik : i = k
        · subst hik; omega
        · exact h1 i (by omega)

set_option maxHeartbeats 1000000 in
theorem best_nil (ao : Option Addr) (cap : Nat) (w : World) :
    Calls Try.prog 18 #[.slice ao 0 cap] w fun e w' => e = .returned (.int .i64 (-1)) ∧ w = w' := by
  go_enter Try.func18, Try.ntmps18
  go_wp2_with fail
  refine wp_loop_rounds 1 ?_
  rw [rounds_succ]
  go_wp2_with fail
  go_ret
  exact ⟨rfl, rfl⟩

theorem ret_i64 {a b : Int} (h : a = b) : Ending.returned (.int .i64 a) = Ending.returned (.int .i64 b) := by rw [h]

set_option maxHeartbeats 1000000 in
theorem best_pos (b off len cap : Nat) (l : List Nat) (w : World) (hl : len ≤ 9223372036854775807) (hc : ∀ j, j < len → w.cell? ⟨b, off + j, none⟩ = some (.float .f64 (at' l j))) :
    Calls Try.prog 18 #[.slice (some ⟨b, off, none⟩) len cap] w fun e w' => e = .returned (.int .i64 (bestK l len)) ∧ w = w' := by
  have BW := fun a b w => before_walk a b w
  replace BW := Lib.hid BW
  go_enter Try.func18, Try.ntmps18
  go_wp2_with fail
  go_loopg [3, 4, 5, 8] len (fun g v3 _ _ v8 wr => ∃ k : Nat, k ≤ len ∧ g = len - k ∧ v8 = .int .i64 k ∧ v3 = .int .i64 (bestK l k) ∧ w = wr)
  case atStart => exact ⟨0, Nat.zero_le _, rfl, rfl, rfl, rfl⟩
  case round =>
    obtain ⟨k, hk, hg, rfl, rfl, rfl⟩ := hrel
    have hbd := bestK_bd l k
    have hstep : bestK l (k + 1) = if bestK l k < 0 then (k : Int) else if beforeF (at' l k) (at' l (bestK l k).toNat) = true then (k : Int) else bestK l k := by rw [bestK]
    by_cases hlt : k < len
    · have hcell := hc k hlt
      have Hg := Lib.hid hg; clear hg
      by_cases hneg : bestK l k < 0
      · have hm1 : bestK l k = -1 := by omega
        rw [if_pos hneg] at hstep
        rw [hm1]
        replace hstep := Lib.hid hstep; replace hneg := Lib.hid hneg; replace hm1 := Lib.hid hm1
        clear hc hbd
        go_wp2_with fail
        go_roundg (len - (k + 1))
        case measure => have := Hg.out; omega
        case rel => exact ⟨k + 1, by omega, rfl, by go_num, by rw [hstep.out], rfl⟩
      · obtain ⟨q, hq⟩ : ∃ q : Nat, bestK l k = q := ⟨(bestK l k).toNat, by omega⟩
        rw [if_neg hneg, hq, Int.toNat_natCast] at hstep
        rw [hq]
        have hql : q < len := by omega
        have hcell2 := hc q hql
        have hq0 : (decide ((q : Int) < 0)) = false := by simp
        replace hq := Lib.hid hq; replace hneg := Lib.hid hneg
        clear hc hbd
        rcases hbf : beforeF (at' l k) (at' l q) with _ | _
        · rw [hbf, if_neg (by simp)] at hstep
          replace hstep := Lib.hid hstep
          go_wp2_with (go_at_call 16; refine (BW.out _ _ _).mono ?_; rintro e w' ⟨rfl, rfl⟩; rw [hbf])
          go_roundg (len - (k + 1))
          case measure => have := Hg.out; omega
          case rel => exact ⟨k + 1, by omega, rfl, by go_num, by rw [hstep.out], rfl⟩
        · rw [hbf, if_pos rfl] at hstep
          replace hstep := Lib.hid hstep
          go_wp2_with (go_at_call 16; refine (BW.out _ _ _).mono ?_; rintro e w' ⟨rfl, rfl⟩; rw [hbf])
          go_roundg (len - (k + 1))
          case measure => have := Hg.out; omega
          case rel => exact ⟨k + 1, by omega, rfl, by go_num, by rw [hstep.out], rfl⟩
    · have hk2 : k = len := by omega
      have Hk := Lib.hid hk2; clear hk2 hg hc hstep hbd
      go_wp2_with fail
      go_ret
      exact ⟨ret_i64 (by rw [Hk.out]), rfl⟩

def fstK (l : List Nat) (i : Nat) : Nat → Bool
  | 0 => true
  | k + 1 => if beforeF (at' l k) (at' l i) = true then false else fstK l i k
theorem fstK_iff (l : List Nat) (i k : Nat) : fstK l i k = true ↔ ∀ j, j < k → ¬ key (at' l j) < key (at' l i) := by
  induction k with
  | zero => simp [fstK]
  | succ k ih =>
    unfold fstK
    by_cases h : beforeF (at' l k) (at' l i) = true
    · rw [if_pos h]
      rw [before_key, decide_eq_true_eq] at h
      constructor
      · intro h2; cases h2
      · intro h2; exact absurd h (h2 k (by omega))
    · rw [if_neg h, ih]
      rw [before_key, decide_eq_true_eq] at h
      constructor
      · intro h2 j hj
        by_cases e : j = k
        · subst e; exact h
        · exact h2 j (by omega)
      · intro h2 j hj; exact h2 j (by omega)
theorem rbest_is (l : List Nat) (len i : Nat) (hi : i < len) (h1 : fstK l i len = true) (h2 : ∀ j, j < i → fstK l j len = false) : (i : Int) = bestK l len := by
  obtain ⟨a1, a2⟩ := bestK_least l len
  have b0 := bestK_pos l len (by omega)
  have b1 := bestK_bd l len
  rw [fstK_iff] at h1
  rcases Int.lt_trichotomy (i : Int) (bestK l len) with h | h | h
  · have := a2 i h
    have := h1 (bestK l len).toNat (by omega)
    omega
  · exact h
  · have e := h2 (bestK l len).toNat (by omega)
    have : fstK l (bestK l len).toNat len = true := by
      rw [fstK_iff]; intro j hj; have := a1 j hj; omega
    rw [this] at e; cases e
theorem rbest_none (l : List Nat) (len : Nat) (h2 : ∀ j, j < len → fstK l j len = false) : (-1 : Int) = bestK l len := by
  by_cases h : len = 0
  · subst h; rfl
  · obtain ⟨a1, a2⟩ := bestK_least l len
    have b0 := bestK_pos l len (by omega)
    have b1 := bestK_bd l len
    have e := h2 (bestK l len).toNat (by omega)
    have : fstK l (bestK l len).toNat len = true := by
      rw [fstK_iff]; intro j hj; have := a1 j hj; omega
    rw [this] at e; cases e

set_option maxHeartbeats 1000000 in
theorem rbest_nil (ao : Option Addr) (cap : Nat) (w : World) :
    Calls Try.prog 19 #[.slice ao 0 cap] w fun e w' => e = .returned (.int .i64 (-1)) ∧ w = w' := by
  go_enter Try.func19, Try.ntmps19
  go_wp2_with fail
  refine wp_loop_rounds 1 ?_
  rw [rounds_succ]
  go_wp2_with fail
  go_ret
  exact ⟨rfl, rfl⟩

set_option maxHeartbeats 1000000 in
theorem rbest_pos (b off len cap : Nat) (l : List Nat) (w : World) (hl : len ≤ 9223372036854775807) (hc : ∀ j, j < len → w.cell? ⟨b, off + j, none⟩ = some (.float .f64 (at' l j))) :
    Calls Try.prog 19 #[.slice (some ⟨b, off, none⟩) len cap] w fun e w' => e = .returned (.int .i64 (bestK l len)) ∧ ∃ n, w' = w.drewN n := by
  have BW := fun a b w => (rbefore_walk a b w).mono fun _ _ h => And.intro h.1 h.2.symm
  replace BW := Lib.hid BW
  have HC := Lib.hid hc; clear hc
  go_enter Try.func19, Try.ntmps19
  go_wp2_with fail
  go_loopg [3, 4, 5] len (fun g v3 _ _ wr => ∃ i n : Nat, i ≤ len ∧ g = len - i ∧ v3 = .int .i64 i ∧ (∀ j, j < i → fstK l j len = false) ∧ wr = w.drewN n)
  case atStart => exact ⟨0, 0, Nat.zero_le _, rfl, rfl, fun j h => absurd h (by omega), rfl⟩
  case round =>
    obtain ⟨i, n, hi, hg, rfl, hf, hw⟩ := hrel
    have Hf := Lib.hid hf; have Hg := Lib.hid hg; clear hf hg
    have HW := Lib.hid hw; clear hw
    by_cases hlt : i < len
    · go_wp2_with fail
      go_loopg [4, 5] len (fun g v4 v5 wq => ∃ k n : Nat, k ≤ len ∧ g = len - k ∧ v5 = .int .i64 k ∧ v4 = .bool (fstK l i k) ∧ wq = w.drewN n)
      case atStart => exact ⟨0, _, Nat.zero_le _, rfl, rfl, rfl, HW.out⟩
      case round =>
        obtain ⟨k, n2, hk, hg2, rfl, rfl, hw2⟩ := hrel
        have Hg2 := Lib.hid hg2; clear hg2
        have hstep : fstK l i (k + 1) = if beforeF (at' l k) (at' l i) = true then false else fstK l i k := by rw [fstK]
        by_cases hkl : k < len
        · have hck := HC.out k hkl
          have hci := HC.out i hlt
          have e1 : ∀ a, (w.drewN n2).cell? a = w.cell? a := fun _ => rfl
          rw [← e1, ← hw2] at hck hci
          clear e1
          replace hw2 := Lib.hid hw2
          rcases hbf : beforeF (at' l k) (at' l i) with _ | _
          · rw [hbf, if_neg (by simp)] at hstep
            replace hstep := Lib.hid hstep
            go_wp2_with fail
            go_quiet ((go_at_call 17; exact Calls.quiet_of_same (BW.out _ _ _)))
            rw [hbf]
            go_wp2_with fail
            go_roundg (len - (k + 1))
            case measure => have := Hg2.out; omega
            case rel => exact ⟨k + 1, _, by omega, rfl, by go_num, by rw [hstep.out], by rw [hw2.out, World.drewN_drewN]⟩
          · rw [hbf, if_pos rfl] at hstep
            replace hstep := Lib.hid hstep
            go_wp2_with fail
            go_quiet ((go_at_call 17; exact Calls.quiet_of_same (BW.out _ _ _)))
            rw [hbf]
            go_wp2_with fail
            go_roundg (len - (k + 1))
            case measure => have := Hg2.out; omega
            case rel => exact ⟨k + 1, _, by omega, rfl, by go_num, by rw [hstep.out], by rw [hw2.out, World.drewN_drewN]⟩
        · have hk2 : k = len := by omega
          subst hk2
          clear hstep
          replace hw2 := Lib.hid hw2
          rcases hfs : fstK l i k with _ | _
          · replace hfs := Lib.hid hfs
            go_wp2_with fail
            go_roundg (k - (i + 1))
            case measure => have := Hg.out; omega
            case rel => exact ⟨i + 1, _, by omega, rfl, by go_num, fun j hj => by
                                  by_cases e : j = i
                                  · subst e; exact hfs.out
                                  · exact Hf.out j (by omega), hw2.out⟩
          · replace hfs := Lib.hid hfs
            go_wp2_with fail
            go_ret
            exact ⟨ret_i64 (rbest_is l k i hlt hfs.out Hf.out), _, hw2.out⟩
    · have hi2 : i = len := by omega
      subst hi2
      go_wp2_with fail
      go_ret
      exact ⟨ret_i64 (rbest_none l i Hf.out), _, HW.out⟩

end Go.Proofs.Ytingdfbolageeaa.Best
