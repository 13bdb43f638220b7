/-
  SmoothOrder: Before is an order, and Best its first least; the walk.
-/
import Derived.Test.YtingdfbolageeaaKnown
import Derived.Test.YtingdfbolageeaaFRow
import Derived.Deep.LoopGhost
set_option linter.unusedVariables false
namespace Go.Proofs.Ytingdfbolageeaa.Order
open Go.RowKit Go.Proofs.Ytingdfbolageeaa.Fl Go.Proofs.Ytingdfbolageeaa.Val Go.Proofs.Ytingdfbolageeaa.Rnd Go.Proofs.Ytingdfbolageeaa.Mn Go.Proofs.Ytingdfbolageeaa.Bef Go.Proofs.Ytingdfbolageeaa.Best Go.Proofs.Ytingdfbolageeaa.WaitW Go.Proofs.Ytingdfbolageeaa.Awake Go.Proofs.Ytingdfbolageeaa.Known Go.Proofs.Ytingdfbolageeaa.FRow

theorem aa (a : Nat) : beforeF a a = false := by rw [before_key]; simp
theorem ab_ba {a b : Nat} (h : beforeF a b = true) : beforeF b a = false := by
  rw [before_key, decide_eq_true_eq] at h
  rw [before_key]; simp; omega
theorem ab_bc {a b c : Nat} (h : beforeF a b = true) (h2 : beforeF b c = true) : beforeF a c = true := by
  rw [before_key, decide_eq_true_eq] at h h2
  rw [before_key]; simp; omega
/-- Two that are beside one another. -/
theorem beside {a b : Nat} (h : beforeF a b = false) (h2 : beforeF b a = false) : (isN a = true ∧ isN b = true) ∨ (FloatKind.f64.format.order a b != some .eq) = false := by
  rw [before_key, decide_eq_false_iff_not] at h h2
  have e : key a = key b := by omega
  unfold key at e
  rcases ha : isN a with _ | _
  · rcases hb : isN b with _ | _
    · right
      rw [ha, hb] at e
      simp only [Bool.false_eq_true, if_false] at e
      rw [show FloatKind.f64.format.order a b = F.order a b from rfl, order_E ha hb, e]
      unfold cmpZ; simp
    · rw [ha, hb] at e
      have := E_le ha
      simp only [Bool.false_eq_true, if_false, if_true] at e
      omega
  · rcases hb : isN b with _ | _
    · rw [ha, hb] at e
      have := E_le hb
      simp only [Bool.false_eq_true, if_false, if_true] at e
      omega
    · exact .inl ⟨rfl, rfl⟩

/-- What the slice says, past the first tests. -/
theorem best_any (a3 : Option Addr) (len cap : Nat) (w : World) (h : IsRow w a3 len cap) : Calls Try.prog 18 #[.slice a3 len cap] w fun e w' => (len = 0 → e = .returned (.int .i64 (-1))) ∧ (∃ l, e = .returned (.int .i64 (bestK l len))) ∧ w = w' := by
  rcases h with ⟨rfl, _⟩ | ⟨b, off, l, rfl, hb, hl, hc⟩
  · refine (best_nil _ _ _).mono ?_
    rintro e w' ⟨rfl, rfl⟩; exact ⟨fun _ => rfl, ⟨[], rfl⟩, rfl⟩
  · have : maxLen ≤ 9223372036854775807 := by decide
    refine (best_pos b off len cap l w (by omega) hc).mono ?_
    rintro e w' ⟨rfl, rfl⟩
    exact ⟨fun h => by subst h; rfl, ⟨l, rfl⟩, rfl⟩

set_option maxHeartbeats 4000000 in
set_option maxRecDepth 100000 in
theorem order_nil (a b c : Nat) (a3 : Option Addr) (cap : Nat) (w : World) :
    Calls Try.prog 9 #[.float .f64 a, .float .f64 b, .float .f64 c, .slice a3 0 cap] w fun e w' => e = .returned (.bool true) ∧ Below w.heap.size w w' := by
  have haa := aa a
  replace haa := Lib.hid haa
  go_enter Try.func9, Try.ntmps9
  go_wp2_with fail
  refine (known_any _).mono ?_; rintro e w1 ⟨rfl, hb⟩; replace hb := Lib.hid hb
  go_wp2_with fail
  refine (before_walk _ _ _).mono ?_; rintro e w2 ⟨rfl, rfl⟩; rw [haa.out]
  go_wp2_with fail
  refine (before_walk _ _ _).mono ?_; rintro e w2 ⟨rfl, rfl⟩
  rcases hab : beforeF a b with _ | _
  · replace hab := Lib.hid hab
    go_wp2_with fail
    refine (before_walk _ _ _).mono ?_; rintro e w2 ⟨rfl, rfl⟩; rw [hab.out]
    go_wp2_with fail
    refine (before_walk _ _ _).mono ?_; rintro e w2 ⟨rfl, rfl⟩; rw [hab.out]
    go_wp2_with fail
    refine (before_walk _ _ _).mono ?_; rintro e w2 ⟨rfl, rfl⟩
    rcases hba : beforeF b a with _ | _
    · rcases beside hab.out hba with ⟨na, nb⟩ | hne
      · replace hba := Lib.hid hba; replace na := Lib.hid na; replace nb := Lib.hid nb
        rcases hne : (FloatKind.f64.format.order a b != some .eq) with _ | _
        · go_wp2_with fail
          refine (best_nil _ _ _).mono ?_
          rintro e w4 ⟨rfl, rfl⟩
          go_wp2_with fail
          go_ret
          exact ⟨rfl, hb.out⟩
        · go_wp2_with fail
          refine (isNaN_walk _ _).mono ?_; rintro e w3 ⟨rfl, rfl⟩; rw [na.out]
          go_wp2_with fail
          refine (isNaN_walk _ _).mono ?_; rintro e w3 ⟨rfl, rfl⟩; rw [nb.out]
          go_wp2_with fail
          refine (best_nil _ _ _).mono ?_
          rintro e w4 ⟨rfl, rfl⟩
          go_wp2_with fail
          go_ret
          exact ⟨rfl, hb.out⟩
      · replace hba := Lib.hid hba
        go_wp2_with fail
        refine (best_nil _ _ _).mono ?_
        rintro e w4 ⟨rfl, rfl⟩
        go_wp2_with fail
        go_ret
        exact ⟨rfl, hb.out⟩
    · replace hba := Lib.hid hba
      go_wp2_with fail
      refine (best_nil _ _ _).mono ?_
      rintro e w4 ⟨rfl, rfl⟩
      go_wp2_with fail
      go_ret
      exact ⟨rfl, hb.out⟩
  · have hba := ab_ba hab
    replace hba := Lib.hid hba
    replace hab := Lib.hid hab
    go_wp2_with fail
    refine (before_walk _ _ _).mono ?_; rintro e w2 ⟨rfl, rfl⟩; rw [hba.out]
    go_wp2_with fail
    refine (before_walk _ _ _).mono ?_; rintro e w2 ⟨rfl, rfl⟩; rw [hab.out]
    go_wp2_with fail
    refine (before_walk _ _ _).mono ?_; rintro e w2 ⟨rfl, rfl⟩
    rcases hbc : beforeF b c with _ | _
    · replace hbc := Lib.hid hbc
      go_wp2_with fail
      refine (before_walk _ _ _).mono ?_; rintro e w2 ⟨rfl, rfl⟩; rw [hab.out]
      go_wp2_with fail
      refine (best_nil _ _ _).mono ?_
      rintro e w4 ⟨rfl, rfl⟩
      go_wp2_with fail
      go_ret
      exact ⟨rfl, hb.out⟩
    · have hac := ab_bc hab.out hbc
      replace hac := Lib.hid hac
      replace hbc := Lib.hid hbc
      go_wp2_with fail
      refine (before_walk _ _ _).mono ?_; rintro e w2 ⟨rfl, rfl⟩; rw [hac.out]
      go_wp2_with fail
      refine (before_walk _ _ _).mono ?_; rintro e w2 ⟨rfl, rfl⟩; rw [hab.out]
      go_wp2_with fail
      refine (best_nil _ _ _).mono ?_
      rintro e w4 ⟨rfl, rfl⟩
      go_wp2_with fail
      go_ret
      exact ⟨rfl, hb.out⟩

set_option maxHeartbeats 4000000 in
set_option maxRecDepth 100000 in
theorem order_long (a b c : Nat) (a3 : Option Addr) (len cap : Nat) (w : World) (hl : 100 < len) :
    Calls Try.prog 9 #[.float .f64 a, .float .f64 b, .float .f64 c, .slice a3 len cap] w fun e w' => e = .returned (.bool true) ∧ Below w.heap.size w w' := by
  have q0 : ¬ len = 0 := by omega
  have q1 : decide ((100 : Int) < (len : Int)) = true := decide_eq_true (by omega)
  have q2 : decide ((0 : Int) < (len : Int)) = true := decide_eq_true (by omega)
  replace hl := Lib.hid hl
  have haa := aa a
  replace haa := Lib.hid haa
  go_enter Try.func9, Try.ntmps9
  go_wp2_with fail
  refine (known_any _).mono ?_; rintro e w1 ⟨rfl, hb⟩; replace hb := Lib.hid hb
  go_wp2_with fail
  refine (before_walk _ _ _).mono ?_; rintro e w2 ⟨rfl, rfl⟩; rw [haa.out]
  go_wp2_with fail
  refine (before_walk _ _ _).mono ?_; rintro e w2 ⟨rfl, rfl⟩
  rcases hab : beforeF a b with _ | _
  · replace hab := Lib.hid hab
    go_wp2_with fail
    refine (before_walk _ _ _).mono ?_; rintro e w2 ⟨rfl, rfl⟩; rw [hab.out]
    go_wp2_with fail
    refine (before_walk _ _ _).mono ?_; rintro e w2 ⟨rfl, rfl⟩; rw [hab.out]
    go_wp2_with fail
    refine (before_walk _ _ _).mono ?_; rintro e w2 ⟨rfl, rfl⟩
    rcases hba : beforeF b a with _ | _
    · rcases beside hab.out hba with ⟨na, nb⟩ | hne
      · replace hba := Lib.hid hba; replace na := Lib.hid na; replace nb := Lib.hid nb
        rcases hne : (FloatKind.f64.format.order a b != some .eq) with _ | _
        · go_wp2_with fail
          go_ret
          exact ⟨rfl, hb.out⟩
        · go_wp2_with fail
          refine (isNaN_walk _ _).mono ?_; rintro e w3 ⟨rfl, rfl⟩; rw [na.out]
          go_wp2_with fail
          refine (isNaN_walk _ _).mono ?_; rintro e w3 ⟨rfl, rfl⟩; rw [nb.out]
          go_wp2_with fail
          go_ret
          exact ⟨rfl, hb.out⟩
      · replace hba := Lib.hid hba
        go_wp2_with fail
        go_ret
        exact ⟨rfl, hb.out⟩
    · replace hba := Lib.hid hba
      go_wp2_with fail
      go_ret
      exact ⟨rfl, hb.out⟩
  · have hba := ab_ba hab
    replace hba := Lib.hid hba
    replace hab := Lib.hid hab
    go_wp2_with fail
    refine (before_walk _ _ _).mono ?_; rintro e w2 ⟨rfl, rfl⟩; rw [hba.out]
    go_wp2_with fail
    refine (before_walk _ _ _).mono ?_; rintro e w2 ⟨rfl, rfl⟩; rw [hab.out]
    go_wp2_with fail
    refine (before_walk _ _ _).mono ?_; rintro e w2 ⟨rfl, rfl⟩
    rcases hbc : beforeF b c with _ | _
    · replace hbc := Lib.hid hbc
      go_wp2_with fail
      refine (before_walk _ _ _).mono ?_; rintro e w2 ⟨rfl, rfl⟩; rw [hab.out]
      go_wp2_with fail
      go_ret
      exact ⟨rfl, hb.out⟩
    · have hac := ab_bc hab.out hbc
      replace hac := Lib.hid hac
      replace hbc := Lib.hid hbc
      go_wp2_with fail
      refine (before_walk _ _ _).mono ?_; rintro e w2 ⟨rfl, rfl⟩; rw [hac.out]
      go_wp2_with fail
      refine (before_walk _ _ _).mono ?_; rintro e w2 ⟨rfl, rfl⟩; rw [hab.out]
      go_wp2_with fail
      go_ret
      exact ⟨rfl, hb.out⟩

/-- Best's place is before none, and none before it. -/
theorem best_facts (l : List Nat) (len q : Nat) (hq : bestK l len = q) : (∀ i, i < len → beforeF (at' l i) (at' l q) = false) ∧ (∀ i, i < q → beforeF (at' l q) (at' l i) = true) := by
  obtain ⟨h1, h2⟩ := bestK_least l len
  rw [hq, Int.toNat_natCast] at h1 h2
  constructor
  · intro i hi
    have := h1 i hi
    rw [before_key]; simp; omega
  · intro i hi
    have := h2 i (by omega)
    rw [before_key]; simp; omega

set_option maxHeartbeats 8000000 in
set_option maxRecDepth 100000 in
theorem order_pos (a b c : Nat) (blk off : Nat) (l : List Nat) (len cap q : Nat) (w : World) (hl0 : 0 < len) (hl : len ≤ 100) (hblk : blk < w.heap.size) (hq : bestK l len = q) (hql : q < len)
    (hc : ∀ j, j < len → w.cell? ⟨blk, off + j, none⟩ = some (.float .f64 (at' l j))) :
    Calls Try.prog 9 #[.float .f64 a, .float .f64 b, .float .f64 c, .slice (some ⟨blk, off, none⟩) len cap] w fun e w' => e = .returned (.bool true) ∧ Below w.heap.size w w' := by
  have q0 : ¬ len = 0 := by omega
  have q1 : decide ((100 : Int) < (len : Int)) = false := decide_eq_false (by omega)
  have q2 : decide ((len : Int) ≤ (q : Int)) = false := decide_eq_false (by omega)
  have hM : len ≤ 9223372036854775807 := by omega
  obtain ⟨F1, F2⟩ := best_facts l len q hq
  have HF1 := Lib.hid F1; have HF2 := Lib.hid F2; clear F1 F2
  replace hq := Lib.hid hq
  have HC := Lib.hid hc; clear hc
  have haa := aa a
  replace haa := Lib.hid haa
  go_enter Try.func9, Try.ntmps9
  go_wp2_with fail
  refine (known_any _).mono ?_; rintro e w1 ⟨rfl, hb⟩
  have HC1 := Lib.hid (fun j hj => (hb.cell (p := ⟨blk, off + j, none⟩) hblk).trans (HC.out j hj))
  replace hb := Lib.hid hb
  go_wp2_with fail
  refine (before_walk _ _ _).mono ?_; rintro e w2 ⟨rfl, rfl⟩; rw [haa.out]
  go_wp2_with fail
  refine (before_walk _ _ _).mono ?_; rintro e w2 ⟨rfl, rfl⟩
  rcases hab : beforeF a b with _ | _
  · replace hab := Lib.hid hab
    go_wp2_with fail
    refine (before_walk _ _ _).mono ?_; rintro e w2 ⟨rfl, rfl⟩; rw [hab.out]
    go_wp2_with fail
    refine (before_walk _ _ _).mono ?_; rintro e w2 ⟨rfl, rfl⟩; rw [hab.out]
    go_wp2_with fail
    refine (before_walk _ _ _).mono ?_; rintro e w2 ⟨rfl, rfl⟩
    rcases hba : beforeF b a with _ | _
    · rcases beside hab.out hba with ⟨na, nb⟩ | hne
      · replace hba := Lib.hid hba; replace na := Lib.hid na; replace nb := Lib.hid nb
        rcases hne : (FloatKind.f64.format.order a b != some .eq) with _ | _
        · go_wp2_with fail
          refine (best_pos blk off len cap l _ hM HC1.out).mono ?_; rintro e w4 ⟨rfl, rfl⟩; rw [hq.out]
          go_wp2_with fail
          go_loopg [11] len (fun g v11 wr => ∃ i n : Nat, i ≤ len ∧ g = len - i ∧ v11 = .int .i64 i ∧ wr = w1.drewN n)
          case atStart => exact ⟨0, 0, Nat.zero_le _, rfl, rfl, rfl⟩
          case round =>
            obtain ⟨i, n, hi, hg, rfl, hw⟩ := hrel
            have Hg := Lib.hid hg; clear hg
            by_cases hlt : i < len
            · have hci := HC1.out i hlt
              have hcq := HC1.out q hql
              have e1 : ∀ a, (w1.drewN n).cell? a = w1.cell? a := fun _ => rfl
              rw [← e1, ← hw] at hci hcq
              clear e1
              replace hw := Lib.hid hw
              have f1 := HF1.out i hlt
              by_cases hiq : i < q
              · have f2 := HF2.out i hiq
                have B1 := fun w => (before_walk (at' l i) (at' l q) w).mono fun e w' (h : e = .returned (.bool (beforeF (at' l i) (at' l q))) ∧ w = w') => And.intro h.1 h.2.symm
                have B2 := fun w => (before_walk (at' l q) (at' l i) w).mono fun e w' (h : e = .returned (.bool (beforeF (at' l q) (at' l i))) ∧ w = w') => And.intro h.1 h.2.symm
                rw [f1] at B1
                rw [f2] at B2
                clear f1 f2
                replace B1 := Lib.hid B1; replace B2 := Lib.hid B2
                go_wp2_with fail
                go_quiet ((go_at_call 16; with_reducible first | exact Calls.quiet_of_same (B1.out _) | exact Calls.quiet_of_same (B2.out _)))
                go_wp2_with fail
                go_roundg (len - (i + 1))
                case measure => have := Hg.out; omega
                case rel => exact ⟨i + 1, _, by omega, rfl, by go_num, by rw [hw.out, World.drewN_drewN]⟩
              · have B1 := fun w => (before_walk (at' l i) (at' l q) w).mono fun e w' (h : e = .returned (.bool (beforeF (at' l i) (at' l q))) ∧ w = w') => And.intro h.1 h.2.symm
                rw [f1] at B1
                clear f1
                replace B1 := Lib.hid B1
                go_wp2_with fail
                go_quiet ((go_at_call 16; exact Calls.quiet_of_same (B1.out _)))
                go_wp2_with fail
                go_roundg (len - (i + 1))
                case measure => have := Hg.out; omega
                case rel => exact ⟨i + 1, _, by omega, rfl, by go_num, by rw [hw.out, World.drewN_drewN]⟩
            · replace hw := Lib.hid hw
              go_wp2_with fail
              go_ret
              exact ⟨rfl, by rw [hw.out]; exact below_drewN hb.out _⟩
        · go_wp2_with fail
          refine (isNaN_walk _ _).mono ?_; rintro e w3 ⟨rfl, rfl⟩; rw [na.out]
          go_wp2_with fail
          refine (isNaN_walk _ _).mono ?_; rintro e w3 ⟨rfl, rfl⟩; rw [nb.out]
          go_wp2_with fail
          refine (best_pos blk off len cap l _ hM HC1.out).mono ?_; rintro e w4 ⟨rfl, rfl⟩; rw [hq.out]
          go_wp2_with fail
          go_loopg [11] len (fun g v11 wr => ∃ i n : Nat, i ≤ len ∧ g = len - i ∧ v11 = .int .i64 i ∧ wr = w1.drewN n)
          case atStart => exact ⟨0, 0, Nat.zero_le _, rfl, rfl, rfl⟩
          case round =>
            obtain ⟨i, n, hi, hg, rfl, hw⟩ := hrel
            have Hg := Lib.hid hg; clear hg
            by_cases hlt : i < len
            · have hci := HC1.out i hlt
              have hcq := HC1.out q hql
              have e1 : ∀ a, (w1.drewN n).cell? a = w1.cell? a := fun _ => rfl
              rw [← e1, ← hw] at hci hcq
              clear e1
              replace hw := Lib.hid hw
              have f1 := HF1.out i hlt
              by_cases hiq : i < q
              · have f2 := HF2.out i hiq
                have B1 := fun w => (before_walk (at' l i) (at' l q) w).mono fun e w' (h : e = .returned (.bool (beforeF (at' l i) (at' l q))) ∧ w = w') => And.intro h.1 h.2.symm
                have B2 := fun w => (before_walk (at' l q) (at' l i) w).mono fun e w' (h : e = .returned (.bool (beforeF (at' l q) (at' l i))) ∧ w = w') => And.intro h.1 h.2.symm
                rw [f1] at B1
                rw [f2] at B2
                clear f1 f2
                replace B1 := Lib.hid B1; replace B2 := Lib.hid B2
                go_wp2_with fail
                go_quiet ((go_at_call 16; with_reducible first | exact Calls.quiet_of_same (B1.out _) | exact Calls.quiet_of_same (B2.out _)))
                go_wp2_with fail
                go_roundg (len - (i + 1))
                case measure => have := Hg.out; omega
                case rel => exact ⟨i + 1, _, by omega, rfl, by go_num, by rw [hw.out, World.drewN_drewN]⟩
              · have B1 := fun w => (before_walk (at' l i) (at' l q) w).mono fun e w' (h : e = .returned (.bool (beforeF (at' l i) (at' l q))) ∧ w = w') => And.intro h.1 h.2.symm
                rw [f1] at B1
                clear f1
                replace B1 := Lib.hid B1
                go_wp2_with fail
                go_quiet ((go_at_call 16; exact Calls.quiet_of_same (B1.out _)))
                go_wp2_with fail
                go_roundg (len - (i + 1))
                case measure => have := Hg.out; omega
                case rel => exact ⟨i + 1, _, by omega, rfl, by go_num, by rw [hw.out, World.drewN_drewN]⟩
            · replace hw := Lib.hid hw
              go_wp2_with fail
              go_ret
              exact ⟨rfl, by rw [hw.out]; exact below_drewN hb.out _⟩
      · replace hba := Lib.hid hba
        go_wp2_with fail
        refine (best_pos blk off len cap l _ hM HC1.out).mono ?_; rintro e w4 ⟨rfl, rfl⟩; rw [hq.out]
        go_wp2_with fail
        go_loopg [11] len (fun g v11 wr => ∃ i n : Nat, i ≤ len ∧ g = len - i ∧ v11 = .int .i64 i ∧ wr = w1.drewN n)
        case atStart => exact ⟨0, 0, Nat.zero_le _, rfl, rfl, rfl⟩
        case round =>
          obtain ⟨i, n, hi, hg, rfl, hw⟩ := hrel
          have Hg := Lib.hid hg; clear hg
          by_cases hlt : i < len
          · have hci := HC1.out i hlt
            have hcq := HC1.out q hql
            have e1 : ∀ a, (w1.drewN n).cell? a = w1.cell? a := fun _ => rfl
            rw [← e1, ← hw] at hci hcq
            clear e1
            replace hw := Lib.hid hw
            have f1 := HF1.out i hlt
            by_cases hiq : i < q
            · have f2 := HF2.out i hiq
              have B1 := fun w => (before_walk (at' l i) (at' l q) w).mono fun e w' (h : e = .returned (.bool (beforeF (at' l i) (at' l q))) ∧ w = w') => And.intro h.1 h.2.symm
              have B2 := fun w => (before_walk (at' l q) (at' l i) w).mono fun e w' (h : e = .returned (.bool (beforeF (at' l q) (at' l i))) ∧ w = w') => And.intro h.1 h.2.symm
              rw [f1] at B1
              rw [f2] at B2
              clear f1 f2
              replace B1 := Lib.hid B1; replace B2 := Lib.hid B2
              go_wp2_with fail
              go_quiet ((go_at_call 16; with_reducible first | exact Calls.quiet_of_same (B1.out _) | exact Calls.quiet_of_same (B2.out _)))
              go_wp2_with fail
              go_roundg (len - (i + 1))
              case measure => have := Hg.out; omega
              case rel => exact ⟨i + 1, _, by omega, rfl, by go_num, by rw [hw.out, World.drewN_drewN]⟩
            · have B1 := fun w => (before_walk (at' l i) (at' l q) w).mono fun e w' (h : e = .returned (.bool (beforeF (at' l i) (at' l q))) ∧ w = w') => And.intro h.1 h.2.symm
              rw [f1] at B1
              clear f1
              replace B1 := Lib.hid B1
              go_wp2_with fail
              go_quiet ((go_at_call 16; exact Calls.quiet_of_same (B1.out _)))
              go_wp2_with fail
              go_roundg (len - (i + 1))
              case measure => have := Hg.out; omega
              case rel => exact ⟨i + 1, _, by omega, rfl, by go_num, by rw [hw.out, World.drewN_drewN]⟩
          · replace hw := Lib.hid hw
            go_wp2_with fail
            go_ret
            exact ⟨rfl, by rw [hw.out]; exact below_drewN hb.out _⟩
    · replace hba := Lib.hid hba
      go_wp2_with fail
      refine (best_pos blk off len cap l _ hM HC1.out).mono ?_; rintro e w4 ⟨rfl, rfl⟩; rw [hq.out]
      go_wp2_with fail
      go_loopg [11] len (fun g v11 wr => ∃ i n : Nat, i ≤ len ∧ g = len - i ∧ v11 = .int .i64 i ∧ wr = w1.drewN n)
      case atStart => exact ⟨0, 0, Nat.zero_le _, rfl, rfl, rfl⟩
      case round =>
        obtain ⟨i, n, hi, hg, rfl, hw⟩ := hrel
        have Hg := Lib.hid hg; clear hg
        by_cases hlt : i < len
        · have hci := HC1.out i hlt
          have hcq := HC1.out q hql
          have e1 : ∀ a, (w1.drewN n).cell? a = w1.cell? a := fun _ => rfl
          rw [← e1, ← hw] at hci hcq
          clear e1
          replace hw := Lib.hid hw
          have f1 := HF1.out i hlt
          by_cases hiq : i < q
          · have f2 := HF2.out i hiq
            have B1 := fun w => (before_walk (at' l i) (at' l q) w).mono fun e w' (h : e = .returned (.bool (beforeF (at' l i) (at' l q))) ∧ w = w') => And.intro h.1 h.2.symm
            have B2 := fun w => (before_walk (at' l q) (at' l i) w).mono fun e w' (h : e = .returned (.bool (beforeF (at' l q) (at' l i))) ∧ w = w') => And.intro h.1 h.2.symm
            rw [f1] at B1
            rw [f2] at B2
            clear f1 f2
            replace B1 := Lib.hid B1; replace B2 := Lib.hid B2
            go_wp2_with fail
            go_quiet ((go_at_call 16; with_reducible first | exact Calls.quiet_of_same (B1.out _) | exact Calls.quiet_of_same (B2.out _)))
            go_wp2_with fail
            go_roundg (len - (i + 1))
            case measure => have := Hg.out; omega
            case rel => exact ⟨i + 1, _, by omega, rfl, by go_num, by rw [hw.out, World.drewN_drewN]⟩
          · have B1 := fun w => (before_walk (at' l i) (at' l q) w).mono fun e w' (h : e = .returned (.bool (beforeF (at' l i) (at' l q))) ∧ w = w') => And.intro h.1 h.2.symm
            rw [f1] at B1
            clear f1
            replace B1 := Lib.hid B1
            go_wp2_with fail
            go_quiet ((go_at_call 16; exact Calls.quiet_of_same (B1.out _)))
            go_wp2_with fail
            go_roundg (len - (i + 1))
            case measure => have := Hg.out; omega
            case rel => exact ⟨i + 1, _, by omega, rfl, by go_num, by rw [hw.out, World.drewN_drewN]⟩
        · replace hw := Lib.hid hw
          go_wp2_with fail
          go_ret
          exact ⟨rfl, by rw [hw.out]; exact below_drewN hb.out _⟩
  · have hba := ab_ba hab
    replace hba := Lib.hid hba
    replace hab := Lib.hid hab
    go_wp2_with fail
    refine (before_walk _ _ _).mono ?_; rintro e w2 ⟨rfl, rfl⟩; rw [hba.out]
    go_wp2_with fail
    refine (before_walk _ _ _).mono ?_; rintro e w2 ⟨rfl, rfl⟩; rw [hab.out]
    go_wp2_with fail
    refine (before_walk _ _ _).mono ?_; rintro e w2 ⟨rfl, rfl⟩
    rcases hbc : beforeF b c with _ | _
    · replace hbc := Lib.hid hbc
      go_wp2_with fail
      refine (before_walk _ _ _).mono ?_; rintro e w2 ⟨rfl, rfl⟩; rw [hab.out]
      go_wp2_with fail
      refine (best_pos blk off len cap l _ hM HC1.out).mono ?_; rintro e w4 ⟨rfl, rfl⟩; rw [hq.out]
      go_wp2_with fail
      go_loopg [11] len (fun g v11 wr => ∃ i n : Nat, i ≤ len ∧ g = len - i ∧ v11 = .int .i64 i ∧ wr = w1.drewN n)
      case atStart => exact ⟨0, 0, Nat.zero_le _, rfl, rfl, rfl⟩
      case round =>
        obtain ⟨i, n, hi, hg, rfl, hw⟩ := hrel
        have Hg := Lib.hid hg; clear hg
        by_cases hlt : i < len
        · have hci := HC1.out i hlt
          have hcq := HC1.out q hql
          have e1 : ∀ a, (w1.drewN n).cell? a = w1.cell? a := fun _ => rfl
          rw [← e1, ← hw] at hci hcq
          clear e1
          replace hw := Lib.hid hw
          have f1 := HF1.out i hlt
          by_cases hiq : i < q
          · have f2 := HF2.out i hiq
            have B1 := fun w => (before_walk (at' l i) (at' l q) w).mono fun e w' (h : e = .returned (.bool (beforeF (at' l i) (at' l q))) ∧ w = w') => And.intro h.1 h.2.symm
            have B2 := fun w => (before_walk (at' l q) (at' l i) w).mono fun e w' (h : e = .returned (.bool (beforeF (at' l q) (at' l i))) ∧ w = w') => And.intro h.1 h.2.symm
            rw [f1] at B1
            rw [f2] at B2
            clear f1 f2
            replace B1 := Lib.hid B1; replace B2 := Lib.hid B2
            go_wp2_with fail
            go_quiet ((go_at_call 16; with_reducible first | exact Calls.quiet_of_same (B1.out _) | exact Calls.quiet_of_same (B2.out _)))
            go_wp2_with fail
            go_roundg (len - (i + 1))
            case measure => have := Hg.out; omega
            case rel => exact ⟨i + 1, _, by omega, rfl, by go_num, by rw [hw.out, World.drewN_drewN]⟩
          · have B1 := fun w => (before_walk (at' l i) (at' l q) w).mono fun e w' (h : e = .returned (.bool (beforeF (at' l i) (at' l q))) ∧ w = w') => And.intro h.1 h.2.symm
            rw [f1] at B1
            clear f1
            replace B1 := Lib.hid B1
            go_wp2_with fail
            go_quiet ((go_at_call 16; exact Calls.quiet_of_same (B1.out _)))
            go_wp2_with fail
            go_roundg (len - (i + 1))
            case measure => have := Hg.out; omega
            case rel => exact ⟨i + 1, _, by omega, rfl, by go_num, by rw [hw.out, World.drewN_drewN]⟩
        · replace hw := Lib.hid hw
          go_wp2_with fail
          go_ret
          exact ⟨rfl, by rw [hw.out]; exact below_drewN hb.out _⟩
    · have hac := ab_bc hab.out hbc
      replace hac := Lib.hid hac
      replace hbc := Lib.hid hbc
      go_wp2_with fail
      refine (before_walk _ _ _).mono ?_; rintro e w2 ⟨rfl, rfl⟩; rw [hac.out]
      go_wp2_with fail
      refine (before_walk _ _ _).mono ?_; rintro e w2 ⟨rfl, rfl⟩; rw [hab.out]
      go_wp2_with fail
      refine (best_pos blk off len cap l _ hM HC1.out).mono ?_; rintro e w4 ⟨rfl, rfl⟩; rw [hq.out]
      go_wp2_with fail
      go_loopg [11] len (fun g v11 wr => ∃ i n : Nat, i ≤ len ∧ g = len - i ∧ v11 = .int .i64 i ∧ wr = w1.drewN n)
      case atStart => exact ⟨0, 0, Nat.zero_le _, rfl, rfl, rfl⟩
      case round =>
        obtain ⟨i, n, hi, hg, rfl, hw⟩ := hrel
        have Hg := Lib.hid hg; clear hg
        by_cases hlt : i < len
        · have hci := HC1.out i hlt
          have hcq := HC1.out q hql
          have e1 : ∀ a, (w1.drewN n).cell? a = w1.cell? a := fun _ => rfl
          rw [← e1, ← hw] at hci hcq
          clear e1
          replace hw := Lib.hid hw
          have f1 := HF1.out i hlt
          by_cases hiq : i < q
          · have f2 := HF2.out i hiq
            have B1 := fun w => (before_walk (at' l i) (at' l q) w).mono fun e w' (h : e = .returned (.bool (beforeF (at' l i) (at' l q))) ∧ w = w') => And.intro h.1 h.2.symm
            have B2 := fun w => (before_walk (at' l q) (at' l i) w).mono fun e w' (h : e = .returned (.bool (beforeF (at' l q) (at' l i))) ∧ w = w') => And.intro h.1 h.2.symm
            rw [f1] at B1
            rw [f2] at B2
            clear f1 f2
            replace B1 := Lib.hid B1; replace B2 := Lib.hid B2
            go_wp2_with fail
            go_quiet ((go_at_call 16; with_reducible first | exact Calls.quiet_of_same (B1.out _) | exact Calls.quiet_of_same (B2.out _)))
            go_wp2_with fail
            go_roundg (len - (i + 1))
            case measure => have := Hg.out; omega
            case rel => exact ⟨i + 1, _, by omega, rfl, by go_num, by rw [hw.out, World.drewN_drewN]⟩
          · have B1 := fun w => (before_walk (at' l i) (at' l q) w).mono fun e w' (h : e = .returned (.bool (beforeF (at' l i) (at' l q))) ∧ w = w') => And.intro h.1 h.2.symm
            rw [f1] at B1
            clear f1
            replace B1 := Lib.hid B1
            go_wp2_with fail
            go_quiet ((go_at_call 16; exact Calls.quiet_of_same (B1.out _)))
            go_wp2_with fail
            go_roundg (len - (i + 1))
            case measure => have := Hg.out; omega
            case rel => exact ⟨i + 1, _, by omega, rfl, by go_num, by rw [hw.out, World.drewN_drewN]⟩
        · replace hw := Lib.hid hw
          go_wp2_with fail
          go_ret
          exact ⟨rfl, by rw [hw.out]; exact below_drewN hb.out _⟩

theorem smoothOrder_walk (a b c : Nat) (a3 : Option Addr) (len cap : Nat) (w : World) (h3 : IsRow w a3 len cap) :
    Calls Try.prog 9 #[.float .f64 a, .float .f64 b, .float .f64 c, .slice a3 len cap] w fun e w' => e = .returned (.bool true) ∧ Below w.heap.size w w' := by
  by_cases h0 : len = 0
  · subst h0; exact order_nil a b c a3 cap w
  · by_cases h1 : 100 < len
    · exact order_long a b c a3 len cap w h1
    · rcases h3 with h | ⟨blk, off, l, rfl, hb, hl, hc⟩
      · exact absurd h.1 h0
      · have b0 := bestK_pos l len (by omega)
        have b1 := bestK_bd l len
        exact order_pos a b c blk off l len cap (bestK l len).toNat w (by omega) (by omega) hb (by omega) (by omega) hc

end Go.Proofs.Ytingdfbolageeaa.Order
