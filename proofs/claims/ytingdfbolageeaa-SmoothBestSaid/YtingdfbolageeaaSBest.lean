/-
  The walk of SmoothBest: true for every slice of floats; nothing that was there is written.
-/
import Derived.Test.YtingdfbolageeaaFRow
import Derived.Test.YtingdfbolageeaaAwake
import Derived.Laws.AppendOwnNone
set_option linter.unusedVariables false
namespace Go.Proofs.Ytingdfbolageeaa.SBest
open Go.RowKit Go.ChangeShapes Go.Proofs.Ytingdfbolageeaa.Fl Go.Proofs.Ytingdfbolageeaa.Mn Go.Proofs.Ytingdfbolageeaa.Bef Go.Proofs.Ytingdfbolageeaa.Best Go.Proofs.Ytingdfbolageeaa.Awake Go.Proofs.Ytingdfbolageeaa.FRow

theorem Try.info22 : (Try.prog.info? 22).map (fun i => (i.zero, i.size, i.bytes)) = some (some (.float .f64 0), 1, 8) := by kernel_rfl

/-- The first of them. -/
def firstN (l : List Nat) (n : Nat) : List Nat := (List.range n).map (at' l)
theorem firstN_at {l : List Nat} {n j : Nat} (h : j < n) : at' (firstN l n) j = at' l j := by
  unfold firstN
  show ((List.range n).map (at' l)).getD j 0 = _
  rw [List.getD_eq_getElem?_getD, List.getElem?_map, List.getElem?_range h]; rfl
theorem bestK_first (l : List Nat) (n k : Nat) (h : k ≤ n) : bestK (firstN l n) k = bestK l k := by
  induction k with
  | zero => rfl
  | succ k ih =>
    have hb := bestK_bd l k
    unfold bestK
    rw [ih (by omega), firstN_at (by omega)]
    by_cases h0 : bestK l k < 0
    · rw [if_pos h0, if_pos h0]
    · rw [if_neg h0, if_neg h0, firstN_at (by omega)]

theorem own_cells {w : World} {base : Nat} {e : TypeId} {v : Value} {n : Nat} {xs : List Nat} (h : w.ownsRow base e 1 v n (xs.map (Value.float .f64))) (hn : 0 < n) :
    ∃ g cap, v = .slice (some ⟨g, 0, none⟩) n cap ∧ base ≤ g ∧ ∀ j, j < n → w.cell? ⟨g, 0 + j, none⟩ = some (.float .f64 (at' xs j)) := by
  have hl : xs.length = n := by have := h.1; simpa using this
  rcases h.2 with ⟨_, h0⟩ | ⟨g, cap, cur, rfl, hb, _⟩
  · omega
  · refine ⟨g, cap, rfl, hb, fun j hj => ?_⟩
    have hc := h.cells (g := g) rfl j (.float .f64 (at' xs j)) (by unfold at'; rw [List.getElem?_map, List.getElem?_eq_getElem (by omega), List.getD_eq_getElem?_getD, List.getElem?_eq_getElem (by omega)]; rfl)
    have e : (⟨g, 0, none⟩ : Addr).add j = ⟨g, 0 + j, none⟩ := by unfold Addr.add; split <;> simp_all
    rw [← e]; exact hc

theorem news_cells {w : World} {b off len : Nat} {l : List Nat} (hc : ∀ j, j < len → w.cell? ⟨b, off + j, none⟩ = some (.float .f64 (at' l j))) :
    ∀ j u, ((firstN l len).map (Value.float .f64))[j]? = some u → w.cell? ((⟨b, off, none⟩ : Addr).add j) = some u := by
  intro j u hj
  rw [List.getElem?_map] at hj
  obtain ⟨z, hzj, rfl⟩ := Option.map_eq_some_iff.1 hj
  have hjl : j < len := by
    have := (List.getElem?_eq_some_iff.1 hzj).1
    simpa [firstN] using this
  have e : (⟨b, off, none⟩ : Addr).add j = ⟨b, off + j, none⟩ := by unfold Addr.add; split <;> simp_all
  have hz : at' l j = z := by
    rw [← firstN_at (l := l) hjl]
    unfold at'
    rw [List.getD_eq_getElem?_getD, hzj]; rfl
  rw [e, hc j hjl, hz]

set_option maxHeartbeats 2000000 in
theorem sbest_pos (a c : Nat) (b off len cap : Nat) (l : List Nat) (w : World) (hb : b < w.heap.size) (h1 : 1 ≤ len) (h2 : len ≤ 200) (hc : ∀ j, j < len → w.cell? ⟨b, off + j, none⟩ = some (.float .f64 (at' l j))) :
    Calls Try.prog 4 #[.float .f64 a, .float .f64 c, .slice (some ⟨b, off, none⟩) len cap] w fun e w' => e = .returned (.bool true) ∧ Below w.heap.size w w' := by
  obtain ⟨i0, hi, hz0, hz1, hz2⟩ := info_parts Try.info22
  have hmade : (w.alloc (.cells #[] 22)).ownsRow w.heap.size 22 1 (.slice (some ⟨w.heap.size, 0, none⟩) 0 0) 0 [] := World.ownsRow_made w #[] 0 (Nat.le_refl _) (by unfold maxLen; omega) rfl
  have hnews : ∀ j u, ((firstN l len).map (Value.float .f64))[j]? = some u → (w.alloc (.cells #[] 22)).cell? ((⟨b, off, none⟩ : Addr).add j) = some u := by
    refine news_cells fun j hj => ?_
    rw [World.cell?_alloc_lt _ _ _ (by exact hb)]; exact hc j hj
  have hlen : ((firstN l len).map (Value.float .f64)).length = len * 1 := by simp [firstN]
  have hone : ∀ u ∈ (firstN l len).map (Value.float .f64), u.oneCell' = true := by
    intro u hu
    obtain ⟨z, _, rfl⟩ := List.mem_map.1 hu
    rfl
  obtain ⟨news, hnw⟩ : ∃ news, news = (firstN l len).map (Value.float .f64) := ⟨_, rfl⟩
  rw [← hnw] at hnews hlen hone
  have hbb : (bestK l len == bestK l len) = true := by simp
  have HN := Lib.hid hnw; have Hnews := Lib.hid hnews; have Hlen := Lib.hid hlen; have Hone := Lib.hid hone; have HC := Lib.hid hc
  clear hnw hnews hlen hone hc
  have q1 : decide ((200 : Int) < (len : Int)) = false := decide_eq_false (by omega)
  go_enter Try.func4, Try.ntmps4
  go_wp2_with (at_builtin; refine wpList_append_own _ rfl _ _ 29 rfl w.heap.size 22 i0 (.float .f64 0) 1 8 Try.underlying29 hi hz0 hz1 hz2 rfl (by decide) (.slice (some ⟨w.heap.size, 0, none⟩) 0 0) 0 [] rfl hmade ⟨b, off, none⟩ len cap news rfl Hlen.out Hnews.out Hone.out (by unfold maxLen; omega) (by omega) (by simp) ?_; intro v' w1 hown' hgrow _)
  have hbel : Below w.heap.size w w1 := ((Below.refl _ w).alloc (Nat.le_refl _) _).grown hgrow (by simp) (by intro k hk; have e : w.heap.size = k := (by simpa [Value.ownBlock] using hk); omega)
  simp only [Nat.zero_add, List.nil_append] at hown'
  rw [HN.out] at hown'
  obtain ⟨g, cap', rfl, hg, hcells⟩ := own_cells hown' (by omega)
  have hs1 : ∀ j, j < len → w1.cell? ⟨b, off + j, none⟩ = some (.float .f64 (at' l j)) := fun j hj => (hbel.cell (by exact hb)).trans (HC.out j (by omega))
  have hin : ∀ j, j < len → w1.cell? ⟨g, 0 + j, none⟩ = some (.float .f64 (at' l j)) := fun j hj => by rw [hcells j hj, firstN_at hj]
  have Hin := Lib.hid hin; have Hs1 := Lib.hid hs1; have Hbel := Lib.hid hbel
  clear hown' hgrow hin hs1 hcells hbel
  refine (before_walk _ _ _).mono ?_; rintro e w2 ⟨rfl, rfl⟩
  go_wp2_with fail
  refine (rbefore_walk _ _ _).mono ?_; rintro e w2 ⟨rfl, rfl⟩
  go_wp2_with fail
  refine (best_pos g 0 len cap' l w1 (by omega) Hin.out).mono ?_; rintro e w2 ⟨rfl, rfl⟩
  go_wp2_with fail
  refine (rbest_pos b off len cap l w1 (by omega) Hs1.out).mono ?_; rintro e w2 ⟨rfl, n2, hw2⟩
  replace hw2 := Lib.hid hw2
  go_wp2_with fail
  go_loopg [8] len (fun k v8 wr => ∃ i : Nat, i ≤ len ∧ k = len - i ∧ v8 = .int .i64 i ∧ ∃ n, wr = w1.drewN n)
  case atStart => exact ⟨0, Nat.zero_le _, rfl, rfl, _, hw2.out⟩
  case round =>
    obtain ⟨i, hi1, hk, rfl, n, hw⟩ := hrel
    have Hk := Lib.hid hk; clear hk
    by_cases hlt : i < len
    · have c1 := Hin.out i hlt
      have c2 := Hs1.out i hlt
      have e1 : ∀ a, (w1.drewN n).cell? a = w1.cell? a := fun _ => rfl
      rw [← e1, ← hw] at c1 c2
      clear e1
      replace hw := Lib.hid hw
      obtain ⟨z, hzz⟩ : ∃ z, z = at' l i := ⟨_, rfl⟩
      rw [← hzz] at c1 c2
      simp only [Nat.zero_add] at c1
      clear hzz
      have B1 := fun w => (same_walk z z w).mono fun e w' (h : e = .returned (.bool (sameF z z)) ∧ w = w') => And.intro h.1 h.2.symm
      rw [same_refl] at B1
      replace B1 := Lib.hid B1
      have p1 : (0 : Int) ≤ (i : Int) := by omega
      have p2 : (i : Int) < (len : Int) := by omega
      go_wp2_with fail
      go_quiet ((go_at_call 20; exact Calls.quiet_of_same (B1.out _)))
      go_wp2_with fail
      go_roundg (len - (i + 1))
      case measure => have := Hk.out; omega
      case rel => exact ⟨i + 1, by omega, rfl, by go_num, _, by rw [hw.out, World.drewN_drewN]⟩
    · replace hw := Lib.hid hw
      go_wp2_with fail
      refine (awake_any _).mono ?_; rintro e w3 ⟨rfl, hb3⟩
      have hb4 : Below w.heap.size w w3 := by
        have h5 : Below w.heap.size w (w1.drewN n) := below_drewN Hbel.out n
        rw [hw.out] at hb3
        exact h5.trans (hb3.mono h5.size)
      clear hb3; replace hb4 := Lib.hid hb4
      go_wp2_with fail
      go_ret
      exact ⟨rfl, hb4.out⟩

theorem sbest_none (a c : Nat) (ao : Option Addr) (cap : Nat) (w : World) (h : ao = none ∧ cap = 0 ∨ ∃ x, ao = some x) :
    Calls Try.prog 4 #[.float .f64 a, .float .f64 c, .slice ao 0 cap] w fun e w' => e = .returned (.bool true) ∧ Below w.heap.size w w' := by
  obtain ⟨i0, hi, hz0, hz1, hz2⟩ := info_parts Try.info22
  have hmade : (w.alloc (.cells #[] 22)).ownsRow w.heap.size 22 1 (.slice (some ⟨w.heap.size, 0, none⟩) 0 0) 0 [] := World.ownsRow_made w #[] 0 (Nat.le_refl _) (by unfold maxLen; omega) rfl
  have hb0 : Below w.heap.size w (w.alloc (.cells #[] 22)) := (Below.refl _ w).alloc (Nat.le_refl _) _
  have Hb0 := Lib.hid hb0
  clear hb0
  rcases h with ⟨rfl, rfl⟩ | ⟨x, rfl⟩
  · go_enter Try.func4, Try.ntmps4
    go_wp2_with (first | (at_builtin; refine wpList_append_own_none _ rfl _ _ 29 rfl w.heap.size 22 i0 1 Try.underlying29 hi _ _ _ rfl hmade rfl ?_) | (go_at_call 16; refine (before_walk _ _ _).mono ?_; rintro e w2 ⟨rfl, rfl⟩))
    refine (rbefore_walk _ _ _).mono ?_; rintro e w2 ⟨rfl, rfl⟩
    go_wp2_with fail
    refine (best_nil _ _ _).mono ?_; rintro e w2 ⟨rfl, rfl⟩
    go_wp2_with fail
    refine (rbest_nil _ _ _).mono ?_; rintro e w2 ⟨rfl, rfl⟩
    go_wp2_with fail
    refine wp_loop_rounds 1 ?_
    rw [rounds_succ]
    go_wp2_with fail
    refine (awake_any _).mono ?_; rintro e w3 ⟨rfl, hb3⟩
    have hb4 : Below w.heap.size w w3 := Hb0.out.trans (hb3.mono Hb0.out.size)
    clear hb3; replace hb4 := Lib.hid hb4
    go_wp2_with fail
    go_ret
    exact ⟨rfl, hb4.out⟩
  · go_enter Try.func4, Try.ntmps4
    go_wp2_with (at_builtin; refine wpList_append_own _ rfl _ _ 29 rfl w.heap.size 22 i0 (.float .f64 0) 1 8 Try.underlying29 hi hz0 hz1 hz2 rfl (by decide) (.slice (some ⟨w.heap.size, 0, none⟩) 0 0) 0 [] rfl hmade x 0 cap [] rfl rfl (by intro j u hj; simp at hj) (by intro u hu; simp at hu) (by unfold maxLen; omega) (by omega) (by simp) ?_; intro v' w1 hown' hgrow hnil)
    have hbel : Below w.heap.size w w1 := Hb0.out.grown hgrow (by simp) (by intro k hk; have e : w.heap.size = k := (by simpa [Value.ownBlock] using hk); omega)
    obtain ⟨ao', cap', rfl⟩ : ∃ ao' cap', v' = .slice ao' 0 cap' := by
      rcases hown'.2 with ⟨rfl, _⟩ | ⟨g, cap', cur, rfl, _⟩
      · exact ⟨_, _, rfl⟩
      · exact ⟨_, _, rfl⟩
    have Hbel := Lib.hid hbel
    clear hown' hgrow hnil hbel
    refine (before_walk _ _ _).mono ?_; rintro e w2 ⟨rfl, rfl⟩
    go_wp2_with fail
    refine (rbefore_walk _ _ _).mono ?_; rintro e w2 ⟨rfl, rfl⟩
    go_wp2_with fail
    refine (best_nil _ _ _).mono ?_; rintro e w2 ⟨rfl, rfl⟩
    go_wp2_with fail
    refine (rbest_nil _ _ _).mono ?_; rintro e w2 ⟨rfl, rfl⟩
    go_wp2_with fail
    refine wp_loop_rounds 1 ?_
    rw [rounds_succ]
    go_wp2_with fail
    refine (awake_any _).mono ?_; rintro e w3 ⟨rfl, hb3⟩
    have hb4 : Below w.heap.size w w3 := Hbel.out.trans (hb3.mono Hbel.out.size)
    clear hb3; replace hb4 := Lib.hid hb4
    go_wp2_with fail
    go_ret
    exact ⟨rfl, hb4.out⟩

theorem smoothBest_walk (a c : Nat) (a3 : Option Addr) (len cap : Nat) (w : World) (h3 : IsRow w a3 len cap) :
    Calls Try.prog 4 #[.float .f64 a, .float .f64 c, .slice a3 len cap] w fun e w' => e = .returned (.bool true) ∧ Below w.heap.size w w' := by
  by_cases hbig : 200 < len
  · have p : decide ((200 : Int) < (len : Int)) = true := decide_eq_true (by omega)
    clear h3
    go_enter Try.func4, Try.ntmps4
    go_wp2_with fail
    refine (awake_any _).mono ?_; rintro e w3 ⟨rfl, hb3⟩; replace hb3 := Lib.hid hb3
    go_wp2_with fail
    go_ret
    exact ⟨rfl, hb3.out⟩
  · by_cases h0 : len = 0
    · subst h0
      refine sbest_none a c a3 cap w ?_
      rcases h3 with h | ⟨b, off, l, rfl, hb, hl, hc⟩
      · exact h.2
      · exact .inr ⟨_, rfl⟩
    · rcases h3 with h | ⟨b, off, l, rfl, hb, hl, hc⟩
      · exact absurd h.1 h0
      · exact sbest_pos a c b off len cap l w hb (by omega) (by omega) hc

end Go.Proofs.Ytingdfbolageeaa.SBest
