/-
  The walk of SaturSums: true for every slice of numbers; nothing that was there is written.
-/
import Derived.Test.YtkeanadphamgnaaSums
import Derived.OpenShut
import Derived.Laws.AppendOwnNone
set_option linter.unusedVariables false
namespace Go.Proofs.Ytkeanadphamgnaa.SumsLaw
open Go.RowKit Go.ChangeShapes Go.Proofs.Ytkeanadphamgnaa.Num Go.Proofs.Ytkeanadphamgnaa.Sat

theorem Try.info3 : (Try.prog.info? 3).map (fun i => (i.zero, i.size, i.bytes)) = some (some (.int .i64 0), 1, 8) := by kernel_rfl

theorem own_cells {w : World} {base : Nat} {e : TypeId} {v : Value} {n : Nat} {xs : List Int} (h : w.ownsRow base e 1 v n (xs.map (Value.int .i64))) (hn : 0 < n) :
    ∃ g cap, v = .slice (some ⟨g, 0, none⟩) n cap ∧ base ≤ g ∧ ∀ j, j < n → w.cell? ⟨g, 0 + j, none⟩ = some (.int .i64 (xs.getD j 0)) := by
  have hl : xs.length = n := by have := h.1; simpa using this
  rcases h.2 with ⟨_, h0⟩ | ⟨g, cap, cur, rfl, hb, _⟩
  · omega
  · refine ⟨g, cap, rfl, hb, fun j hj => ?_⟩
    have hc := h.cells (g := g) rfl j (.int .i64 (xs.getD j 0)) (by rw [List.getElem?_map, List.getElem?_eq_getElem (by omega), List.getD_eq_getElem?_getD, List.getElem?_eq_getElem (by omega)]; rfl)
    have e : (⟨g, 0, none⟩ : Addr).add j = ⟨g, 0 + j, none⟩ := by unfold Addr.add; split <;> simp_all
    rw [← e]; exact hc

theorem news_cells {w : World} {b off len : Nat} {zs : List Int} (hz : len ≤ zs.length) (hc : ∀ j, j < zs.length → w.cell? ⟨b, off + j, none⟩ = some (.int .i64 (zs.getD j 0))) :
    ∀ j u, ((zs.take len).map (Value.int .i64))[j]? = some u → w.cell? ((⟨b, off, none⟩ : Addr).add j) = some u := by
  intro j u hj
  rw [List.getElem?_map] at hj
  obtain ⟨z, hzj, rfl⟩ := Option.map_eq_some_iff.1 hj
  have hjl : j < len := by
    have := (List.getElem?_eq_some_iff.1 hzj).1
    simp at this; omega
  rw [List.getElem?_take_of_lt hjl] at hzj
  have e : (⟨b, off, none⟩ : Addr).add j = ⟨b, off + j, none⟩ := by unfold Addr.add; split <;> simp_all
  rw [e, hc j (by omega), List.getD_eq_getElem?_getD, hzj]; rfl

set_option maxHeartbeats 2000000 in
theorem sums_pos (b off len cap : Nat) (zs : List Int) (w : World) (hb : b < w.heap.size) (h1 : 1 ≤ len) (h2 : len ≤ 1000) (hz : len ≤ zs.length) (hc : ∀ j, j < zs.length → w.cell? ⟨b, off + j, none⟩ = some (.int .i64 (zs.getD j 0))) :
    Calls Try.prog 6 #[.slice (some ⟨b, off, none⟩) len cap] w fun e w' => e = .returned (.bool true) ∧ Below w.heap.size w w' := by
  obtain ⟨i0, hi, hz0, hz1, hz2⟩ := info_parts Try.info3
  have hmade : (w.alloc (.cells #[] 3)).ownsRow w.heap.size 3 1 (.slice (some ⟨w.heap.size, 0, none⟩) 0 0) 0 [] := World.ownsRow_made w #[] 0 (Nat.le_refl _) (by unfold maxLen; omega) rfl
  have hnews : ∀ j u, ((zs.take len).map (Value.int .i64))[j]? = some u → (w.alloc (.cells #[] 3)).cell? ((⟨b, off, none⟩ : Addr).add j) = some u := by
    refine news_cells hz fun j hj => ?_
    rw [World.cell?_alloc_lt _ _ _ (by exact hb)]; exact hc j hj
  have hlen : ((zs.take len).map (Value.int .i64)).length = len * 1 := by simp; omega
  have hone : ∀ u ∈ (zs.take len).map (Value.int .i64), u.oneCell' = true := by
    intro u hu
    obtain ⟨z, _, rfl⟩ := List.mem_map.1 hu
    rfl
  obtain ⟨news, hnw⟩ : ∃ news, news = (zs.take len).map (Value.int .i64) := ⟨_, rfl⟩
  rw [← hnw] at hnews hlen hone
  have HN := Lib.hid hnw; have Hnews := Lib.hid hnews; have Hlen := Lib.hid hlen; have Hone := Lib.hid hone; have HC := Lib.hid hc
  clear hnw hnews hlen hone hc
  go_enter Try.func6, Try.ntmps6
  go_wp2_with (at_builtin; refine wpList_append_own _ rfl _ _ 28 rfl w.heap.size 3 i0 (.int .i64 0) 1 8 Try.underlying28 hi hz0 hz1 hz2 rfl (by decide) (.slice (some ⟨w.heap.size, 0, none⟩) 0 0) 0 [] rfl hmade ⟨b, off, none⟩ len cap news rfl Hlen.out Hnews.out Hone.out (by unfold maxLen; omega) (by omega) (by simp) ?_; intro v' w1 hown' hgrow _)
  have hbel : Below w.heap.size w w1 := ((Below.refl _ w).alloc (Nat.le_refl _) _).grown hgrow (by simp) (by intro k hk; have e : w.heap.size = k := (by simpa [Value.ownBlock] using hk); omega)
  simp only [Nat.zero_add, List.nil_append] at hown'
  rw [HN.out] at hown'
  obtain ⟨g, cap', rfl, hg, hcells⟩ := own_cells hown' (by omega)
  have hs1 : ∀ j, j < len → w1.cell? ⟨b, off + j, none⟩ = some (.int .i64 (zs.getD j 0)) := fun j hj => (hbel.cell (by exact hb)).trans (HC.out j (by omega))
  have htl : (zs.take len).length = len := by simp; omega
  have htt : (zs.take len).take len = zs.take len := by rw [List.take_take, Nat.min_self]
  have hget : ∀ j, j < len → (zs.take len).getD j 0 = zs.getD j 0 := fun j hj => by rw [List.getD_eq_getElem?_getD, List.getElem?_take_of_lt hj, List.getD_eq_getElem?_getD]
  have hin : ∀ j, j < len → w1.cell? ⟨g, 0 + j, none⟩ = some (.int .i64 (zs.getD j 0)) := fun j hj => by rw [hcells j hj, hget j hj]
  have Hin := Lib.hid hin; have Hs1 := Lib.hid hs1; have Hbel := Lib.hid hbel
  clear hown' hgrow hin hs1 hget hcells htl htt hbel
  refine (Sums.sum_pos g 0 len cap' zs w1 hz (by omega) Hin.out).mono ?_
  rintro e w' ⟨rfl, rfl⟩
  go_wp2_with (go_at_call 23; refine (Sums.rsum_pos b off len cap zs w1 hz (by omega) Hs1.out).mono ?_; rintro e w' ⟨rfl, rfl⟩)
  go_loopg [4] len (fun k v4 wr => ∃ i : Nat, i ≤ len ∧ k = len - i ∧ v4 = .int .i64 i ∧ ∃ n, wr = w1.drewN n)
  case atStart => exact ⟨0, Nat.zero_le _, rfl, rfl, 0, rfl⟩
  case round =>
    obtain ⟨i, hi1, hk, rfl, n, rfl⟩ := hrel
    by_cases hlt : i < len
    · have c1 := Hin.out i hlt
      have c2 := Hs1.out i hlt
      obtain ⟨z, hzz⟩ : ∃ z, z = zs.getD i 0 := ⟨_, rfl⟩
      rw [← hzz] at c1 c2
      simp only [Nat.zero_add] at c1
      have Hk := Lib.hid hk
      clear hzz hk
      have p1 : (0 : Int) ≤ (i : Int) := by omega
      have p2 : (i : Int) < (len : Int) := by omega
      go_wp2_with fail
      go_quiet (fail)
      go_wp2_with fail
      go_roundg (len - (i + 1))
      case measure => have := Hk.out; omega
      case rel => exact ⟨i + 1, by omega, rfl, by go_num, _, rfl⟩
    · have Hk := Lib.hid hk
      clear hk
      go_wp2_with (go_at_call 19; refine (Laws.awake_any _).mono ?_; rintro e w' ⟨rfl, m, rfl⟩)
      go_ret
      exact ⟨rfl, below_drewN Hbel.out _⟩

theorem sums_none (ao : Option Addr) (cap : Nat) (w : World) (h : ao = none ∧ cap = 0 ∨ ∃ x, ao = some x) :
    Calls Try.prog 6 #[.slice ao 0 cap] w fun e w' => e = .returned (.bool true) ∧ Below w.heap.size w w' := by
  obtain ⟨i0, hi, hz0, hz1, hz2⟩ := info_parts Try.info3
  have hmade : (w.alloc (.cells #[] 3)).ownsRow w.heap.size 3 1 (.slice (some ⟨w.heap.size, 0, none⟩) 0 0) 0 [] := World.ownsRow_made w #[] 0 (Nat.le_refl _) (by unfold maxLen; omega) rfl
  have hb0 : Below w.heap.size w (w.alloc (.cells #[] 3)) := (Below.refl _ w).alloc (Nat.le_refl _) _
  have Hb0 := Lib.hid hb0
  clear hb0
  rcases h with ⟨rfl, rfl⟩ | ⟨x, rfl⟩
  · go_enter Try.func6, Try.ntmps6
    go_wp2_with (first
      | (at_builtin; refine wpList_append_own_none _ rfl _ _ 28 rfl w.heap.size 3 i0 1 Try.underlying28 hi _ _ _ rfl hmade rfl ?_)
      | (go_at_call 22; refine (Sums.sum_nil _ _ _).mono ?_; rintro e w' ⟨rfl, rfl⟩)
      | (go_at_call 23; refine (Sums.rsum_nil _ _ _).mono ?_; rintro e w' ⟨rfl, rfl⟩))
    refine wp_loop_rounds 1 ?_
    rw [rounds_succ]
    go_wp2_with (go_at_call 19; refine (Laws.awake_any _).mono ?_; rintro e w' ⟨rfl, m, rfl⟩)
    go_ret
    exact ⟨rfl, below_drewN Hb0.out _⟩
  · go_enter Try.func6, Try.ntmps6
    go_wp2_with (at_builtin; refine wpList_append_own _ rfl _ _ 28 rfl w.heap.size 3 i0 (.int .i64 0) 1 8 Try.underlying28 hi hz0 hz1 hz2 rfl (by decide) (.slice (some ⟨w.heap.size, 0, none⟩) 0 0) 0 [] rfl hmade x 0 cap [] rfl rfl (by intro j u hj; simp at hj) (by intro u hu; simp at hu) (by unfold maxLen; omega) (by omega) (by simp) ?_; intro v' w1 hown' hgrow hnil)
    have hbel : Below w.heap.size w w1 := Hb0.out.grown hgrow (by simp) (by intro k hk; have e : w.heap.size = k := (by simpa [Value.ownBlock] using hk); omega)
    obtain ⟨ao', cap', rfl⟩ : ∃ ao' cap', v' = .slice ao' 0 cap' := by
      rcases hown'.2 with ⟨rfl, _⟩ | ⟨g, cap', cur, rfl, _⟩
      · exact ⟨_, _, rfl⟩
      · exact ⟨_, _, rfl⟩
    have Hbel := Lib.hid hbel
    clear hown' hgrow hnil hbel
    refine (Sums.sum_nil _ _ _).mono ?_
    rintro e w' ⟨rfl, rfl⟩
    go_wp2_with (go_at_call 23; refine (Sums.rsum_nil _ _ _).mono ?_; rintro e w' ⟨rfl, rfl⟩)
    refine wp_loop_rounds 1 ?_
    rw [rounds_succ]
    go_wp2_with (go_at_call 19; refine (Laws.awake_any _).mono ?_; rintro e w' ⟨rfl, m, rfl⟩)
    go_ret
    exact ⟨rfl, below_drewN Hbel.out _⟩

theorem saturSums_walk (a : Option Addr) (len cap : Nat) (zs : List Int) (w : World)
    (h : (a = none ∧ len = 0 ∧ cap = 0 ∧ zs = []) ∨ ∃ x, a = some x ∧ len ≤ cap ∧ cap ≤ maxLen ∧ zs.length = cap ∧ (∀ i, i < zs.length → w.cell? (x.add i) = some (.int .i64 (zs.getD i 0))) ∧ ∀ n ∈ zs, (Lit.int .i64 n).wf = true) :
    Calls Try.prog 6 #[.slice a len cap] w fun e w' => e = .returned (.bool true) ∧ Below w.heap.size w w' := by
  by_cases hbig : 1000 < len
  · have p : (1000 : Int) < (len : Int) := by omega
    clear h
    go_enter Try.func6, Try.ntmps6
    go_wp2_with (go_at_call 19; refine (Laws.awake_any _).mono ?_; rintro e w' ⟨rfl, m, rfl⟩)
    go_ret
    exact ⟨rfl, below_drewN (Below.refl _ w) _⟩
  · rcases h with ⟨rfl, rfl, rfl, _⟩ | ⟨x, rfl, hlc, hm, hz, hc, _⟩
    · exact sums_none none 0 w (.inl ⟨rfl, rfl⟩)
    · by_cases h0 : len = 0
      · subst h0
        exact sums_none (some x) cap w (.inr ⟨x, rfl⟩)
      · obtain ⟨b, off, rfl, hc'⟩ := ints_at hc (by omega)
        have hb : b < w.heap.size := World.block_lt_of_cell? w _ (hc' 0 (by omega))
        exact sums_pos b off len cap zs w hb (by omega) (by omega) (by omega) hc'

end Go.Proofs.Ytkeanadphamgnaa.SumsLaw
