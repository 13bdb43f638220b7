/-
  The walk of BucketBound: within any time at most the burst and the rate times it are taken.
-/
import Derived.Test.YthjoflhjiaadhaaBoundNum
import Derived.Test.YthjoflhjiaadhaaBktLaws
import Derived.Test.YthjoflhjiaadhaaTab
import Derived.Maps.AppendAt
import Derived.Deep.AppendLies
import Derived.Deep.DeepCutAuto
import Derived.Deep.CutBlock
import Derived.Deep.LoopGhost
set_option linter.unusedVariables false
namespace Go.Proofs.Ythjoflhjiaadhaa.BktBound
open Go.RowKit Go.Proofs.Ythjoflhjiaadhaa.Num Go.Proofs.Ythjoflhjiaadhaa.Bkt Go.Proofs.Ythjoflhjiaadhaa.BktLaws Go.Proofs.Ythjoflhjiaadhaa.Tab Go.Proofs.Ythjoflhjiaadhaa.BoundNum

theorem info_int : (Try.prog.info? 3).map (fun i => (i.zero, i.size, i.bytes)) = some (some (.int .i64 0), 1, 8) := by kernel_rfl

abbrev ints (l : List Int) : List Value := l.map (Value.int .i64)

/-- The bucket, and the two lists that the call writes. -/
structure Mem (W w : World) (B : Nat) (r bu t a : Int) (va vt : Value) (ats took : List Int) : Prop where
  own : Own W w B r bu t a
  ra : w.ownsRow W.heap.size 3 1 va ats.length (ats.map (Value.int .i64))
  rt : w.ownsRow W.heap.size 3 1 vt took.length (took.map (Value.int .i64))
  apart : ∀ k, va.ownBlock = some k → vt.ownBlock ≠ some k
  nba : va.ownBlock ≠ some B
  nbt : vt.ownBlock ≠ some B

theorem or_of_ne {a b : Option Nat} (h : ∀ k, a = some k → b ≠ some k) : a = none ∨ a ≠ b := by
  cases a with
  | none => exact .inl rfl
  | some k => exact .inr fun e => h k rfl e.symm

theorem Mem.start {W w : World} {B : Nat} {r bu t a : Int} (h : Own W w B r bu t a) : Mem W w B r bu t a (.slice none 0 0) (.slice none 0 0) [] [] :=
  ⟨h, World.ownsRow_nil _ _ _ _, World.ownsRow_nil _ _ _ _, fun k hk => by simp [Value.ownBlock] at hk, by simp [Value.ownBlock], by simp [Value.ownBlock]⟩

theorem Mem.step {W w w' : World} {B : Nat} {r bu t a t' a' : Int} {va vt : Value} {ats took : List Int} (h : Mem W w B r bu t a va vt ats took) (hp : Post w w' B r bu t' a') (ok : Ok r bu t' a') : Mem W w' B r bu t' a' va vt ats took :=
  ⟨h.own.step ⟨hp, ok⟩, h.ra.kept hp.2 (.inr h.nba), h.rt.kept hp.2 (.inr h.nbt), h.apart, h.nba, h.nbt⟩

theorem own_grown {W w w' : World} {B : Nat} {r bu t a : Int} {row : Option Nat} (h : Own W w B r bu t a) (hg : w.grownBy w' row) (hne : row ≠ some B) (hge : ∀ k, row = some k → W.heap.size ≤ k) : Own W w' B r bu t a :=
  ⟨by have k := h.bk; unfold Bk at k ⊢; rw [hg.block B (lt_of_block k) (fun e => hne e.symm)]; exact k, h.ok, h.below.grown hg h.below.size hge, h.ge⟩

/-- Behind 'append(at, x)'. -/
theorem Mem.appA {W w w1 : World} {B : Nat} {r bu t a : Int} {va vt va' : Value} {ats took : List Int} (h : Mem W w B r bu t a va vt ats took) (x : Int) (o : Obj)
    (ho : w1.ownsRow W.heap.size 3 1 va' (ats.length + 1) (ats.map (Value.int .i64) ++ [.int .i64 x])) (hg : (w.alloc o).grownBy w1 va.ownBlock) (hb : va'.ownBlock = va.ownBlock ∨ va'.ownBlock = some (w.heap.size + 1)) :
    Mem W w1 B r bu t a va' vt (ats ++ [x]) took := by
  have hlt := lt_of_block h.own.bk
  have h0 : Own W (w.alloc o) B r bu t a := h.own.kept ((Below.refl _ _).alloc (Nat.le_refl _) _)
  have hsz : (w.alloc o).heap.size = w.heap.size + 1 := by simp
  refine ⟨own_grown h0 hg h.nba (fun k hk => (h.ra.lt k hk).1), by simpa using ho, (h.rt.alloc o).kept hg ?_, ?_, ?_, h.nbt⟩
  · refine or_of_ne fun k hk e => h.apart k e hk
  · intro k hk e
    rcases hb with hb | hb
    · exact h.apart k (hb ▸ hk) e
    · rw [hb, Option.some.injEq] at hk
      have := (h.rt.lt k e).2
      omega
  · intro e
    rcases hb with hb | hb
    · exact h.nba (hb ▸ e)
    · rw [hb, Option.some.injEq] at e
      omega
theorem Mem.appT {W w w1 : World} {B : Nat} {r bu t a : Int} {va vt vt' : Value} {ats took : List Int} (h : Mem W w B r bu t a va vt ats took) (x : Int) (o : Obj)
    (ho : w1.ownsRow W.heap.size 3 1 vt' (took.length + 1) (took.map (Value.int .i64) ++ [.int .i64 x])) (hg : (w.alloc o).grownBy w1 vt.ownBlock) (hb : vt'.ownBlock = vt.ownBlock ∨ vt'.ownBlock = some (w.heap.size + 1)) :
    Mem W w1 B r bu t a va vt' ats (took ++ [x]) := by
  have hlt := lt_of_block h.own.bk
  have h0 : Own W (w.alloc o) B r bu t a := h.own.kept ((Below.refl _ _).alloc (Nat.le_refl _) _)
  have hsz : (w.alloc o).heap.size = w.heap.size + 1 := by simp
  refine ⟨own_grown h0 hg h.nbt (fun k hk => (h.rt.lt k hk).1), (h.ra.alloc o).kept hg ?_, by simpa using ho, ?_, h.nba, ?_⟩
  · exact or_of_ne h.apart
  · intro k hk e
    rcases hb with hb | hb
    · exact h.apart k hk (hb ▸ e)
    · rw [hb, Option.some.injEq] at e
      have := (h.ra.lt k hk).2
      omega
  · intro e
    rcases hb with hb | hb
    · exact h.nbt (hb ▸ e)
    · rw [hb, Option.some.injEq] at e
      omega

theorem old_cell {W w : World} (hb : Below W.heap.size W w) {p : Addr} {v : Value} (hp : W.cell? p = some v) : w.cell? p = some v :=
  (hb.cell (World.block_lt_of_cell? W p hp)).trans hp

theorem ask_at {W : World} {a : Option Addr} {len : Nat} (h : IsTab W a len 2) (hl : 0 < len) : ∃ b off, a = some ⟨b, off, none⟩ ∧ len ≤ maxLen ∧
    ∀ i, i < len → ∃ n k : Int, W.cell? ⟨b, off + i * 2, none⟩ = some (.int .i64 n) ∧ W.cell? ⟨b, off + i * 2 + 1, none⟩ = some (.int .i64 k) ∧ -9223372036854775808 ≤ n ∧ n ≤ 9223372036854775807 ∧ -9223372036854775808 ≤ k ∧ k ≤ 9223372036854775807 := by
  rcases h with ⟨_, h⟩ | h | ⟨b, off, ha, _, hm, hc⟩
  · omega
  · omega
  · refine ⟨b, off, ha, hm, fun i hi => ?_⟩
    have h0 := hc i hi 0 (by omega)
    have h1 := hc i hi 1 (by omega)
    exact ⟨_, _, h0.1, h1.1, h0.2.1, h0.2.2, h1.2.1, h1.2.2⟩

theorem row_form {w : World} {base : Nat} {e : TypeId} {v : Value} {xs : List Int} (h : w.ownsRow base e 1 v xs.length (xs.map (Value.int .i64))) : ∃ ao cap, v = .slice ao xs.length cap := by
  rcases h.2 with ⟨rfl, h0⟩ | ⟨g, cap, cur, rfl, _⟩
  · exact ⟨none, 0, by rw [h0]⟩
  · exact ⟨_, _, rfl⟩
theorem row_cells {w : World} {base : Nat} {e : TypeId} {v : Value} {xs : List Int} (h : w.ownsRow base e 1 v xs.length (xs.map (Value.int .i64))) (hn : 0 < xs.length) :
    ∃ g cap, v = .slice (some ⟨g, 0, none⟩) xs.length cap ∧ ∀ j, j < xs.length → w.cell? ⟨g, j, none⟩ = some (.int .i64 (xs.getD j 0)) := by
  rcases h.2 with ⟨_, h0⟩ | ⟨g, cap, cur, rfl, hb, _⟩
  · omega
  · refine ⟨g, cap, rfl, fun j hj => ?_⟩
    have hc := h.cells (g := g) rfl j (.int .i64 (xs.getD j 0)) (by rw [List.getElem?_map, List.getElem?_eq_getElem hj, List.getD_eq_getElem?_getD, List.getElem?_eq_getElem hj]; rfl)
    have e : (⟨g, 0, none⟩ : Addr).add j = ⟨g, j, none⟩ := by unfold Addr.add; split <;> simp_all
    rw [← e]; exact hc

set_option maxHeartbeats 16000000 in
set_option maxRecDepth 100000 in
theorem bound_good (rate burst now : Int) (a3 : Option Addr) (len3 cap3 : Nat) (w : World) (r0 : 0 ≤ rate) (r1 : rate ≤ 1073741824) (b0 : 0 ≤ burst) (b1 : burst ≤ 1073741824) (n0 : 0 ≤ now) (n1 : now ≤ 1073741824)
    (h3 : IsTab w a3 len3 2) (l3 : len3 ≤ 60) :
    Calls Try.prog 3 #[.int .i64 rate, .int .i64 burst, .int .i64 now, .slice a3 len3 cap3] w fun e w' => e = .returned (.bool true) ∧ Below w.heap.size w w' := by
  have H3 := Lib.hid h3
  clear h3
  obtain ⟨i0, hi, hz0, hz1, hz2⟩ := info_parts info_int
  have HI := Lib.hid hi
  go_enter Try.func3, Try.ntmps3
  go_wp2_with fail
  refine (bucketKnown_walk _).mono ?_
  rintro e w1 ⟨rfl, hb⟩
  replace hb := Lib.hid hb
  go_wp2_with fail
  refine (new_good rate burst now _ r0 (by omega) b0 (by omega) n0 (by omega)).mono ?_
  rintro e w2 ⟨rfl, hw2⟩
  have h1 : Own w w2 w1.heap.size rate burst burst now := by rw [hw2]; exact Own.made hb.out r0 (by omega) b0 (by omega) n0 (by omega)
  obtain ⟨B, hB⟩ : ∃ B, B = w1.heap.size := ⟨_, rfl⟩
  rw [← hB] at h1
  rw [← hB]
  have hM := Lib.hid (Mem.start h1)
  clear hw2 hB hb h1
  go_wp2_with fail
  go_loopg [2, 12, 13, 14] len3 (fun g v2 v12 v13 v14 wr => ∃ (k : Nat) (t a now' : Int) (va vt : Value) (ats took : List Int), k ≤ len3 ∧ g = len3 - k ∧ v2 = .int .i64 now' ∧ va = v12 ∧ vt = v13 ∧ v14 = .int .i64 k ∧
    Mem w wr B rate burst t a va vt ats took ∧ Inv rate burst t a ats took ∧ a ≤ now' ∧ 0 ≤ now' ∧ now' ≤ 1073741824 + k * 1048576 ∧ took.length ≤ k)
  case atStart => exact ⟨0, burst, now, now, _, _, [], [], Nat.zero_le _, rfl, rfl, rfl, rfl, rfl, hM.out, Inv.start _ _ _ _, Int.le_refl _, n0, by omega, Nat.le_refl _⟩
  case round =>
    clear hM
    obtain ⟨k, t, a, now', va, vt, ats, took, hk, hg, rfl, rfl, rfl, rfl, hm, hinv, han, hn0, hn1, htk⟩ := hrel
    have Hg := Lib.hid hg
    clear hg
    by_cases hlt : k < len3
    · obtain ⟨b, off, rfl, hmax, hc⟩ := ask_at H3.out (by omega)
      obtain ⟨n, d, c0, c1, _, _, _, _⟩ := hc k hlt
      have c0' := old_cell hm.own.below c0
      have c1' := old_cell hm.own.below c1
      have HC0 := Lib.hid c0
      have HMm := Lib.hid hm
      have HInv := Lib.hid hinv
      clear c0 c1 hc hm hinv
      rcases (show d < 0 ∨ (0 ≤ d ∧ 1048576 < d) ∨ (0 ≤ d ∧ d ≤ 1048576) by omega) with hd | ⟨hd, hd'⟩ | ⟨hd, hd'⟩
      · go_wp2_with fail
        go_ret
        exact ⟨rfl, HMm.out.own.below⟩
      · go_wp2_with fail
        go_ret
        exact ⟨rfl, HMm.out.own.below⟩
      · go_wp2_with fail
        have hok := HMm.out.own.ok
        have hN := HInv.out.took_no (n := n) (now := now' + d) hok (by omega) (by omega)
        have hY := HInv.out.took_yes (n := n) (now := now' + d) hok (by omega) (by omega)
        refine (take_any B rate burst t a n (now' + d) _ HMm.out.own.bk hok).mono ?_
        rintro e w3 ⟨rfl, hp⟩
        have hm3 := HMm.out.step hp (hok.take n (now' + d))
        obtain ⟨t2, ht2⟩ : ∃ x, takeT rate burst t a n (now' + d) = x := ⟨_, rfl⟩
        obtain ⟨a2, ha2⟩ : ∃ x, takeA a n (now' + d) = x := ⟨_, rfl⟩
        rw [ht2, ha2] at hm3 hN hY
        cases hbb : takeB rate burst t a n (now' + d) with
        | false =>
          obtain ⟨inv2, hle⟩ := hN hbb
          have HM3 := Lib.hid hm3
          have HI2 := Lib.hid inv2
          clear hm3 inv2 hN hY hp hok ht2 ha2 hbb
          go_wp2_with fail
          go_roundg (len3 - (k + 1))
          case measure => have := Hg.out; omega
          case rel => exact ⟨k + 1, t2, a2, now' + d, va, vt, ats, took, by omega, rfl, rfl, rfl, rfl, by go_num, HM3.out, HI2.out, hle, by omega, by omega, by omega⟩
        | true =>
          obtain ⟨inv2, rfl⟩ := hY hbb
          have hc0w : w3.cell? ⟨b, off + k * 2, none⟩ = some (.int .i64 n) := old_cell hm3.own.below HC0.out
          have HC0w := Lib.hid hc0w
          have hra := hm3.ra
          have hsz := hm3.own.below.size
          have hlenA : ats.length ≤ 60 := by have := HInv.out.len; omega
          have hlenT : took.length ≤ 60 := by omega
          have HM3 := Lib.hid hm3
          have HI2 := Lib.hid inv2
          clear hm3 inv2 hN hY hp hok ht2 hbb
          go_wp2_with (at_builtin; refine wpList_append_own_at _ rfl (.tmp 96) (.tmp 98) 28 rfl w.heap.size 3 i0 (.int .i64 0) 1 8 Try.underlying28 HI.out hz0 hz1 hz2 rfl (by decide) va ats.length (ats.map (Value.int .i64)) rfl (hra.alloc _) ⟨w3.heap.size, 0, none⟩ 1 1 [.int .i64 (now' + d)] rfl rfl ?c1 ?c2 (by unfold maxLen; omega) (by omega) (by simp; omega) ?_)
          case c1 =>
            intro j u hj
            match j, hj with
            | 0, hj => simp at hj; subst hj; simp [Addr.add]
          case c2 => intro u hu; simp at hu; subst hu; rfl
          intro va2 w4 hown hgrow _ hblk
          have hm4 := HM3.out.appA (now' + d) _ hown hgrow hblk
          have hc4 : w4.cell? ⟨b, off + k * 2, none⟩ = some (.int .i64 n) := old_cell hm4.own.below HC0.out
          have hrt := hm4.rt
          have hsz4 := hm4.own.below.size
          have HM4 := Lib.hid hm4
          clear hown hgrow hblk hra hm4 hsz
          go_wp2_with (at_builtin; refine wpList_append_own_at _ rfl (.tmp 100) (.tmp 106) 28 rfl w.heap.size 3 i0 (.int .i64 0) 1 8 Try.underlying28 HI.out hz0 hz1 hz2 rfl (by decide) vt took.length (took.map (Value.int .i64)) rfl (hrt.alloc _) ⟨w4.heap.size, 0, none⟩ 1 1 [.int .i64 n] rfl rfl ?c3 ?c4 (by unfold maxLen; omega) (by omega) (by simp; omega) ?_)
          case c3 =>
            intro j u hj
            match j, hj with
            | 0, hj => simp at hj; subst hj; simp [Addr.add]
          case c4 => intro u hu; simp at hu; subst hu; rfl
          intro vt2 w5 hown hgrow _ hblk
          have hm5 := HM4.out.appT n _ hown hgrow hblk
          have HM5 := Lib.hid hm5
          clear hown hgrow hblk hrt hm5 hsz4
          go_wp2_with fail
          go_roundg (len3 - (k + 1))
          case measure => have := Hg.out; omega
          case rel => exact ⟨k + 1, t2, now' + d, now' + d, va2, vt2, ats ++ [now' + d], took ++ [n], by omega, rfl, rfl, rfl, rfl, by go_num, HM5.out, HI2.out, Int.le_refl _, by omega, by omega, by simp; omega⟩
    · have hbel := hm.own.below
      have hla := hinv.len
      have HBel := Lib.hid hbel
      have HInv := Lib.hid hinv
      by_cases h0 : took.length = 0
      · obtain ⟨ao, cap, rfl⟩ := row_form hm.ra
        have hl0 : ats.length = 0 := by omega
        clear hm hinv hbel hla
        go_wp2_with fail
        refine wp_loop_rounds 1 ?_
        rw [rounds_succ]
        go_wp2_with fail
        go_ret
        exact ⟨rfl, HBel.out⟩
      · obtain ⟨ga, ca, rfl, hca⟩ := row_cells hm.ra (by omega)
        obtain ⟨gt, ct, rfl, hct⟩ := row_cells hm.rt (by omega)
        have HCA := Lib.hid hca
        have HCT := Lib.hid hct
        have HLA := Lib.hid hla
        have hm60 : took.length ≤ 60 := by omega
        have hma : ats.length ≤ 60 := by omega
        clear hm hinv hbel hla hca hct
        have a31 : a ≤ 2147483648 := by omega
        obtain ⟨wo, rfl⟩ : ∃ wo : World, wo = wr := ⟨_, rfl⟩
        go_wp2_with fail
        go_loopg [15, 16, 17] ats.length (fun g v15 v16 v17 w2 => ∃ (i n : Nat), i ≤ ats.length ∧ g = ats.length - i ∧ v15 = .int .i64 i ∧ w2 = wo.drewN n)
        case atStart => exact ⟨0, 0, Nat.zero_le _, rfl, rfl, rfl⟩
        case round =>
          obtain ⟨i, nd, hi1, hgi, rfl, rfl⟩ := hrel
          have Hgi := Lib.hid hgi
          clear hgi
          by_cases hil : i < ats.length
          · go_wp2_with fail
            go_loopg [16, 17] (ats.length - i) (fun g v16 v17 w2 => ∃ (k n : Nat), i ≤ k ∧ k ≤ ats.length ∧ g = ats.length - k ∧ v16 = .int .i64 (S took i k) ∧ v17 = .int .i64 k ∧ w2 = wo.drewN n)
            case atStart => exact ⟨i, nd, Nat.le_refl _, hi1, rfl, by rw [S_same], rfl, rfl⟩
            case round =>
              obtain ⟨kk, nd2, hik, hkl, hgk, rfl, rfl, rfl⟩ := hrel
              have Hgk := Lib.hid hgk
              clear hgk
              by_cases hkm : kk < ats.length
              · have hkt : kk < took.length := by rw [← HLA.out]; exact hkm
                obtain ⟨f1, f2, f3, f4, f5, f6, f7, f8, f9, f10, f11⟩ := HInv.out.asked r0 r1 b1 a31 hik hkt
                have e1 := HCT.out kk hkt
                have e2 := HCA.out kk hkm
                have e3 := HCA.out i hil
                obtain ⟨x, hx⟩ : ∃ x, x = took.getD kk 0 := ⟨_, rfl⟩
                obtain ⟨y, hy⟩ : ∃ y, y = ats.getD kk 0 := ⟨_, rfl⟩
                obtain ⟨z, hz⟩ : ∃ z, z = ats.getD i 0 := ⟨_, rfl⟩
                obtain ⟨sm, hs⟩ : ∃ sm, sm = S took i kk := ⟨_, rfl⟩
                obtain ⟨s1, hs1⟩ : ∃ s1, s1 = S took i (kk + 1) := ⟨_, rfl⟩
                obtain ⟨P, hP⟩ : ∃ P, P = rate * (ats.getD kk 0 - ats.getD i 0) := ⟨_, rfl⟩
                rw [← hP] at f5 f10 f11
                rw [← hs1] at f4 f5
                rw [← hs] at f3 f4
                rw [← hx] at f1 f2 f4 e1
                rw [← hy] at f6 f7 e2 hP
                rw [← hz] at f8 f9 e3 hP
                rw [← hs]
                have eP : wrap64 (rate * (y - z)) = P := by rw [← hP]; unfold wrap64; omega
                have b1' : sm + x ≤ burst + P := by omega
                have HS1 := Lib.hid hs1; have F4 := Lib.hid f4
                clear hx hy hz hs hs1 hP f4 f5
                have p1 : (0 : Int) ≤ (kk : Int) := by omega
                have p2 : (kk : Int) < (ats.length : Int) := by omega
                have p3 : (kk : Int) < (took.length : Int) := by omega
                have p4 : (0 : Int) ≤ (i : Int) := by omega
                have p5 : (i : Int) < (ats.length : Int) := by omega
                have t1 : decide (burst + P < sm + x) = false := decide_eq_false (by omega)
                go_wp2_with fail
                go_quiet (fail)
                go_wp2_with fail
                go_roundg (ats.length - (kk + 1))
                case measure => have := Hgk.out; omega
                case rel => exact ⟨kk + 1, _, by omega, by omega, rfl, by rw [← HS1.out, F4.out], by go_num, rfl⟩
              · go_wp2_with fail
                go_roundg (ats.length - (i + 1))
                case measure => have := Hgi.out; omega
                case rel => exact ⟨i + 1, _, by omega, rfl, by go_num, rfl⟩
          · go_wp2_with fail
            go_ret
            exact ⟨rfl, below_drewN HBel.out _⟩

set_option maxHeartbeats 2000000 in
set_option maxRecDepth 100000 in
theorem bucketBound_walk (rate burst now : Int) (a3 : Option Addr) (len3 cap3 : Nat) (w : World) (h3 : IsTab w a3 len3 2) :
    Calls Try.prog 3 #[.int .i64 rate, .int .i64 burst, .int .i64 now, .slice a3 len3 cap3] w fun e w' => e = .returned (.bool true) ∧ Below w.heap.size w w' := by
  by_cases hg : 0 ≤ rate ∧ rate ≤ 1073741824 ∧ 0 ≤ burst ∧ burst ≤ 1073741824 ∧ 0 ≤ now ∧ now ≤ 1073741824 ∧ len3 ≤ 60
  · obtain ⟨r0, r1, b0, b1, n0, n1, l3⟩ := hg
    exact bound_good rate burst now a3 len3 cap3 w r0 r1 b0 b1 n0 n1 h3 l3
  · clear h3
    rcases (show rate < 0 ∨ (0 ≤ rate ∧ 1073741824 < rate) ∨ (0 ≤ rate ∧ rate ≤ 1073741824 ∧ burst < 0) ∨ (0 ≤ rate ∧ rate ≤ 1073741824 ∧ 0 ≤ burst ∧ 1073741824 < burst) ∨ (0 ≤ rate ∧ rate ≤ 1073741824 ∧ 0 ≤ burst ∧ burst ≤ 1073741824 ∧ now < 0) ∨
      (0 ≤ rate ∧ rate ≤ 1073741824 ∧ 0 ≤ burst ∧ burst ≤ 1073741824 ∧ 0 ≤ now ∧ 1073741824 < now) ∨ (0 ≤ rate ∧ rate ≤ 1073741824 ∧ 0 ≤ burst ∧ burst ≤ 1073741824 ∧ 0 ≤ now ∧ now ≤ 1073741824 ∧ (60 : Int) < (len3 : Int)) by omega)
      with h | ⟨h, h'⟩ | ⟨h, h', h2⟩ | ⟨h, h', h2, h3⟩ | ⟨h, h', h2, h3, h4⟩ | ⟨h, h', h2, h3, h4, h5⟩ | ⟨h, h', h2, h3, h4, h5, h6⟩
    all_goals
      clear hg
      go_enter Try.func3, Try.ntmps3
      go_wp2_with fail
      refine (bucketKnown_walk _).mono ?_
      rintro e w1 ⟨rfl, hb⟩
      replace hb := Lib.hid hb
      go_wp2_with fail
      go_ret
      exact ⟨rfl, hb.out⟩

end Go.Proofs.Ythjoflhjiaadhaa.BktBound
