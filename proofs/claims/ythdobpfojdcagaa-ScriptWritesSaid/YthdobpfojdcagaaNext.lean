/-
  The walk of the reader's closure: the next number.
-/
import Derived.Test.YthdobpfojdcagaaChecked
import Derived.Test.YthdobpfojdcagaaEv
import Derived.Tactics
import Derived.Tactics2
import Derived.StillTactics
import Derived.WalkKit
import Derived.WalkLawsBesides
import Derived.KernelRfl
import Derived.BigQuiet
import Derived.Deep.QuietTactic
import Derived.Deep.LoopGhost
import Derived.Lib.Hide
import Derived.Below
import Derived.Laws.BitsAll
import Derived.Laws.AppendOwn
set_option linter.unusedVariables false
namespace Go.Proofs.Ythdobpfojdcagaa.Next
open Go.RowKit Go.Proofs.Ythdobpfojdcagaa.Ev

/-- What has turned: only blocks of S, and new ones. -/
structure Chg (S : Nat → Prop) (w w' : World) : Prop where
  os : w'.os = w.os
  tape : w'.tape = w.tape
  output : w'.output = w.output
  size : w.heap.size ≤ w'.heap.size
  block : ∀ k, k < w.heap.size → ¬ S k → w'.heap[k]? = w.heap[k]?

theorem Chg.refl (S : Nat → Prop) (w : World) : Chg S w w := ⟨rfl, rfl, rfl, Nat.le_refl _, fun _ _ _ => rfl⟩
theorem Chg.trans {S : Nat → Prop} {a b c : World} (h : Chg S a b) (k : Chg S b c) : Chg S a c :=
  ⟨k.os.trans h.os, k.tape.trans h.tape, k.output.trans h.output, Nat.le_trans h.size k.size, fun i hi hs => (k.block i (Nat.lt_of_lt_of_le hi h.size) hs).trans (h.block i hi hs)⟩
theorem Chg.drewN {S : Nat → Prop} {a w : World} (h : Chg S a w) (n : Nat) : Chg S a (w.drewN n) := ⟨h.os, h.tape, h.output, h.size, h.block⟩
theorem Chg.setCell {S : Nat → Prop} {a w : World} (h : Chg S a w) {p : Addr} (hp : S p.block ∨ a.heap.size ≤ p.block) (u : Value) : Chg S a (w.setCell p u) :=
  ⟨h.os, h.tape, h.output, by simp [World.setCell]; exact h.size, fun k hk hs => (Below.heap_setCell _ _ _ _ (by intro e; rcases hp with hp | hp; exact hs (e ▸ hp); omega)).trans (h.block k hk hs)⟩
theorem Chg.cell {S : Nat → Prop} {w w' : World} (h : Chg S w w') {p : Addr} (hp : p.block < w.heap.size) (hs : ¬ S p.block) : w'.cell? p = w.cell? p := World.cell?_of_block (w := w) (h.block p.block hp hs)

/-- Bytes in a slice. -/
def IsBytes (w : World) (a : Option Addr) (len : Nat) (bs : List Int) : Prop :=
  bs.length = len ∧ (∀ x ∈ bs, 0 ≤ x ∧ x ≤ 255) ∧ (len = 0 ∨ ∃ b off, a = some ⟨b, off, none⟩ ∧ b < w.heap.size ∧ ∀ j, j < len → w.cell? ⟨b, off + j, none⟩ = some (.int .u8 (byte bs j)))

/-- n << 8 | b -/
theorem or_byte {n b : Int} (h0 : 0 ≤ n) (h1 : n < 16777216) (b0 : 0 ≤ b) (b1 : b ≤ 255) : bits .or .i64 (n * 256) b = n * 256 + b := by
  obtain ⟨N, rfl⟩ := Int.eq_ofNat_of_zero_le h0
  obtain ⟨B, rfl⟩ := Int.eq_ofNat_of_zero_le b0
  have e1 : BitVec.ofInt 64 ((N : Int) * 256) = BitVec.ofNat 64 (N * 256) := by
    rw [show ((N : Int) * 256) = ((N * 256 : Nat) : Int) by simp, BitVec.ofInt_natCast]
  have e2 : BitVec.ofInt 64 ((B : Int)) = BitVec.ofNat 64 B := BitVec.ofInt_natCast ..
  show IntKind.i64.wrap ((BitVec.ofInt 64 ((N : Int) * 256) ||| BitVec.ofInt 64 (B : Int)).toNat : Int) = _
  rw [e1, e2, BitVec.toNat_or, BitVec.toNat_ofNat, BitVec.toNat_ofNat, Nat.mod_eq_of_lt (by omega), Nat.mod_eq_of_lt (by omega)]
  have h := Nat.two_pow_add_eq_or_of_lt (i := 8) (b := B) (by omega) N
  rw [show N * 256 = 2 ^ 8 * N by omega, ← h, IntKind.wrap_i64]
  omega

/-- One cell in a block of its own. -/
def One (w : World) (A : Nat) (v : Value) (T : TypeId) : Prop := w.heap[A]? = some (.cells #[v] T (0, 0))
theorem One.cell {w : World} {A : Nat} {v : Value} {T : TypeId} (h : One w A v T) : w.cell? ⟨A, 0, none⟩ = some v := cell_of_row w A 0 _ _ _ h
theorem One.free {w : World} {A : Nat} {v : Value} {T : TypeId} (h : One w A v T) : w.frozen? ⟨A, 0, none⟩ = false := frozen_of_row w A 0 _ _ h
theorem One.lt {w : World} {A : Nat} {v : Value} {T : TypeId} (h : One w A v T) : A < w.heap.size := lt_of_block h
theorem One.set {w : World} {A : Nat} {v : Value} {T : TypeId} (h : One w A v T) (u : Value) : One (w.setCell ⟨A, 0, none⟩ u) A u T := by
  have hlt := lt_of_block h
  have h' : w.heap[A] = .cells #[v] T (0, 0) := by
    unfold One at h
    simpa [Array.getElem?_eq_getElem hlt] using h
  show (w.heap.modify A _)[A]? = _
  rw [Array.getElem?_eq_getElem (by simpa using hlt), Array.getElem_modify_self, h']
  rfl
theorem One.kept {w w' : World} {A : Nat} {v : Value} {T : TypeId} {S : Nat → Prop} (h : One w A v T) (c : Chg S w w') (hs : ¬ S A) : One w' A v T := by
  unfold One; rw [c.block A h.lt hs]; exact h

theorem IsBytes.kept {w w' : World} {a : Option Addr} {len : Nat} {bs : List Int} {S : Nat → Prop} (h : IsBytes w a len bs) (c : Chg S w w') (hs : ∀ b off, a = some ⟨b, off, none⟩ → len ≠ 0 → ¬ S b) : IsBytes w' a len bs := by
  refine ⟨h.1, h.2.1, ?_⟩
  rcases h.2.2 with h0 | ⟨b, off, rfl, hb, hc⟩
  · exact .inl h0
  · by_cases h0 : len = 0
    · exact .inl h0
    · exact .inr ⟨b, off, rfl, Nat.lt_of_lt_of_le hb c.size, fun j hj => (c.cell (p := ⟨b, off + j, none⟩) hb (hs b off rfl h0)).trans (hc j hj)⟩

theorem ret_i64 {a b : Int} (h : a = b) : Ending.returned (.int .i64 a) = Ending.returned (.int .i64 b) := by rw [h]

/-- What a reader holds: where it stands (block A), and its bytes (block B holds the slice). -/
structure Rd (w : World) (A B : Nat) (a0 : Option Addr) (len cap : Nat) (bs : List Int) : Prop where
  cellB : w.cell? ⟨B, 0, none⟩ = some (.slice a0 len cap)
  ltB : B < w.heap.size
  ne : B ≠ A
  bytes : IsBytes w a0 len bs
  off : ∀ b o, a0 = some ⟨b, o, none⟩ → len ≠ 0 → b ≠ A
  small : len ≤ 4611686018427387904

set_option maxHeartbeats 2000000 in
theorem next_any (A B : Nat) (a0 : Option Addr) (len cap p size : Nat) (bs : List Int) (w : World) (hA : One w A (.int .i64 p) 3) (hR : Rd w A B a0 len cap bs) (hp : p ≤ len) (hs : size ≤ 4) :
    Calls Try.prog 35 #[.int .i64 size, .pointer (some ⟨A, 0, none⟩), .pointer (some ⟨B, 0, none⟩)] w fun e w' => e = .returned (.int .i64 (num bs p size)) ∧ One w' A (.int .i64 (min (p + size) len : Nat)) 3 ∧ Chg (· = A) w w' := by
  obtain ⟨hB, hBl, hne, ⟨hl, hb, hd⟩, hoff, hm⟩ := hR
  have HD := Lib.hid hd; have HF := Lib.hid hoff; have HA := Lib.hid hA; have HB := Lib.hid hB; have Hb := Lib.hid hb; have Hl := Lib.hid hl
  clear hd hoff hA hB hb hl
  go_enter Try.func35, Try.ntmps35
  go_wp2_with fail
  go_loopg [5, 7] size (fun g v5 v7 wr => ∃ i : Nat, i ≤ size ∧ g = size - i ∧ v7 = .int .i64 i ∧ v5 = .int .i64 (num bs p i) ∧ One wr A (.int .i64 (min (p + i) len : Nat)) 3 ∧ Chg (· = A) w wr)
  case atStart => exact ⟨0, Nat.zero_le _, rfl, rfl, rfl, by rw [Nat.add_zero, Nat.min_eq_left hp]; exact HA.out, Chg.refl _ _⟩
  case round =>
    obtain ⟨i, hi, hg, rfl, rfl, hO, hch⟩ := hrel
    have Hg := Lib.hid hg; clear hg
    have c1 := hO.cell
    have f1 := hO.free
    have c2 := (hch.cell (p := ⟨B, 0, none⟩) hBl hne).trans HB.out
    have HO := Lib.hid hO; have HCh := Lib.hid hch; clear hO hch
    obtain ⟨n0, n1⟩ := num_bd Hb.out p i
    by_cases hlt : i < size
    · have hn1 : num bs p i < 16777216 := by
        have : (256 : Int) ^ i ≤ 256 ^ 3 := by
          match i, (show i ≤ 3 by omega) with
          | 0, _ => decide
          | 1, _ => decide
          | 2, _ => decide
          | 3, _ => decide
        have e : (256 : Int) ^ 3 = 16777216 := by decide
        omega
      clear n1
      have hstep : num bs p (i + 1) = num bs p i * 256 + byte bs (p + i) := rfl
      obtain ⟨N, hN⟩ : ∃ N, num bs p i = N := ⟨_, rfl⟩
      rw [hN] at hstep hn1 n0 ⊢
      replace hstep := Lib.hid hstep; replace hN := Lib.hid hN
      by_cases hin : p + i < len
      · have e1 : min (p + i) len = p + i := Nat.min_eq_left (by omega)
        rw [e1] at c1
        replace e1 := Lib.hid e1
        rcases HD.out with h0 | ⟨b, off, rfl, hbl, hc⟩
        · omega
        have hbA := HF.out b off rfl (by omega)
        have c3 := (HCh.out.cell (p := ⟨b, off + (p + i), none⟩) hbl hbA).trans (hc (p + i) hin)
        replace hc := Lib.hid hc
        obtain ⟨y0, y1⟩ := byte_bd Hb.out (p + i)
        obtain ⟨Y, hY⟩ : ∃ Y, byte bs (p + i) = Y := ⟨_, rfl⟩
        rw [hY] at c3 y0 y1
        replace hY := Lib.hid hY
        have hor := or_byte n0 hn1 y0 y1
        have q0 : (0 : Int) ≤ N * 256 := by omega
        have q1 : N * 256 + Y < 4294967296 := by omega
        go_wp2_with fail
        go_roundg (size - (i + 1))
        case measure => have := Hg.out; omega
        case rel => exact ⟨i + 1, by omega, rfl, by go_num, by rw [hstep.out, hY.out], by
                      have e : (((min (p + (i + 1)) len : Nat) : Int)) = (p : Int) + i + 1 := by omega
                      rw [e]; exact HO.out.set _, HCh.out.setCell (.inl rfl) _⟩
      · have e1 : min (p + i) len = len := Nat.min_eq_right (by omega)
        rw [e1] at c1
        replace e1 := Lib.hid e1
        have hY : byte bs (p + i) = 0 := by
          unfold byte; rw [List.getD_eq_getElem?_getD, List.getElem?_eq_none (by have := Hl.out; omega)]; rfl
        replace hY := Lib.hid hY
        replace hin := Lib.hid hin
        have q0 : (0 : Int) ≤ N * 256 := by omega
        have q1 : N * 256 < 4294967296 := by omega
        go_wp2_with fail
        go_roundg (size - (i + 1))
        case measure => have := Hg.out; omega
        case rel => exact ⟨i + 1, by omega, rfl, by go_num, by rw [hstep.out, hY.out, Int.add_zero], by
                      have e : min (p + (i + 1)) len = min (p + i) len := by have := hin.out; omega
                      rw [e]; exact HO.out, HCh.out⟩
    · have hi2 : i = size := by omega
      subst hi2
      clear n0 n1
      go_wp2_with fail
      go_ret
      exact ⟨rfl, HO.out, HCh.out⟩

/-- Is there anything left? -/
theorem left_any (A B : Nat) (a0 : Option Addr) (len cap p : Nat) (bs : List Int) (w : World) (hA : One w A (.int .i64 p) 3) (hR : Rd w A B a0 len cap bs) :
    Calls Try.prog 36 #[.pointer (some ⟨A, 0, none⟩), .pointer (some ⟨B, 0, none⟩)] w fun e w' => e = .returned (.bool (decide (p < len))) ∧ w = w' := by
  have c1 := hA.cell
  have c2 := hR.cellB
  clear hA hR
  go_enter Try.func36, Try.ntmps36
  go_wp2_with fail
  go_ret
  exact ⟨rfl, rfl⟩

theorem Chg.alloc {S : Nat → Prop} {a w : World} (h : Chg S a w) (o : Obj) : Chg S a (w.alloc o) :=
  h.trans ⟨rfl, rfl, rfl, by simp, fun k hk _ => Below.heap_alloc _ _ _ hk⟩
theorem one_new (w : World) (v : Value) (T : TypeId) : One (w.alloc (.cells #[v] T (0, 0))) w.heap.size v T := by
  unfold One
  show (w.heap.push _)[w.heap.size]? = _
  rw [Array.getElem?_push, if_pos rfl]

/-- The reader: two functions over two new blocks. -/
theorem reader_any (a0 : Option Addr) (len cap : Nat) (w : World) :
    Calls Try.prog 26 #[.slice a0 len cap] w fun e w' => e = .returned (.tuple #[.func (.func 35) #[] #[.pointer (some ⟨w.heap.size + 1, 0, none⟩), .pointer (some ⟨w.heap.size, 0, none⟩)], .func (.func 36) #[] #[.pointer (some ⟨w.heap.size + 1, 0, none⟩), .pointer (some ⟨w.heap.size, 0, none⟩)]]) ∧
      One w' (w.heap.size + 1) (.int .i64 0) 3 ∧ One w' w.heap.size (.slice a0 len cap) 22 ∧ Chg (fun _ => False) w w' ∧ w'.heap.size = w.heap.size + 2 := by
  have hmf : ∀ (fn : Fn) (first cap : Array Value) (w : World), (Instr.makeFunc fn first cap).run Try.prog w = .ok (.func fn first cap) w := fun _ _ _ _ => rfl
  go_enter Try.func26, Try.ntmps26
  go_wp2_with fail
  go_ret2
  refine ⟨rfl, ?_, ?_, ((Chg.refl _ w).alloc _).alloc _, by simp⟩
  · have h := one_new (w.alloc (.cells #[.slice a0 len cap] 22)) (.int .i64 0) 3
    rw [show (w.alloc (.cells #[.slice a0 len cap] 22)).heap.size = w.heap.size + 1 by simp] at h
    exact h
  · exact (one_new w (.slice a0 len cap) 22).kept ((Chg.refl (fun _ => False) _).alloc _) (fun h => h)

theorem number_who (E : Nat) (w : World) :
    Calls Try.prog 38 #[.pointer (some ⟨E, 0, none⟩), .string ⟨#[119, 104, 111]⟩] w fun e w' => e = .returned (.tuple #[.pointer (some ⟨E, 2, none⟩), .int .i64 4]) ∧ w = w' := by
  go_enter Try.func38, Try.ntmps38
  go_wp2_with fail
  go_ret2
  exact ⟨rfl, rfl⟩
theorem number_b (E : Nat) (w : World) :
    Calls Try.prog 38 #[.pointer (some ⟨E, 0, none⟩), .string ⟨#[98]⟩] w fun e w' => e = .returned (.tuple #[.pointer none, .int .i64 2]) ∧ w = w' := by
  go_enter Try.func38, Try.ntmps38
  go_wp2_with fail
  go_ret2
  exact ⟨rfl, rfl⟩

theorem number_port (E : Nat) (w : World) :
    Calls Try.prog 38 #[.pointer (some ⟨E, 0, none⟩), .string ⟨#[112, 111, 114, 116]⟩] w fun e w' => e = .returned (.tuple #[.pointer (some ⟨E, 3, none⟩), .int .i64 2]) ∧ w = w' := by
  go_enter Try.func38, Try.ntmps38
  go_wp2_with fail
  go_ret2
  exact ⟨rfl, rfl⟩
theorem number_conn (E : Nat) (w : World) :
    Calls Try.prog 38 #[.pointer (some ⟨E, 0, none⟩), .string ⟨#[99, 111, 110, 110]⟩] w fun e w' => e = .returned (.tuple #[.pointer (some ⟨E, 4, none⟩), .int .i64 2]) ∧ w = w' := by
  go_enter Try.func38, Try.ntmps38
  go_wp2_with fail
  go_ret2
  exact ⟨rfl, rfl⟩
theorem number_n (E : Nat) (w : World) :
    Calls Try.prog 38 #[.pointer (some ⟨E, 0, none⟩), .string ⟨#[110]⟩] w fun e w' => e = .returned (.tuple #[.pointer (some ⟨E, 5, none⟩), .int .i64 2]) ∧ w = w' := by
  go_enter Try.func38, Try.ntmps38
  go_wp2_with fail
  go_ret2
  exact ⟨rfl, rfl⟩
theorem number_sort (E : Nat) (w : World) :
    Calls Try.prog 38 #[.pointer (some ⟨E, 0, none⟩), .string ⟨#[115, 111, 114, 116]⟩] w fun e w' => e = .returned (.tuple #[.pointer (some ⟨E, 1, none⟩), .int .i64 1]) ∧ w = w' := by
  go_enter Try.func38, Try.ntmps38
  go_wp2_with fail
  go_ret2
  exact ⟨rfl, rfl⟩

theorem Rd.kept {S : Nat → Prop} {w w' : World} {A B : Nat} {a0 : Option Addr} {len cap : Nat} {bs : List Int} (h : Rd w A B a0 len cap bs) (c : Chg S w w') (hs : ∀ b, b < w.heap.size → S b → b = A) : Rd w' A B a0 len cap bs := by
  have hB : ¬ S B := fun k => h.ne (hs B h.ltB k)
  refine ⟨(c.cell (p := ⟨B, 0, none⟩) h.ltB hB).trans h.cellB, Nat.lt_of_lt_of_le h.ltB c.size, h.ne, ?_, h.off, h.small⟩
  refine ⟨h.bytes.1, h.bytes.2.1, ?_⟩
  rcases h.bytes.2.2 with h0 | ⟨b, off, rfl, hb, hc⟩
  · exact .inl h0
  · by_cases h0 : len = 0
    · exact .inl h0
    · exact .inr ⟨b, off, rfl, Nat.lt_of_lt_of_le hb c.size, fun j hj => (c.cell (p := ⟨b, off + j, none⟩) hb (fun k => h.off b off rfl h0 (hs b hb k))).trans (hc j hj)⟩
theorem Chg.weak {S S' : Nat → Prop} {w w' : World} (h : Chg S w w') (hs : ∀ b, b < w.heap.size → S b → S' b) : Chg S' w w' := ⟨h.os, h.tape, h.output, h.size, fun k hk hn => h.block k hk (fun e => hn (hs k hk e))⟩

theorem heap_set {w : World} {b : Nat} {C : Array Value} {T : TypeId} (h : w.heap[b]? = some (.cells C T (0, 0))) (i : Nat) (u : Value) :
    (w.setCell ⟨b, i, none⟩ u).heap[b]? = some (.cells (C.setIfInBounds i u) T (0, 0)) := by
  have hlt := lt_of_block h
  have h' : w.heap[b] = .cells C T (0, 0) := by simpa [Array.getElem?_eq_getElem hlt] using h
  show (w.heap.modify b _)[b]? = _
  rw [Array.getElem?_eq_getElem (by simpa using hlt), Array.getElem_modify_self, h']
  rfl
/-- An event, written cell by cell. -/
theorem set7 {w : World} {g : Nat} {T : TypeId} {z0 z1 z2 z3 z4 z5 z6 v0 v1 v2 v3 v4 v5 v6 : Value} (h : w.heap[g]? = some (.cells #[z0, z1, z2, z3, z4, z5, z6] T (0, 0))) :
    (((((((w.setCell ⟨g, 0, none⟩ v0).setCell ⟨g, 1, none⟩ v1).setCell ⟨g, 2, none⟩ v2).setCell ⟨g, 3, none⟩ v3).setCell ⟨g, 4, none⟩ v4).setCell ⟨g, 5, none⟩ v5).setCell ⟨g, 6, none⟩ v6).heap[g]? = some (.cells #[v0, v1, v2, v3, v4, v5, v6] T (0, 0)) := by
  have h7 := heap_set (heap_set (heap_set (heap_set (heap_set (heap_set (heap_set h 0 v0) 1 v1) 2 v2) 3 v3) 4 v4) 5 v5) 6 v6
  simp only [List.setIfInBounds_toArray, List.set_cons_zero, List.set_cons_succ] at h7
  exact h7
theorem chg7 {S : Nat → Prop} {a w : World} {g : Nat} {v0 v1 v2 v3 v4 v5 v6 : Value} (h : Chg S a w) (hg : S g ∨ a.heap.size ≤ g) : Chg S a (((((((w.setCell ⟨g, 0, none⟩ v0).setCell ⟨g, 1, none⟩ v1).setCell ⟨g, 2, none⟩ v2).setCell ⟨g, 3, none⟩ v3).setCell ⟨g, 4, none⟩ v4).setCell ⟨g, 5, none⟩ v5).setCell ⟨g, 6, none⟩ v6) :=
  ((((((h.setCell (p := ⟨g, 0, none⟩) hg v0).setCell (p := ⟨g, 1, none⟩) hg v1).setCell (p := ⟨g, 2, none⟩) hg v2).setCell (p := ⟨g, 3, none⟩) hg v3).setCell (p := ⟨g, 4, none⟩) hg v4).setCell (p := ⟨g, 5, none⟩) hg v5).setCell (p := ⟨g, 6, none⟩) hg v6

theorem Chg.grown {S : Nat → Prop} {a b c : World} {row : Option Nat} (h : Chg S a b) (hg : b.grownBy c row) (hr : ∀ k, row = some k → S k ∨ a.heap.size ≤ k) : Chg S a c :=
  ⟨hg.os.trans h.os, hg.tape.trans h.tape, hg.output.trans h.output, Nat.le_trans h.size hg.size, fun k hk hs => (hg.block k (Nat.lt_of_lt_of_le hk h.size) (fun e => by rcases hr k e.symm with h1 | h1; exact hs h1; omega)).trans (h.block k hk hs)⟩
theorem One.grown {w w' : World} {A : Nat} {v : Value} {T : TypeId} {row : Option Nat} (h : One w A v T) (hg : w.grownBy w' row) (hn : some A ≠ row) : One w' A v T := by
  unfold One; rw [hg.block A h.lt hn]; exact h

end Go.Proofs.Ythdobpfojdcagaa.Next
