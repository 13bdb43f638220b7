/-
  The walks of long, of script's Check.
-/
import Derived.Test.YthdobpfojdcagaaKnownW
set_option linter.unusedVariables false
namespace Go.Proofs.Ythdobpfojdcagaa.Long
open Go.RowKit Go.Proofs.Ythdobpfojdcagaa.Ev Go.Proofs.Ythdobpfojdcagaa.Fold Go.Proofs.Ythdobpfojdcagaa.Lay0 Go.Proofs.Ythdobpfojdcagaa.Bytes0 Go.Proofs.Ythdobpfojdcagaa.Next Go.Proofs.Ythdobpfojdcagaa.Li Go.Proofs.Ythdobpfojdcagaa.EventAny Go.Proofs.Ythdobpfojdcagaa.Events Go.Proofs.Ythdobpfojdcagaa.Same Go.Proofs.Ythdobpfojdcagaa.SameEv Go.Proofs.Ythdobpfojdcagaa.Is Go.Proofs.Ythdobpfojdcagaa.RBytes Go.Proofs.Ythdobpfojdcagaa.Lay Go.Proofs.Ythdobpfojdcagaa.Bytes Go.Proofs.Ythdobpfojdcagaa.KnownW

def sumB (es : List Ev) : Nat := (es.map fun e => e.b.length).sum
/-- Are events more than are gone through? -/
def LongP (es : List Ev) : Prop := (∃ e ∈ es, 5000 < e.b.length) ∨ 5000 < es.length ∨ 100000 < sumB es
theorem sumB_snoc (es : List Ev) (i : Nat) (e : Ev) (h : es[i]? = some e) : sumB (es.take (i + 1)) = sumB (es.take i) + e.b.length := by
  rw [take_snoc es i e h]
  unfold sumB
  rw [List.map_append, List.sum_append]; simp
theorem sumB_le (es : List Ev) (n : Nat) (h : ∀ e ∈ es, e.b.length ≤ n) : sumB es ≤ es.length * n := by
  induction es with
  | nil => simp [sumB]
  | cons e es ih =>
    have h1 := h e (List.mem_cons_self ..)
    have h2 := ih (fun x hx => h x (List.mem_cons_of_mem _ hx))
    have e1 : sumB (e :: es) = e.b.length + sumB es := by unfold sumB; simp
    rw [e1, List.length_cons, Nat.add_mul, Nat.one_mul]
    omega

set_option maxRecDepth 100000 in
set_option maxHeartbeats 2000000 in
theorem long_short {P : Nat → Prop} (a0 : Option Addr) (len cap : Nat) (es : List Ev) (w : World) (h : IsEvs P w a0 len cap es) (hl : len ≤ 5000) :
    Calls Try.prog 21 #[.slice a0 len cap] w fun e w' => (∃ r, e = .returned (.bool r) ∧ (r = true ↔ LongP es)) ∧ w = w' := by
  have Hl := Lib.hid h.len_eq
  have H := Lib.hid h; clear h
  go_enter Try.func21, Try.ntmps21
  go_wp2_with fail
  go_loopg [3, 4] len (fun g v3 v4 wr => ∃ (i s : Nat), i ≤ len ∧ g = len - i ∧ v4 = .int .i64 i ∧ v3 = .int .i64 s ∧ s = sumB (es.take i) ∧ (∀ e ∈ es.take i, e.b.length ≤ 5000) ∧ w = wr)
  case atStart => exact ⟨0, 0, Nat.zero_le _, rfl, rfl, rfl, rfl, (fun _ h => by cases h), rfl⟩
  case round =>
    obtain ⟨i, s, hi, hg, rfl, rfl, hs, hall, rfl⟩ := hrel
    have hsl : s ≤ 25000000 := by
      have h1 := sumB_le (es.take i) 5000 hall
      have h2 : (es.take i).length ≤ 5000 := by simp; omega
      have h3 : (es.take i).length * 5000 ≤ 5000 * 5000 := Nat.mul_le_mul_right _ h2
      omega
    have Hg := Lib.hid hg; have Hs := Lib.hid hs; have Hall := Lib.hid hall; clear hg hs hall
    by_cases hlt : i < len
    · obtain ⟨ev, hev⟩ := evs_none H.out i hlt
      have hmem := List.mem_of_getElem? hev
      rcases H.out.cells with h0 | ⟨g0, o0, rfl, _, _, hc0⟩
      · omega
      obtain ⟨b0, p0, ⟨d0, d1, d2, d3, d4, d5, d6, hb0⟩⟩ := hc0 i ev hev
      have hbl63 : ev.b.length ≤ 9223372036854775807 := by have := hb0.capl; have := hb0.capm; unfold maxLen at this; omega
      clear hc0 d0 d1 d2 d3 d4 d5 hb0
      by_cases hbig : 5000 < ev.b.length
      · have hr : LongP es := .inl ⟨ev, hmem, hbig⟩
        have HR := Lib.hid hr; clear hr
        replace hev := Lib.hid hev; replace hmem := Lib.hid hmem
        go_wp2_with fail
        go_ret
        exact ⟨⟨true, rfl, by simp [HR.out]⟩, rfl⟩
      · have hsn := sumB_snoc es i ev hev
        have htk := take_snoc es i ev hev
        have hall2 : ∀ e ∈ es.take (i + 1), e.b.length ≤ 5000 := by
          intro e he
          rw [htk, List.mem_append] at he
          rcases he with he | he
          · exact Hall.out e he
          · simp only [List.mem_singleton] at he; subst he; omega
        replace hev := Lib.hid hev; replace hmem := Lib.hid hmem; replace hsn := Lib.hid hsn; replace htk := Lib.hid htk; replace hall2 := Lib.hid hall2
        go_wp2_with fail
        go_roundg (len - (i + 1))
        case measure => have := Hg.out; omega
        case rel => exact ⟨i + 1, s + ev.b.length, by omega, rfl, by go_num, by go_num, by rw [hsn.out, Hs.out], hall2.out, rfl⟩
    · have hie : i = len := by omega
      subst hie
      have hall : es.take i = es := List.take_of_length_le (by rw [Hl.out]; exact Nat.le_refl _)
      have hs2 := Hs.out
      have ha2 := Hall.out
      rw [hall] at hs2 ha2
      by_cases h1 : 100000 < s
      · have hr : LongP es := .inr (.inr (by omega))
        have HR := Lib.hid hr; clear hr hs2 ha2 hall
        go_wp2_with fail
        go_ret
        exact ⟨⟨true, congrArg (fun b => Ending.returned (Value.bool b)) (show (decide (5000 < (i : Int)) || decide (100000 < (s : Int))) = true by simp; omega), by simp [HR.out]⟩, rfl⟩
      · have hr : ¬ LongP es := by
          rintro (⟨e, he, hh⟩ | hh | hh)
          · have := ha2 e he; omega
          · have := Hl.out; omega
          · omega
        have HR := Lib.hid hr; clear hr hs2 ha2 hall
        go_wp2_with fail
        go_ret
        exact ⟨⟨false, congrArg (fun b => Ending.returned (Value.bool b)) (show (decide (5000 < (i : Int)) || decide (100000 < (s : Int))) = false by simp; omega), by simp [HR.out]⟩, rfl⟩

set_option maxRecDepth 100000 in
set_option maxHeartbeats 2000000 in
theorem long_many {P : Nat → Prop} (a0 : Option Addr) (len cap : Nat) (es : List Ev) (w : World) (h : IsEvs P w a0 len cap es) (hl : 5000 < len) :
    Calls Try.prog 21 #[.slice a0 len cap] w fun e w' => e = .returned (.bool true) ∧ w = w' := by
  have hcm : len ≤ 9223372036854775807 := by have := h.capl; have := h.capm; unfold maxLen at this; omega
  have H := Lib.hid h; clear h
  go_enter Try.func21, Try.ntmps21
  go_wp2_with fail
  go_loopg [3, 4] len (fun g v3 v4 wr => ∃ (i : Nat) (s : Int), i ≤ len ∧ g = len - i ∧ v4 = .int .i64 i ∧ v3 = .int .i64 s ∧ -9223372036854775808 ≤ s ∧ s ≤ 9223372036854775807 ∧ w = wr)
  case atStart => exact ⟨0, 0, Nat.zero_le _, rfl, rfl, rfl, by omega, by omega, rfl⟩
  case round =>
    obtain ⟨i, s, hi, hg, rfl, rfl, hs0, hs1, rfl⟩ := hrel
    have Hg := Lib.hid hg; clear hg
    by_cases hlt : i < len
    · obtain ⟨ev, hev⟩ := evs_none H.out i hlt
      rcases H.out.cells with h0 | ⟨g0, o0, rfl, _, _, hc0⟩
      · omega
      obtain ⟨b0, p0, ⟨d0, d1, d2, d3, d4, d5, d6, hb0⟩⟩ := hc0 i ev hev
      have hbl63 : ev.b.length ≤ 9223372036854775807 := by have := hb0.capl; have := hb0.capm; unfold maxLen at this; omega
      clear hc0 d0 d1 d2 d3 d4 d5 hb0 hev
      by_cases hbig : 5000 < ev.b.length
      · go_wp2_with fail
        go_ret
        exact ⟨rfl, rfl⟩
      · go_wp2_with fail
        go_roundg (len - (i + 1))
        case measure => have := Hg.out; omega
        case rel => exact ⟨i + 1, wrap64 (s + (ev.b.length : Int)), by omega, rfl, by go_num, rfl, by unfold wrap64; omega, by unfold wrap64; omega, rfl⟩
    · have hie : i = len := by omega
      subst hie
      go_wp2_with fail
      go_ret
      exact ⟨rfl, rfl⟩

theorem long_any {P : Nat → Prop} (a0 : Option Addr) (len cap : Nat) (es : List Ev) (w : World) (h : IsEvs P w a0 len cap es) :
    Calls Try.prog 21 #[.slice a0 len cap] w fun e w' => (∃ r, e = .returned (.bool r) ∧ (r = true ↔ LongP es)) ∧ w = w' := by
  by_cases hl : len ≤ 5000
  · exact long_short a0 len cap es w h hl
  · exact (long_many a0 len cap es w h (by omega)).mono fun e w' k => ⟨⟨true, k.1, by simp only [true_iff]; exact .inr (.inl (by rw [h.len_eq]; omega))⟩, k.2⟩
theorem long_yes {P : Nat → Prop} (a0 : Option Addr) (len cap : Nat) (es : List Ev) (w : World) (h : IsEvs P w a0 len cap es) (hl : LongP es) :
    Calls Try.prog 21 #[.slice a0 len cap] w fun e w' => e = .returned (.bool true) ∧ w = w' :=
  (long_any a0 len cap es w h).mono fun e w' ⟨⟨r, h1, h2⟩, h3⟩ => ⟨by rw [h1, h2.2 hl], h3⟩
theorem long_no {P : Nat → Prop} (a0 : Option Addr) (len cap : Nat) (es : List Ev) (w : World) (h : IsEvs P w a0 len cap es) (hl : ¬ LongP es) :
    Calls Try.prog 21 #[.slice a0 len cap] w fun e w' => e = .returned (.bool false) ∧ w = w' :=
  (long_any a0 len cap es w h).mono fun e w' ⟨⟨r, h1, h2⟩, h3⟩ => ⟨by
    rw [h1]
    cases r with
    | false => rfl
    | true => exact absurd (h2.1 rfl) hl, h3⟩

set_option maxRecDepth 100000 in
set_option maxHeartbeats 1000000 in
theorem check_any {P : Nat → Prop} (a0 : Option Addr) (len cap : Nat) (es : List Ev) (w : World) (h : IsEvs P w a0 len cap es) (ok : ∀ e ∈ es, EvOk e) :
    Calls Try.prog 24 #[.slice a0 len cap] w fun e w' => e = .returned (.int .i64 (errOf es)) ∧ Chg (fun _ => False) w w' := by
  have B := Lib.hid (bytes_is a0 len cap es w h ok)
  obtain ⟨r, hr⟩ : ∃ r, errOf es = r := ⟨_, rfl⟩
  obtain ⟨n, hn⟩ : ∃ n, (outOf es).length = n := ⟨_, rfl⟩
  rw [hr, hn] at B
  rw [hr]
  clear h ok hr hn
  go_enter Try.func24, Try.ntmps24
  go_wp2_with fail
  refine B.out.mono ?_
  rintro e w1 ⟨a, c, rfl, _, c1⟩
  have C1 := Lib.hid c1; clear c1
  go_wp2_with fail
  go_ret
  exact ⟨rfl, C1.out⟩

end Go.Proofs.Ythdobpfojdcagaa.Long
