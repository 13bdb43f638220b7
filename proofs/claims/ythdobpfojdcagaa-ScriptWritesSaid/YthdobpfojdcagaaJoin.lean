/-
  The walk of join: lists of bytes, one behind the other.
-/
import Derived.Test.YthdobpfojdcagaaApp
set_option linter.unusedVariables false
namespace Go.Proofs.Ythdobpfojdcagaa.Join
open Go.RowKit Go.Proofs.Ythdobpfojdcagaa.Ev Go.Proofs.Ythdobpfojdcagaa.Next Go.Proofs.Ythdobpfojdcagaa.Li Go.Proofs.Ythdobpfojdcagaa.EventAny Go.Proofs.Ythdobpfojdcagaa.Events Go.Proofs.Ythdobpfojdcagaa.Same Go.Proofs.Ythdobpfojdcagaa.App

/-- Lists of bytes in a block. -/
def Parts (w : World) (g : Nat) (ps : List (List Int)) : Prop :=
  g < w.heap.size ∧ ∀ i p, ps[i]? = some p → ∃ a c, w.cell? ⟨g, i, none⟩ = some (.slice a p.length c) ∧ IsB (fun _ => True) w a p.length c p
theorem Parts.kept {w w' : World} {g : Nat} {ps : List (List Int)} (h : Parts w g ps) (c : Chg (fun _ => False) w w') : Parts w' g ps :=
  ⟨Nat.lt_of_lt_of_le h.1 c.size, fun i p hp => by
    obtain ⟨a, cp, h1, h2⟩ := h.2 i p hp
    exact ⟨a, cp, (c.cell (p := ⟨g, i, none⟩) h.1 (fun k => k)).trans h1, h2.kept c (fun _ _ _ k => k)⟩⟩

theorem flat_take (ps : List (List Int)) (i : Nat) (p : List Int) (h : ps[i]? = some p) : (ps.take (i + 1)).flatten = (ps.take i).flatten ++ p := by
  have hl : i < ps.length := by
    rcases Nat.lt_or_ge i ps.length with h' | h'
    · exact h'
    · rw [List.getElem?_eq_none h'] at h; cases h
  rw [List.getElem?_eq_getElem hl] at h
  injection h with h
  rw [List.take_succ_eq_append_getElem hl, List.flatten_append, h]
  simp
theorem flat_take_le (ps : List (List Int)) (i : Nat) : (ps.take i).flatten.length ≤ ps.flatten.length := by
  conv => rhs; rw [← List.take_append_drop i ps]
  rw [List.flatten_append, List.length_append]
  omega

set_option maxRecDepth 100000 in
set_option maxHeartbeats 2000000 in
theorem join_any (g n : Nat) (ps : List (List Int)) (w : World) (hn : ps.length = n) (h : Parts w g ps) (hm : ps.flatten.length ≤ 1000000000) (hn5 : n ≤ 5) :
    Calls Try.prog 43 #[.slice (some ⟨g, 0, none⟩) n n] w fun e w' => ∃ v, e = .returned v ∧ w'.ownsRow w.heap.size 5 1 v ps.flatten.length (ps.flatten.map (Value.int .u8)) ∧ Chg (fun _ => False) w w' := by
  obtain ⟨i0, hi0, hz0, hz1, hz2⟩ := info_parts Try.info5
  replace hi0 := Lib.hid hi0; replace hz0 := Lib.hid hz0; replace hz1 := Lib.hid hz1; replace hz2 := Lib.hid hz2
  have H := Lib.hid h; have Hn := Lib.hid hn; have Hm := Lib.hid hm
  clear h hn hm
  go_enter Try.func43, Try.ntmps43
  go_wp2_with fail
  go_loopg [3, 4] n (fun k v3 v4 wr => ∃ (i : Nat) (ao : Option Addr) (cp : Nat), i ≤ n ∧ k = n - i ∧ v4 = .int .i64 i ∧ v3 = .slice ao (ps.take i).flatten.length cp ∧ wr.ownsRow w.heap.size 5 1 (.slice ao (ps.take i).flatten.length cp) (ps.take i).flatten.length ((ps.take i).flatten.map (Value.int .u8)) ∧ Chg (fun _ => False) w wr)
  case atStart => exact ⟨0, none, 0, Nat.zero_le _, rfl, rfl, rfl, World.ownsRow_nil _ _ _ _, Chg.refl _ _⟩
  case round =>
    obtain ⟨i, ao, cp, hi, hg, rfl, rfl, hown, hch⟩ := hrel
    by_cases hlt : i < n
    · have hp : ps[i]? = some (ps[i]'(by rw [Hn.out]; exact hlt)) := List.getElem?_eq_getElem _
      obtain ⟨p, hpp⟩ : ∃ p, ps[i]'(by rw [Hn.out]; exact hlt) = p := ⟨_, rfl⟩
      rw [hpp] at hp
      have hf := flat_take ps i p hp
      have hle := flat_take_le ps (i + 1)
      obtain ⟨a, c, hc, hb⟩ := (H.out.kept hch).2 i p hp
      obtain ⟨F, hF⟩ : ∃ F, (ps.take i).flatten = F := ⟨_, rfl⟩
      rw [hF] at hf hown ⊢
      have hFl : F.length + p.length ≤ 1000000000 := by
        rw [hf, List.length_append] at hle; have := Hm.out; omega
      have B1 := Lib.hid (show F.length + p.length ≤ maxLen by unfold maxLen; omega)
      have B2 := Lib.hid (show (F.length + p.length) * 1 ≤ 140737488355328 by omega)
      have B3 := Lib.hid hch.size
      have OA := Lib.hid hown; have CA := Lib.hid hch; have HB := Lib.hid hb; have HF := Lib.hid hf; have Hg := Lib.hid hg
      clear hown hch hb hf hle hFl hpp hp hg hF
      go_wp2_with (at_builtin; refine wpList_append_isb _ rfl _ _ _ rfl w.heap.size i0 Try.underlying22 hi0.out hz0.out hz1.out hz2.out _ _ _ rfl OA.out (fun _ => True) _ _ _ p rfl HB.out B1.out B2.out B3.out ?_; intro v9 w9 hown9 hgrow)
      have ON : w9.ownsRow w.heap.size 5 1 v9 (ps.take (i + 1)).flatten.length ((ps.take (i + 1)).flatten.map (Value.int .u8)) := by
        rw [HF.out, List.length_append, List.map_append]; exact hown9
      obtain ⟨a9, c9, hv9⟩ := own_form ON
      subst hv9
      have ON' := Lib.hid ON
      have CN := Lib.hid (CA.out.grown hgrow (fun b hb => .inr (OA.out.lt b hb).1))
      clear hown9 hgrow ON
      go_wp2_with fail
      go_roundg (n - (i + 1))
      case measure => have := Hg.out; omega
      case rel => exact ⟨i + 1, a9, c9, by omega, rfl, by go_num, rfl, ON'.out, CN.out⟩
    · have hie : i = n := by omega
      subst hie
      have hall : ps.take i = ps := List.take_of_length_le (by rw [Hn.out]; exact Nat.le_refl _)
      rw [hall] at hown ⊢
      have OA := Lib.hid hown; have CA := Lib.hid hch; clear hown hch hall hg
      go_wp2_with fail
      go_ret
      exact ⟨_, rfl, OA.out, CA.out⟩

end Go.Proofs.Ythdobpfojdcagaa.Join
