/-
  The walk of ScriptBehind.
-/
import Derived.Test.YthdobpfojdcagaaPlain
import Derived.Test.YthdobpfojdcagaaPick
import Derived.Test.YthdobpfojdcagaaKnownW
import Derived.Test.YthdobpfojdcagaaMany
import Derived.Test.YthdobpfojdcagaaCopy
set_option linter.unusedVariables false
namespace Go.Proofs.Ythdobpfojdcagaa.Behind
open Go.RowKit Go.Proofs.Ythdobpfojdcagaa.Ev Go.Proofs.Ythdobpfojdcagaa.Fold Go.Proofs.Ythdobpfojdcagaa.Lay0 Go.Proofs.Ythdobpfojdcagaa.Bytes0 Go.Proofs.Ythdobpfojdcagaa.Plain Go.Proofs.Ythdobpfojdcagaa.Next Go.Proofs.Ythdobpfojdcagaa.Li Go.Proofs.Ythdobpfojdcagaa.EventAny Go.Proofs.Ythdobpfojdcagaa.Events Go.Proofs.Ythdobpfojdcagaa.Same Go.Proofs.Ythdobpfojdcagaa.SameEv Go.Proofs.Ythdobpfojdcagaa.Is Go.Proofs.Ythdobpfojdcagaa.App Go.Proofs.Ythdobpfojdcagaa.RBytes Go.Proofs.Ythdobpfojdcagaa.Lay Go.Proofs.Ythdobpfojdcagaa.Bytes Go.Proofs.Ythdobpfojdcagaa.Reads Go.Proofs.Ythdobpfojdcagaa.KnownW Go.Proofs.Ythdobpfojdcagaa.Copy

theorem evok_at {bs : List Int} (hb : ∀ x ∈ bs, 0 ≤ x ∧ x ≤ 255) (p : Nat) : EvOk (evAt bs p) := by
  have hk := kind_cases hb p
  have q4 : ∀ i, 0 ≤ num bs i 4 ∧ num bs i 4 < 4294967296 := fun i => by have := num_bd hb i 4; exact ⟨this.1, by have h := this.2; rw [show (256 : Int) ^ 4 = 4294967296 by decide] at h; exact h⟩
  have q2 : ∀ i, 0 ≤ num bs i 2 ∧ num bs i 2 < 65536 := fun i => by have := num_bd hb i 2; exact ⟨this.1, by have h := this.2; rw [show (256 : Int) ^ 2 = 65536 by decide] at h; exact h⟩
  have q1 : ∀ i, 0 ≤ num bs i 1 := fun i => (num_bd hb i 1).1
  have a1 := q4 (p + 1); have a2 := q4 (p + 2); have b1 := q2 (p + 1); have b3 := q2 (p + 3); have b5 := q2 (p + 5); have c1 := q1 (p + 1)
  unfold evAt
  generalize num bs p 1 % 10 + 1 = k at hk
  rcases hk with rfl | rfl | rfl | rfl | rfl | rfl | rfl | rfl | rfl | rfl <;> simp <;> constructor <;> simp <;> omega
theorem evs_evok {bs : List Int} (hb : ∀ x ∈ bs, 0 ≤ x ∧ x ≤ 255) : ∀ e ∈ evs bs, EvOk e := by
  have : ∀ f p, ∀ e ∈ evsF bs f p, EvOk e := by
    intro f
    induction f with
    | zero => intro p e he; simp [evsF] at he
    | succ f ih =>
      intro p e he
      unfold evsF at he
      split at he
      · rcases List.mem_cons.1 he with rfl | he
        · exact evok_at hb p
        · exact ih _ e he
      · simp at he
  exact this 4096 0

theorem flat_read_len {bs : List Int} (hb : ∀ x ∈ bs, 0 ≤ x ∧ x ≤ 255) (h : bs.length ≤ 5000) : ((evs bs).flatMap layE).length ≤ 100000000 := by
  have h1 := flatMap_len (evs bs) 4096 (fun e he => (evs_ok hb e he).1)
  have h2 := evs_len bs
  have h3 : (evs bs).length * (13 + 3 * 4096) ≤ 4096 * (13 + 3 * 4096) := Nat.mul_le_mul_right _ h2
  omega
/-- Bytes laid of events that were read. -/
theorem bytes_read {P : Nat → Prop} (a0 : Option Addr) (cap : Nat) (es : List Ev) (bs : List Int) (w : World) (hes : evs bs = es) (hb : ∀ x ∈ bs, 0 ≤ x ∧ x ≤ 255) (h : IsEvs P w a0 es.length cap es) :
    Calls Try.prog 17 #[.slice a0 es.length cap] w fun e w' => ∃ a c, e = .returned (.tuple #[.slice a (es.flatMap layE).length c, .int .i64 0]) ∧ IsB (fun _ => True) w' a (es.flatMap layE).length c (es.flatMap layE) ∧ Chg (fun _ => False) w w' := by
  subst hes
  obtain ⟨e1, e2⟩ := err_ok (es := evs bs) (by have := evs_len bs; omega) (evs_ok hb)
  have h1 := bytes_is a0 _ cap (evs bs) w h (evs_evok hb)
  rw [e1, e2] at h1
  exact h1

set_option maxRecDepth 100000 in
/-- No events, and no events: the same, and nothing is made. -/
theorem same_none (a b : Option Addr) (c d : Nat) (w : World) : Calls Try.prog 12 #[.slice a 0 c, .slice b 0 d] w fun e w' => e = .returned (.bool true) ∧ w = w' := by
  go_enter Try.func12, Try.ntmps12
  go_wp2_with fail
  refine wp_loop_rounds 1 ?_
  rw [rounds_succ]
  go_wp2_with fail
  go_ret
  exact ⟨rfl, rfl⟩

set_option maxRecDepth 100000 in
set_option maxHeartbeats 4000000 in
theorem scriptBehind_walk (a0 a1 : Option Addr) (len0 cap0 len1 cap1 : Nat) (a2 : Int) (W : World) (ha : ∃ bs, IsB (fun b => b < W.heap.size) W a0 len0 cap0 bs) (hb : ∃ bs, IsB (fun b => b < W.heap.size) W a1 len1 cap1 bs) (h0 : -9223372036854775808 ≤ a2) (h1 : a2 ≤ 9223372036854775807) :
    Calls Try.prog 5 #[.slice a0 len0 cap0, .slice a1 len1 cap1, .int .i64 a2] W fun e w' => e = .returned (.bool true) ∧ Below W.heap.size W w' := by
  obtain ⟨xs, hx⟩ := ha
  obtain ⟨bs, hbs⟩ := hb
  obtain ⟨i0, hi0, hz0, hz1, hz2⟩ := info_parts Try.info5
  replace hi0 := Lib.hid hi0; replace hz0 := Lib.hid hz0; replace hz1 := Lib.hid hz1; replace hz2 := Lib.hid hz2
  obtain ⟨j0, hj0, hy0, hy1, hy2⟩ := info_parts Try.info34
  replace hj0 := Lib.hid hj0; replace hy0 := Lib.hid hy0; replace hy1 := Lib.hid hy1; replace hy2 := Lib.hid hy2
  have hc0 : len0 ≤ 9223372036854775807 := by have := hx.capl; have := hx.capm; unfold maxLen at this; omega
  have hc1 : len1 ≤ 9223372036854775807 := by have := hbs.capl; have := hbs.capm; unfold maxLen at this; omega
  have HX := Lib.hid hx; have HB := Lib.hid hbs; have HA0 := Lib.hid h0; have HA1 := Lib.hid h1
  clear hx hbs h0 h1
  by_cases hl0 : 1000 < len0
  · go_enter Try.func5, Try.ntmps5
    go_wp2_with fail
    refine (awake_any W).mono ?_
    rintro e w1 ⟨rfl, c1⟩
    have C1 := Lib.hid c1; clear c1
    go_wp2_with fail
    go_ret
    exact ⟨rfl, toBelow C1.out⟩
  by_cases hl1 : 1000 < len1
  · go_enter Try.func5, Try.ntmps5
    go_wp2_with fail
    refine (awake_any W).mono ?_
    rintro e w1 ⟨rfl, c1⟩
    have C1 := Lib.hid c1; clear c1
    go_wp2_with fail
    go_ret
    exact ⟨rfl, toBelow C1.out⟩
  have bdx := Lib.hid HX.out.bytes.2.1
  have bdb := Lib.hid HB.out.bytes.2.1
  have lnx := Lib.hid HX.out.bytes.1
  have lnb := Lib.hid HB.out.bytes.1
  obtain ⟨es, hes⟩ : ∃ es, evs xs = es := ⟨_, rfl⟩
  obtain ⟨fs, hfs⟩ : ∃ fs, evs bs = fs := ⟨_, rfl⟩
  have hel : es.length ≤ 1000 := by rw [← hes]; have := evsF_length2 xs 4096 0; rw [lnx.out] at this; show (evsF xs 4096 0).length ≤ 1000; omega
  have hfl : fs.length ≤ 1000 := by rw [← hfs]; have := evsF_length2 bs 4096 0; rw [lnb.out] at this; show (evsF bs 4096 0).length ≤ 1000; omega
  have hEx := fun w h => events_is (fun b => b < W.heap.size) a0 len0 cap0 xs w h (by omega)
  have hEb := fun w h => events_is (fun b => b < W.heap.size) a1 len1 cap1 bs w h (by omega)
  rw [hes] at hEx
  rw [hfs] at hEb
  have hbeh : evs (es.flatMap layE ++ bs) = es ++ fs := by
    rw [← hes, ← hfs]
    exact evs_behind (evs_bd bdx.out) (evs_ok bdx.out) (by rw [hes]; exact hel) (by rw [lnb.out]; omega)
  have hol : (es.flatMap layE).length ≤ 100000000 := by rw [← hes]; exact flat_read_len bdx.out (by rw [lnx.out]; omega)
  obtain ⟨O, hO⟩ : ∃ O, es.flatMap layE = O := ⟨_, rfl⟩
  have hBy := fun a cap w h => bytes_read (P := fun _ => True) a cap es xs w hes bdx.out h
  rw [hO] at hbeh hol
  rw [hO] at hBy
  have hObd : ∀ x ∈ O, 0 ≤ x ∧ x ≤ 255 := by
    rw [← hO, ← hes]
    intro y hy
    rw [List.mem_flatMap] at hy
    obtain ⟨e, he, hy⟩ := hy
    exact layE_bd (evs_bd bdx.out e he) y hy
  have EX := Lib.hid hEx; have EB := Lib.hid hEb; have BY := Lib.hid hBy; have BEH := Lib.hid hbeh; have OBD := Lib.hid hObd
  replace hes := Lib.hid hes; replace hfs := Lib.hid hfs; replace hO := Lib.hid hO
  clear hEx hEb hBy hbeh hObd
  go_enter Try.func5, Try.ntmps5
  go_wp2_with fail
  refine (awake_any W).mono ?_
  rintro e w1 ⟨rfl, c1⟩
  have C1 := Lib.hid c1; clear c1
  go_wp2_with fail
  refine (EX.out w1 (keptT HX.out C1.out)).mono ?_
  rintro e w2 ⟨ax, cx, rfl, r2⟩
  have L2 := Lib.hid (r2.is.weak (P' := fun _ => True) (fun _ _ _ => trivial)); have C2 := Lib.hid (C1.out.trans r2.chg); clear r2
  go_wp2_with fail
  refine (EB.out w2 (keptT HB.out C2.out)).mono ?_
  rintro e w3 ⟨am, cm, rfl, r3⟩
  have M3 := Lib.hid (r3.is.weak (P' := fun _ => True) (fun _ _ _ => trivial)); have L3 := Lib.hid (L2.out.kept r3.chg (fun _ _ _ k => k)); have C3 := Lib.hid (C2.out.trans r3.chg); clear r3
  go_wp2_with fail
  refine (BY.out ax cx w3 L3.out).mono ?_
  rintro e w4 ⟨ao, co, rfl, io, c4⟩
  have I8 := Lib.hid io; have C4 := Lib.hid (C3.out.trans c4); have L4 := Lib.hid (L3.out.kept c4 (fun _ _ _ k => k)); have M4 := Lib.hid (M3.out.kept c4 (fun _ _ _ k => k)); clear io c4
  go_wp2_with fail
  refine (copy_bytes ao O.length co O w4 I8.out (by omega)).mono ?_
  rintro e w5 ⟨ap, cp, rfl, op, c5⟩
  have OP := Lib.hid op; have C5 := Lib.hid (C4.out.trans c5); have C45 := Lib.hid c5; have W45 := Lib.hid c5.size
  clear op c5
  have IB5 := Lib.hid (keptT HB.out C5.out)
  have B1 := Lib.hid (show O.length + len1 ≤ maxLen by unfold maxLen; omega); have B2 := Lib.hid (show (O.length + len1) * 1 ≤ 140737488355328 by omega)
  go_wp2_with (at_builtin; refine wpList_append_isb _ rfl (.tmp 37) (.tmp 38) _ rfl w4.heap.size i0 Try.underlying22 hi0.out hz0.out hz1.out hz2.out _ _ _ rfl OP.out (fun b => b < W.heap.size) _ _ _ bs rfl IB5.out B1.out B2.out W45.out ?_; intro v6 w6 hown6 hgrow6)
  obtain ⟨gs, hgs⟩ : ∃ gs, es ++ fs = gs := ⟨_, rfl⟩
  obtain ⟨n6, hn6⟩ : ∃ n, O.length + len1 = n := ⟨_, rfl⟩
  have hn6' : (O ++ bs).length = n6 := by rw [List.length_append, lnb.out]; exact hn6
  obtain ⟨a6, c6, hv6, ib6⟩ := isb_of_own (bs := O ++ bs) (v := v6) (by rw [List.map_append, List.length_append, lnb.out]; exact hown6) (by
    intro y hy
    rcases List.mem_append.1 hy with hy | hy
    · exact OBD.out y hy
    · exact bdb.out y hy)
  rw [hn6'] at hv6 ib6
  subst hv6
  have E6 := events_is _ a6 n6 c6 (O ++ bs) w6 ib6 (by omega)
  rw [BEH.out, hgs] at E6
  replace E6 := Lib.hid E6
  have C6 := Lib.hid (C5.out.grown hgrow6 (fun b hb => .inr (by have := (OP.out.lt b hb).1; have := C4.out.size; omega)))
  have G6 : Chg (fun b => w4.heap.size ≤ b) w5 w6 := (Chg.refl _ w5).grown hgrow6 (fun b hb => .inl (OP.out.lt b hb).1)
  have C46 : Chg (fun _ => False) w4 w6 := Chg_after C45.out G6 (fun i hi e => by omega)
  have L6 := Lib.hid (L4.out.kept C46 (fun _ _ _ k => k)); have M6 := Lib.hid (M4.out.kept C46 (fun _ _ _ k => k))
  clear hown6 hgrow6 G6 C46 ib6 hn6'
  replace hn6 := Lib.hid hn6
  go_wp2_with fail
  refine E6.out.mono ?_
  rintro e w7 ⟨ag, cg, rfl, r7⟩
  have G7 := Lib.hid (r7.is.weak (P' := fun b => b < w7.heap.size) (fun b hb _ => hb)); have C7 := Lib.hid (C6.out.trans r7.chg)
  have L7 := Lib.hid ((L6.out.kept r7.chg (fun _ _ _ k => k)).weak (P' := fun b => b < w7.heap.size) (fun b hb _ => hb)); have M7 := Lib.hid ((M6.out.kept r7.chg (fun _ _ _ k => k)).weak (P' := fun b => b < w7.heap.size) (fun b hb _ => hb))
  clear r7
  have CA : Chg (fun _ => False) w7 (w7.alloc (.cells #[] 34)) := (Chg.refl _ w7).alloc _
  have OA : (w7.alloc (.cells #[] 34)).ownsRow w7.heap.size 34 7 (.slice (some ⟨w7.heap.size, 0, none⟩) 0 0) ([] : List (Ev × Value)).length (evRow []) := World.ownsRow_made w7 #[] 0 (Nat.le_refl _) (Nat.zero_le _) rfl
  have LA := Lib.hid (L7.out.kept CA (fun _ _ _ k => k)); have MA := Lib.hid (M7.out.kept CA (fun _ _ _ k => k))
  have D1 := Lib.hid (show ([] : List (Ev × Value)).length + es.length ≤ maxLen by unfold maxLen; simp; omega); have D2 := Lib.hid (show (([] : List (Ev × Value)).length + es.length) * 72 ≤ 140737488355328 by simp; omega)
  have D3 := Lib.hid CA.size
  replace OA := Lib.hid OA; replace CA := Lib.hid CA
  replace hgs := Lib.hid hgs
  go_wp2_with (first
    | (at_builtin; refine wpList_append_evs _ rfl (.tmp 42) (.tmp 43) _ rfl w7.heap.size j0 _ Try.underlying24 hj0.out hy0.out hy1.out hy2.out rfl _ [] rfl OA.out (fun b => b < w7.heap.size) _ _ _ es rfl LA.out D1.out D2.out D3.out ?_; intro v8 w8 ys8 hy8 hv8 hown8 hgrow8; rw [List.nil_append] at hown8; have K8 := Lib.hid (CA.out.weak (S' := fun b => w7.heap.size ≤ b) (fun _ _ h => h.elim)); have G8 := Lib.hid (K8.out.grown hgrow8 (fun b hb => .inl (OA.out.lt b hb).1)); have V8 := Lib.hid (hv8.kept ((Chg.refl (fun b => w7.heap.size ≤ b) _).grown hgrow8 (fun b hb => .inl (OA.out.lt b hb).1)) (fun b _ hb hs => absurd hb (by omega))); have M8 := Lib.hid (M7.out.kept G8.out (fun b _ hb hs => absurd hb (by omega))); have O8 := Lib.hid hown8; have Y8 := Lib.hid hy8; have F1 := Lib.hid (show ys8.length + fs.length ≤ maxLen by (have := congrArg List.length hy8; rw [List.length_map] at this; unfold maxLen; omega)); have F2 := Lib.hid (show (ys8.length + fs.length) * 72 ≤ 140737488355328 by (have := congrArg List.length hy8; rw [List.length_map] at this; omega)); have F3 := Lib.hid G8.out.size; clear hy8 hv8 hown8 hgrow8)
    | (at_builtin; refine wpList_append_evs _ rfl (.tmp 44) (.tmp 45) _ rfl w7.heap.size j0 _ Try.underlying24 hj0.out hy0.out hy1.out hy2.out rfl _ ys8 rfl O8.out (fun b => b < w7.heap.size) _ _ _ fs rfl M8.out F1.out F2.out F3.out ?_; intro v9 w9 ys9 hy9 hv9 hown9 hgrow9))
  have K9 : Chg (fun b => w7.heap.size ≤ b) w8 w9 := (Chg.refl _ w8).grown hgrow9 (fun b hb => .inl (O8.out.lt b hb).1)
  have G9 : Chg (fun b => w7.heap.size ≤ b) w7 w9 := G8.out.trans K9
  have V9 : Vals (fun _ => True) w9 (ys8 ++ ys9) := by
    intro x hx
    have hh : ∃ a c, x.2 = .slice a x.1.b.length c ∧ IsB (fun b => b < w7.heap.size) w9 a x.1.b.length c x.1.b := by
      rcases List.mem_append.1 hx with hx | hx
      · exact V8.out.kept K9 (fun b _ hb hs => absurd hb (by omega)) x hx
      · exact hv9.kept K9 (fun b _ hb hs => absurd hb (by omega)) x hx
    obtain ⟨a, c, h1, h2⟩ := hh
    exact ⟨a, c, h1, IsB.weak h2 (fun _ _ _ => trivial)⟩
  obtain ⟨a9, c9, hv9', ie9⟩ := OwnV.isEvs (P := fun _ => True) ⟨hown9, V9⟩ (fun _ _ => trivial)
  have hmap : (ys8 ++ ys9).map (·.1) = gs := by rw [List.map_append, Y8.out, hy9, hgs.out]
  have hlen9 : (ys8 ++ ys9).length = gs.length := by rw [← hmap, List.length_map]
  rw [hmap, hlen9] at ie9
  rw [hlen9] at hv9'
  subst hv9'
  have SE9 := Lib.hid (same_yes gs w9 (G7.out.kept G9 (fun b _ hb hs => absurd hb (by omega))) ie9)
  have C9 := Lib.hid (C7.out.trans (G9.weak (S' := fun _ => False) (fun b hb hs => absurd hb (by omega))))
  have M9 := Lib.hid (M7.out.kept G9 (fun b _ hb hs => absurd hb (by omega)))
  clear K9 G9 V9 hmap hlen9 ie9 hown9 hgrow9 hv9 hy9
  go_wp2_with fail
  refine SE9.out.mono ?_
  rintro e w10 ⟨rfl, c10⟩
  have C10 := Lib.hid (C9.out.trans c10); have M10 := Lib.hid ((M9.out.kept c10 (fun _ _ _ k => k)).weak (P' := fun _ => True) (fun _ _ _ => trivial)); clear c10
  obtain ⟨k, hk⟩ := Int.eq_ofNat_of_zero_le (Int.emod_nonneg a2 (show (len1 : Int) + 1 ≠ 0 by omega))
  have hk1 := Int.emod_lt_of_pos a2 (show (0 : Int) < (len1 : Int) + 1 by omega)
  have PK := Pick.pick_pos a2 ((len1 : Int) + 1) w10 HA0.out HA1.out (by omega) (by omega)
  rw [hk] at PK hk1
  have hkl : k ≤ len1 := by omega
  have hkc : k ≤ cap1 := Nat.le_trans hkl HB.out.capl
  have hcap1 : cap1 ≤ 9223372036854775807 := by have := HB.out.capm; unfold maxLen at this; omega
  replace PK := Lib.hid PK
  clear hk hk1
  obtain ⟨cs, hcs⟩ : ∃ cs, evs (bs.take k) = cs := ⟨_, rfl⟩
  have hcut := cut_evs (xs := bs.take k) (ys := bs.drop k) (fun x hx => bdb.out x (List.mem_of_mem_take hx)) 4096 0
  rw [List.take_append_drop] at hcut
  have hcs2 : evsF (bs.take k) 4096 0 = cs := hcs
  have hfs2 : evsF bs 4096 0 = fs := hfs.out
  rw [hcs2, hfs2] at hcut
  clear hcs2 hfs2
  obtain ⟨q1, q2, q3⟩ := hcut
  have hcl : cs.length ≤ 1000 := by omega
  have EC := events_is _ a1 k cap1 (bs.take k) w10 (Copy.IsB.take (keptT HB.out C10.out) k hkl) (by omega)
  rw [hcs] at EC
  replace EC := Lib.hid EC; replace hcs := Lib.hid hcs
  replace q2 := Lib.hid q2; replace q3 := Lib.hid q3
  go_wp2_with fail
  refine PK.out.mono ?_
  rintro e w11 ⟨rfl, rfl⟩
  go_wp2_with fail
  refine EC.out.mono ?_
  rintro e w12 ⟨ac, cc, rfl, r12⟩
  have I12 := Lib.hid (r12.is.weak (P' := fun _ => True) (fun _ _ _ => trivial)); have C12 := Lib.hid (C10.out.trans r12.chg); have M12 := Lib.hid (M10.out.kept r12.chg (fun _ _ _ k => k)); clear r12
  have ccl : cs.length ≤ cc := I12.out.capl
  have ccm : cc ≤ 9223372036854775807 := by have := I12.out.capm; unfold maxLen at this; omega
  have cml : fs.length ≤ cm := M12.out.capl
  have cmm : cm ≤ 9223372036854775807 := by have := M12.out.capm; unfold maxLen at this; omega
  obtain ⟨nc, hnc⟩ : ∃ n, cs.length = n := ⟨_, rfl⟩
  obtain ⟨nf, hnf⟩ : ∃ n, fs.length = n := ⟨_, rfl⟩
  rw [hnc] at q1 hcl ccl I12 ⊢
  rw [hnf] at q1 hfl cml M12 ⊢
  have D12 : Chg (fun _ => False) w12 w12.drew := (Chg.refl _ w12).drewN 1
  by_cases hz : nc = 0
  · subst hz
    have SE := Lib.hid (fun w => same_none ac am cc cm w)
    have hge : (0 : Int) ≤ (nf : Int) := by omega
    replace D12 := Lib.hid D12
    replace hnc := Lib.hid hnc; replace hnf := Lib.hid hnf
    go_wp2_with fail
    go_quiet ((go_at_call 12; exact Calls.quiet_of_same ((SE.out _).mono fun _ _ h => ⟨h.1, h.2.symm⟩)))
    go_wp2_with fail
    go_ret
    exact ⟨rfl, toBelow (C12.out.drewN _)⟩
  · obtain ⟨n, rfl⟩ : ∃ n, nc = n + 1 := ⟨nc - 1, by omega⟩
    obtain ⟨x, y, hx, hy, hxy⟩ := q3.out (by rw [hnc]; omega)
    have q2' := q2.out
    rw [hnc, Nat.add_sub_cancel] at q2' hx hy
    rcases I12.out.cells with h | ⟨gc, oc, rfl, _, hgc, hc⟩
    · omega
    rcases M12.out.cells with h | ⟨gf, og, rfl, _, hgf, hf⟩
    · omega
    obtain ⟨p1, p2, ex⟩ := hc n x hx
    obtain ⟨p3, p4, ey⟩ := hf n y hy
    have dx := ex.c0
    have dy := ey.c0
    rw [← hxy] at dy
    obtain ⟨kx, hkx⟩ : ∃ kx, x.k = kx := ⟨_, rfl⟩
    rw [hkx] at dx dy
    have SE0 : w12.drew.cell? ⟨gc, oc + n * 7, none⟩ = some (.int .i64 kx) ∧ w12.drew.cell? ⟨gf, og + n * 7, none⟩ = some (.int .i64 kx) := ⟨dx, dy⟩
    have SE := same_yes (cs.take n) w12.drew (Many.IsEvs.take (I12.out.kept D12 (fun _ _ _ k => k)) n (by omega)) (by
      have h := Many.IsEvs.take (M12.out.kept D12 (fun _ _ _ k => k)) n (by omega)
      rw [← q2'] at h; exact h)
    replace SE := Lib.hid SE; replace SE0 := Lib.hid SE0
    have HGC := Lib.hid hgc; have HGF := Lib.hid hgf
    replace D12 := Lib.hid D12
    replace hnc := Lib.hid hnc; replace hnf := Lib.hid hnf
    clear hc hf ex ey dx dy hxy hx hy q2' hkx hgc hgf
    have b1 : (0 : Int) ≤ (n : Int) := by omega
    have b2 : (n : Int) ≤ (cc : Int) := by omega
    have b3 : (n : Int) ≤ (cm : Int) := by omega
    have b5 : (n : Int) < (nf : Int) := by omega
    have b7 : (n : Int) + 1 ≤ (nf : Int) := by omega
    have b8 : (n : Int) < (n : Int) + 1 := by omega
    go_wp2_with fail
    go_region_held3 (fun w' => w'.cell? ⟨gc, oc + n * 7, none⟩ = some (.int .i64 kx) ∧ w'.cell? ⟨gf, og + n * 7, none⟩ = some (.int .i64 kx)) (first | exact SE0.out | exact SE1.out)
      (first | (go_at_call 12; refine SE.out.mono ?_; rintro e w13 ⟨rfl, c13⟩; have SE1 := Lib.hid (show w13.cell? ⟨gc, oc + n * 7, none⟩ = some (.int .i64 kx) ∧ w13.cell? ⟨gf, og + n * 7, none⟩ = some (.int .i64 kx) from ⟨(c13.cell (p := ⟨gc, oc + n * 7, none⟩) HGC.out (fun h => h)).trans SE0.out.1, (c13.cell (p := ⟨gf, og + n * 7, none⟩) HGF.out (fun h => h)).trans SE0.out.2⟩); have C13 := Lib.hid ((C12.out.trans D12.out).trans c13); clear c13))
    go_wp2_with fail
    go_ret
    exact ⟨rfl, toBelow C13.out⟩

end Go.Proofs.Ythdobpfojdcagaa.Behind
