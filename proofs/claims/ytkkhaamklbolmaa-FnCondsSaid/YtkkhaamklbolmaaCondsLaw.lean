/-
  The law FnConds: what it draws, how it compares, its walk.
-/
import Derived.Test.YtkkhaamklbolmaaReadTxt
import Derived.Test.YtkkhaamklbolmaaDrawCond
import Derived.Test.YtkkhaamklbolmaaFormat3
namespace Go.Proofs.Ytkkhaamklbolmaa
open Go.RowKit Go.Sort
set_option linter.unusedVariables false
set_option linter.unusedSimpArgs false

/-- a drawn list of nodes, and the place that it lies in -/
def DrawC (w : World) (e : Ending) (w' : World) : Prop := ∃ (A : Option Addr) (c : Nat) (L : List Nd), e = .returned (.slice A L.length c) ∧ CondNodeF w' A L.length c (ndK L) (ndO L) (ndV L) ∧ L.length ≤ 15 ∧ NdOk L ∧ Below w.heap.size w w'
theorem DrawFormatCond_any (w : World) (A : Option Addr) (len cap : Nat) (hb : Bytes w A len) :
    Calls Try.prog 39 #[.slice A len cap] w (DrawC w) := by
  go_enter Try.func39, Try.ntmps39
  go_wp2_with fail
  refine (l1New_any _ _ _ _ hb).mono ?_
  rintro e w1 ⟨g, rfl, c1, b1⟩
  have hg0 := c1.base
  have C1 := Lib.hid c1
  have B1 := Lib.hid b1
  clear c1 b1
  go_wp2_with fail
  refine (l6Any_any _ g _ C1.out).mono ?_
  rintro e w2 ⟨A1, c1', L, rfl, o2, nL, n1, n2, c2, g2⟩
  have B2 := Lib.hid (B1.out.trans (grown_below g2 hg0 B1.out.size))
  have NL := Lib.hid nL
  have O2 := Lib.hid o2
  clear c2 g2 nL o2
  go_wp2_with fail
  go_ret
  exact ⟨A1, c1', L, rfl, nd_condF O2.out NL.out, n2, NL.out, B2.out⟩
theorem spec_Format_some {L : List Nd} (hl : L.length ≤ 15) (A : Option Addr) (c : Nat) : ∃ T : ByteArray, T.size ≤ 400 ∧ ∀ W, CondNodeF W A L.length c (ndK L) (ndO L) (ndV L) → Calls Try.prog 24 #[.slice A L.length c] W fun e w' => e = .returned (.string T) ∧ Below W.heap.size W w' := by
  cases hC : isCondB (ndK L) (ndO L) (ndV L) L.length with
  | false => exact ⟨⟨#[]⟩, by decide, fun W h => spec_FormatCond_no W A _ c _ _ _ h hC⟩
  | true =>
    obtain ⟨t, hs⟩ := tree_of hC
    exact ⟨t.txt, by have := hs.size; omega, fun W h => spec_FormatCond_yes W A _ c _ _ _ h hC hs⟩
def DrawX (w : World) (e : Ending) (w' : World) : Prop := ∃ x : ByteArray, e = .returned (.string x) ∧ x.size ≤ 1000 ∧ Below w.heap.size w w'
set_option maxRecDepth 20000 in
set_option maxHeartbeats 4000000 in
theorem DrawParseCond_any (w : World) (A : Option Addr) (len cap : Nat) (hb : Bytes w A len) :
    Calls Try.prog 40 #[.slice A len cap] w (DrawX w) := by
  go_enter Try.func40, Try.ntmps40
  go_wp2_with fail
  refine (l1New_any _ _ _ _ hb).mono ?_
  rintro e w1 ⟨g, rfl, c1, b1⟩
  have hg0 := c1.base
  have C1 := Lib.hid c1
  have B1 := Lib.hid b1
  clear c1 b1
  go_wp2_with fail
  refine (l6Draw_any 3 3 rfl (by omega) _ g _ C1.out).mono ?_
  rintro e w2 ⟨A1, c1', L, rfl, o2, nL, n1, n2, c2, g2⟩
  have n15 : L.length ≤ 15 := n2
  obtain ⟨T, hT, hF⟩ := spec_Format_some n15 A1 c1'
  have F2 := Lib.hid (hF _ (nd_condF o2 nL))
  have C2 := Lib.hid c2
  have B2 := Lib.hid (B1.out.trans (grown_below g2 hg0 B1.out.size))
  clear c2 g2 nL o2 hF n1 n2
  go_wp2_with fail
  refine F2.out.mono ?_
  rintro e w3 ⟨rfl, b3⟩
  have C3 := Lib.hid (C2.out.call b3)
  have B3 := Lib.hid (B2.out.trans (b3.mono B2.out.size))
  clear b3
  go_wp2_with fail
  refine (l1Once_any _ g _ 3 C3.out (by omega) (by omega)).mono ?_
  rintro e w4 ⟨v, rfl, ⟨b, rfl⟩, c4, g4⟩
  have C4 := Lib.hid c4
  have B4 := Lib.hid (B3.out.trans (grown_below g4 hg0 B3.out.size))
  clear c4 g4
  cases b
  · go_wp2_with fail
    go_ret
    exact ⟨T, rfl, by omega, B4.out⟩
  by_cases h0 : (0 : Int) < (T.size : Int)
  case neg =>
    go_wp2_with fail
    go_ret
    exact ⟨T, rfl, by omega, B4.out⟩
  go_wp2_with fail
  refine (l1Below_any _ g _ _ C4.out (by omega) (by omega)).mono ?_
  rintro e w5 ⟨v, rfl, ⟨x, rfl, x0, x1⟩, c5, g5⟩
  obtain ⟨k, rfl⟩ : ∃ j : Nat, x = (j : Int) := ⟨x.toNat, by omega⟩
  have hk : k < T.size := by omega
  have hk1 : (k : Int) ≤ (T.size : Int) := by omega
  have hk2 : (k : Int) + 1 ≤ (T.size : Int) := by omega
  have hk3 : (0 : Int) ≤ (k : Int) + 1 := by omega
  have u1 : IntKind.i64.wrap ((k : Int) + 1) = (k : Int) + 1 := IntWalk.i64_in _ ⟨by omega, by omega⟩
  have C5 := Lib.hid c5
  have B5 := Lib.hid (B4.out.trans (grown_below g5 hg0 B4.out.size))
  have lt5 := c5.lt
  clear c5 g5
  go_wp2_with fail
  go_region_law (first
      | (go_simp
         go_at_call 77
         refine (l1Pick_any w.heap.size g _ 7 7 _ (Short 8) ?c1 (by omega) (by omega) ?c4 ?c5 ?c6).mono ?_
         case c1 => (have h := C5.out; repeat' (first | (with_reducible assumption) | refine Cur.alloc ?_ _ | refine Cur.drewN ?_ _ | refine Cur.drew ?_ | omega | (simp; done) | (simp; omega)))
         case c4 => (simp; omega)
         case c5 => (first | (simp; done) | (simp; omega))
         case c6 => (intro j hj; rcases (by omega : j = 0 ∨ j = 1 ∨ j = 2 ∨ j = 3 ∨ j = 4 ∨ j = 5 ∨ j = 6) with rfl | rfl | rfl | rfl | rfl | rfl | rfl <;> exact ⟨_, by simp [go_sem]; rfl, _, rfl, by decide⟩)
         rintro e w6 ⟨vv, rfl, ⟨z, rfl, hz⟩, c6, hg6⟩
         have B6 := Lib.hid (show Below w.heap.size w w6 from (show Below w.heap.size w _ by (have h := B5.out; repeat' (first | (with_reducible assumption) | refine Below.alloc ?_ ?_ _ | refine below_drewN ?_ _ | refine Below.drew ?_ | omega | (simp; done) | (simp; omega)))).trans (grown_below hg6 hg0 (by simp; omega)))
         have q1 : ¬ 9223372036854775807 < min k T.size + z.size := by omega
         have q2 : ¬ 9223372036854775807 < min k T.size + z.size + (T.size - (k + 1)) := by omega
         clear c6 hg6))
  all_goals
    go_wp2_with fail
    go_ret
    refine ⟨_, rfl, ?_, ?_⟩
    · rw [ByteArray.size_append, ByteArray.size_append, ByteArray.size_extract, ByteArray.size_extract]; omega
    · have h := B6.out
      repeat' (first | (with_reducible assumption) | refine Below.alloc ?_ ?_ _ | refine below_drewN ?_ _ | refine Below.drew ?_ | omega | (simp; done) | (simp; omega))
theorem bytes_call {w w' : World} {A : Option Addr} {len : Nat} (h : Bytes w A len) (hb : Below w.heap.size w w') : Bytes w' A len :=
  ⟨h.1, fun j hj => by
    obtain ⟨b, o, x, e, hB, h0, h1, hc⟩ := h.2 j hj
    exact ⟨b, o, x, e, Nat.lt_of_lt_of_le hB hb.size, h0, h1, (hb.cell (p := ⟨b, o + j, none⟩) hB).trans hc⟩⟩
theorem sameConds_same (w : World) (A A' : Option Addr) (n c c' : Nat) (kd : Nat → Int) (op vl : Nat → ByteArray) (h : CondNodeF w A n c kd op vl) (h' : CondNodeF w A' n c' kd op vl) :
    Calls Try.prog 41 #[.slice A n c, .slice A' n c'] w fun e w' => e = .returned (.bool true) ∧ Below w.heap.size w w' := by
  have H := Lib.hid h
  have H' := Lib.hid h'
  have hn := h.le
  clear h h'
  have hnn : ((n : Int) != (n : Int)) = false := by simp
  go_enter Try.func41, Try.ntmps41
  go_wp2_with fail
  go_loopw [5] (fun i wr => ∃ j : Nat, j ≤ n ∧ i = .int .i64 (j : Int) ∧ Below w.heap.size w wr) (fun i _ => n - (intOf i).toNat)
  case atStart => exact ⟨0, Nat.zero_le _, rfl, Below.refl _ _⟩
  case round =>
    obtain ⟨j, hj, rfl, hbe⟩ := hrel
    have BE := Lib.hid hbe
    by_cases hlt : j < n
    · have hlt' : (j : Int) < (n : Int) := by omega
      have Hw := Lib.hid (H.out.call hbe)
      have Hw' := Lib.hid (H'.out.call hbe)
      clear hbe
      obtain ⟨b, o, rfl, hB, k0, k1, k2⟩ := Hw.out.cells hlt
      obtain ⟨b', o', rfl, hB', k0', k1', k2'⟩ := Hw'.out.cells hlt
      have f0 := Hw.out
      go_wp2_with fail
      go_quiet (fail)
      go_wp2_with fail
      go_roundw
      case rel => exact ⟨j + 1, by omega, by go_num, below_drewN BE.out _⟩
      case measure => simp [intOf]; omega
    · obtain rfl : j = n := by omega
      go_wp2_with fail
      go_ret
      exact ⟨rfl, BE.out⟩
theorem list_of {L M : List Nd} (hl : L.length = M.length) (h : ∀ j, j < M.length → (ndK L j, ndO L j, ndV L j) = ndAt M j) : L = M := by
  refine List.ext_getElem hl fun j h1 h2 => ?_
  have e := h j h2
  unfold ndK ndO ndV ndAt at e
  simp only [List.getD_eq_getElem?_getD, List.getElem?_eq_getElem h1, List.getElem?_eq_getElem h2, Option.getD_some] at e
  exact e
set_option maxRecDepth 20000 in
set_option maxHeartbeats 4000000 in
theorem law_Conds (w : World) (A : Option Addr) (len cap : Nat) (hb : Bytes w A len) :
    Calls Try.prog 10 #[.slice A len cap] w fun e w' => e = .returned (.bool true) ∧ Below w.heap.size w w' := by
  have hm := hb.1
  have HB := Lib.hid hb
  clear hb
  by_cases hbig : 1048576 < len
  · have hd : decide (1048576 < len) = true := by simpa using hbig
    go_enter Try.func10, Try.ntmps10
    go_wp2_with fail
    refine (big_any _ _ _ _ hm).mono ?_; rintro e w1 ⟨rfl, hw⟩; obtain rfl := hw.symm
    rw [hd]
    go_wp2_with fail
    go_ret
    exact ⟨rfl, Below.refl _ _⟩
  have hd : decide (1048576 < len) = false := by simpa using hbig
  go_enter Try.func10, Try.ntmps10
  go_wp2_with fail
  refine (big_any _ _ _ _ hm).mono ?_; rintro e w1 ⟨rfl, hw⟩; obtain rfl := hw.symm
  rw [hd]
  clear hd hbig
  go_wp2_with fail
  refine (DrawFormatCond_any _ _ _ _ HB.out).mono ?_
  rintro e w1 ⟨A1, c1, L, rfl, h1, l15, nok, b1⟩
  have H1 := Lib.hid h1
  have B1 := Lib.hid b1
  obtain ⟨cnd, hcnd⟩ : ∃ b, b = isCondB (ndK L) (ndO L) (ndV L) L.length := ⟨_, rfl⟩
  have SC := Lib.hid (fun (W : World) (hW : CondNodeF W A1 L.length c1 (ndK L) (ndO L) (ndV L)) => spec_IsCond W A1 L.length c1 _ _ _ hW)
  rw [← hcnd] at SC
  cases cnd
  · have FM := Lib.hid (fun (W : World) (hW : CondNodeF W A1 L.length c1 (ndK L) (ndO L) (ndV L)) => impl_FormatCond_no W A1 L.length c1 _ _ _ hW hcnd.symm)
    clear h1 b1 hcnd nok
    go_wp2_with fail
    refine (FM.out _ H1.out).mono ?_; rintro e w2 ⟨rfl, b2⟩
    have H2 := Lib.hid (H1.out.call b2)
    have B2 := Lib.hid (B1.out.trans (b2.mono B1.out.size))
    clear b2
    go_wp2_with fail
    refine (impl_ParseCond mt _ (by decide)).mono ?_; rintro e w3 ⟨b, _, _, A3, c3, rfl, _, b3⟩
    have H3 := Lib.hid (H2.out.call b3)
    have B3 := Lib.hid (B2.out.trans (b3.mono B2.out.size))
    clear b3
    go_wp2_with fail
    refine (SC.out _ H3.out).mono ?_; rintro e w4 ⟨rfl, b4⟩
    have B4 := Lib.hid (B3.out.trans (b4.mono B3.out.size))
    clear b4
    go_wp2_with fail
    go_ret
    exact ⟨rfl, B4.out⟩
  · obtain ⟨t, hs⟩ := tree_of hcnd.symm
    have FM := Lib.hid (fun (W : World) (hW : CondNodeF W A1 L.length c1 (ndK L) (ndO L) (ndV L)) => impl_FormatCond_yes W A1 L.length c1 _ _ _ hW hcnd.symm hs)
    obtain ⟨n1, n2⟩ := Sub.nodes (texts_of hcnd.symm) hs (Nat.le_refl _)
    have hLt : L = t.nodes := list_of (by omega) (fun j hj => by have := n2 j hj; rwa [Nat.zero_add] at this)
    have hts : t.txt.size ≤ 1048576 := by have := hs.size; omega
    have PC := Lib.hid (fun (W : World) => (impl_ParseCond t.txt W hts).mono (fun e w' hh => show NegRet W L true e w' by
      obtain ⟨b, hr, _, hn⟩ := hh
      have eb := read_print hs.good (by rw [← hLt]; omega) hr
      have e1 : okB t.txt b = true := by
        unfold okB; rw [eb]; simp only [Bool.not_false, Bool.true_and, decide_true]; rw [← hLt]; exact hcnd.symm
      have e2 : okL t.txt b = L := by unfold okL; rw [e1, eb, hLt]; rfl
      rw [e1, e2] at hn
      exact hn))
    generalize t.txt = T at *
    clear h1 b1 hcnd n1 n2 hs hLt
    go_wp2_with fail
    refine (FM.out _ H1.out).mono ?_; rintro e w2 ⟨rfl, b2⟩
    have H2 := Lib.hid (H1.out.call b2)
    have B2 := Lib.hid (B1.out.trans (b2.mono B1.out.size))
    clear b2
    go_wp2_with fail
    refine (PC.out _).mono ?_; rintro e w3 ⟨A3, c3, rfl, o3, b3⟩
    have H3 := Lib.hid (H2.out.call b3)
    have B3 := Lib.hid (B2.out.trans (b3.mono B2.out.size))
    have M3 := Lib.hid (nd_condF o3 nok)
    clear b3 o3
    go_wp2_with fail
    refine (SC.out _ H3.out).mono ?_; rintro e w4 ⟨rfl, b4⟩
    have H4 := Lib.hid (H3.out.call b4)
    have M4 := Lib.hid (M3.out.call b4)
    have B4 := Lib.hid (B3.out.trans (b4.mono B3.out.size))
    clear b4
    go_wp2_with fail
    have HB4 := Lib.hid (bytes_call HB.out B4.out)
    refine (DrawParseCond_any _ _ _ _ HB4.out).mono ?_; rintro e w5 ⟨x, rfl, hx, b5⟩
    have H5 := Lib.hid (H4.out.call b5)
    have M5 := Lib.hid (M4.out.call b5)
    have B5 := Lib.hid (B4.out.trans (b5.mono B4.out.size))
    clear b5
    go_wp2_with fail
    refine (impl_ParseCond x _ (by omega)).mono ?_; rintro e w6 ⟨b, hr, ha, A6, c6, rfl, o6, b6⟩
    have H6 := Lib.hid (H5.out.call b6)
    have M6 := Lib.hid (M5.out.call b6)
    have B6 := Lib.hid (B5.out.trans (b6.mono B5.out.size))
    cases hq : okB x b
    · clear b6 o6 hr ha
      go_wp2_with fail
      refine (sameConds_same _ _ _ _ _ _ _ _ _ M6.out H6.out).mono ?_; rintro e w7 ⟨rfl, b7⟩
      have B7 := Lib.hid (B6.out.trans (b7.mono B6.out.size))
      clear b7
      go_wp2_with fail
      go_ret
      exact ⟨rfl, B7.out⟩
    · obtain ⟨u, ug, ue, ul⟩ := read_tree hr hq
      have N6 := Lib.hid (nd_reads (own_slice o6).1 (okL_bd ha))
      have hc2 : isCondB (ndK (okL x b)) (ndO (okL x b)) (ndV (okL x b)) (okL x b).length = true := by
        have e : okL x b = b.L := by unfold okL; rw [hq]; rfl
        rw [e]
        unfold okB at hq
        simp only [Bool.and_eq_true] at hq
        exact hq.2.2
      have hsub : Sub (ndK (okL x b)) (ndO (okL x b)) (ndV (okL x b)) 0 (okL x b).length u := by rw [ue]; exact nodes_list ug
      have S2 := Lib.hid (fun (W : World) (hW : CondNodeF W A6 (okL x b).length c6 (ndK (okL x b)) (ndO (okL x b)) (ndV (okL x b))) => spec_IsCond W A6 _ c6 _ _ _ hW)
      rw [hc2] at S2
      have F2 := Lib.hid (fun (W : World) (hW : CondNodeF W A6 (okL x b).length c6 (ndK (okL x b)) (ndO (okL x b)) (ndV (okL x b))) => impl_FormatCond_yes W A6 _ c6 _ _ _ hW hc2 hsub)
      have hul : ((u.txt.size : Nat) : Int) ≤ (x.size : Int) := by omega
      clear b6 o6 hr ha hc2 hsub ue
      generalize okL x b = M at *
      generalize u.txt = U at *
      go_wp2_with fail
      refine (sameConds_same _ _ _ _ _ _ _ _ _ M6.out H6.out).mono ?_; rintro e w7 ⟨rfl, b7⟩
      have N7 := Lib.hid (N6.out.call b7)
      have B7 := Lib.hid (B6.out.trans (b7.mono B6.out.size))
      clear b7
      go_wp2_with fail
      refine (S2.out _ N7.out).mono ?_; rintro e w8 ⟨rfl, b8⟩
      have N8 := Lib.hid (N7.out.call b8)
      have B8 := Lib.hid (B7.out.trans (b8.mono B7.out.size))
      clear b8
      go_wp2_with fail
      refine (F2.out _ N8.out).mono ?_; rintro e w9 ⟨rfl, b9⟩
      have B9 := Lib.hid (B8.out.trans (b9.mono B8.out.size))
      clear b9
      go_wp2_with fail
      go_ret
      exact ⟨rfl, B9.out⟩
end Go.Proofs.Ytkkhaamklbolmaa
