/-
  Contracts of the reference's l6Eval and Holds. (Printed by gen/eval.py.)
-/
import Derived.Test.YtkkhaamklbolmaaEvalNum
import Derived.Test.YtkkhaamklbolmaaOptions
import Derived.Test.YtkkhaamklbolmaaQuietTail
namespace Go.Proofs.Ytkkhaamklbolmaa
open Go.RowKit
set_option linter.unusedVariables false
set_option linter.unusedSimpArgs false

theorem boolC_set (l : List Bool) (m : Nat) (hl : l.length = m + 1) (v : Bool) {j q : Nat} (hj : j < m + 1) (hq : q < 1) : (if j = m ∧ q = 0 then Value.bool v else boolC l j q) = boolC (l.set m v) j q := by
  obtain rfl : q = 0 := by omega
  by_cases e : j = m
  · subst e; simp [boolC, List.getD_eq_getElem?_getD, hl]
  · rw [if_neg (fun h => e h.1)]
    simp [boolC, List.getD_eq_getElem?_getD, List.getElem?_set, Ne.symm e]
theorem boolC_cut (l : List Bool) (m : Nat) (hl : l.length = m + 2) (v : Bool) {j q : Nat} (hj : j < m + 1) (hq : q < 1) : (if j = m ∧ q = 0 then Value.bool v else boolC l j q) = boolC (l.take m ++ [v]) j q := by
  obtain rfl : q = 0 := by omega
  have ht : (l.take m).length = m := by rw [List.length_take]; omega
  by_cases e : j = m
  · subst e; simp [boolC, List.getD_eq_getElem?_getD, List.getElem?_append_right, ht]
  · rw [if_neg (fun h => e h.1)]
    have hjm : j < m := by omega
    simp [boolC, List.getD_eq_getElem?_getD, List.getElem?_append_left (show j < (l.take m).length by omega), List.getElem?_take, hjm]
theorem stk2 {l : List Bool} {m : Nat} (hl : l.length = m + 1) (hb : Bool) : stkN 2 hb l = l.set m (!(l.getD m false)) := by
  unfold stkN; rw [if_neg (by omega), if_neg (by omega), if_pos rfl, hl]; rfl
theorem stk3 {l : List Bool} {m : Nat} (hl : l.length = m + 2) (hb : Bool) : stkN 3 hb l = l.take m ++ [l.getD m false && l.getD (m + 1) false] := by
  unfold stkN; rw [if_neg (by omega), if_neg (by omega), if_neg (by omega), if_pos rfl, hl]; rfl
theorem stk4 {l : List Bool} {m : Nat} (hl : l.length = m + 2) (hb : Bool) : stkN 4 hb l = l.take m ++ [l.getD m false || l.getD (m + 1) false] := by
  unfold stkN; rw [if_neg (by omega), if_neg (by omega), if_neg (by omega), if_neg (by omega), hl]; rfl
theorem OwnV.capLe {B s n cap : Nat} {A : Option Addr} {T : TypeId} {w : World} {F : Nat → Nat → Value} (h : OwnV B w T s (.slice A n cap) n F) : n ≤ cap := by
  obtain ⟨A2, c2, e, hS, _⟩ := h.slice
  injection e with _ _ e3
  rw [e3]; exact hS.le
theorem OwnV.form {B s n : Nat} {T : TypeId} {v : Value} {w : World} {F : Nat → Nat → Value} (h : OwnV B w T s v n F) (hn : 0 < n) : ∃ g c, v = .slice (some ⟨g, 0, none⟩) n c := by
  obtain ⟨hl, ⟨hv, h0⟩ | ⟨g, cap, cur, hv, _⟩⟩ := h.own
  · omega
  · exact ⟨g, cap, hv⟩
set_option maxRecDepth 20000 in
set_option maxHeartbeats 4000000 in
theorem l6Eval_any (w : World) (A : Option Addr) (n c : Nat) (kd : Nat → Int) (op vl : Nat → ByteArray) (h : CondNodeF w A n c kd op vl) (A2 : Option Addr) (m c2 : Nat) (po pv : Nat → ByteArray) (h2 : PickF w A2 m c2 po pv) (hC : isCondB kd op vl n = true) :
    Calls Try.prog 64 #[.slice A n c, .slice A2 m c2] w fun e w' => e = .returned (.bool ((stkS kd op vl po pv m n).getD 0 false)) ∧ Below w.heap.size w w' := by
  have hm := h.le
  have hn30 := isCondB_le hC
  have H := Lib.hid h
  have H2 := Lib.hid h2
  have HC := Lib.hid hC
  clear h h2 hC
  obtain ⟨i0, hi, hz0, hz1, hz2⟩ := info_parts bool_info
  have o1 : OwnV w.heap.size (w.alloc (.cells #[] 4)) 4 1 (.slice (some ⟨w.heap.size, 0, none⟩) 0 0) 0 (boolC []) := OwnV.lit w (Nat.le_refl _) _ 1 0 #[] _ (by simp [flat]) (by omega)
  have O1 := Lib.hid o1
  clear o1
  go_enter Try.func64, Try.ntmps64
  go_wp2_with fail
  go_loopw [5, 6, 7] (fun ov iv _ wr => ∃ (k : Nat) (l : List Bool), iv = .int .i64 (k : Int) ∧ k ≤ n ∧ l = stkS kd op vl po pv m k ∧ OwnV w.heap.size wr 4 1 ov l.length (boolC l) ∧ Below w.heap.size w wr) (fun _ iv _ _ => n - (intOf iv).toNat)
  case atStart => exact ⟨0, [], rfl, Nat.zero_le _, rfl, O1.out, (Below.refl _ _).alloc (Nat.le_refl _) _⟩
  case round =>
    clear O1
    obtain ⟨k, l, rfl, hk, hl, hown, hbe⟩ := hrel
    obtain ⟨h, hr⟩ := runN_all HC.out hk
    have hlen := stkS_length (po := po) (pv := pv) (m := m) hr
    rw [← hl] at hlen
    have hhk := runN_le hr
    by_cases hlt : k < n
    case neg =>
      obtain rfl : k = n := by omega
      have hlt' : ¬ (k : Int) < (k : Int) := by omega
      have h1 : h = 1 := by
        have := isCondB_end hr hn30
        rw [HC.out] at this
        simp at this
        omega
      obtain ⟨g, co, rfl⟩ := hown.form (by omega)
      have hc := hown.cell (g := g) rfl (j := 0) (q := 0) (by omega) (by omega)
      simp only [boolC, Nat.zero_mul, Nat.add_zero] at hc
      rw [hlen, h1] at *
      have HL := Lib.hid hl
      have HB := Lib.hid hbe
      clear hl hbe hown hr
      go_wp2_with fail
      go_ret
      exact ⟨by rw [← HL.out]; rfl, HB.out⟩
    obtain ⟨x, hx⟩ := runN_all HC.out (show k + 1 ≤ n by omega)
    have hkind := runN_kind hr hx
    have hlt' : (k : Int) < (n : Int) := by omega
    obtain ⟨b, o, rfl, hB, c0, c1, c3⟩ := (H.out.call hbe).cells hlt
    obtain ⟨a, ha⟩ : ∃ a, a = op k := ⟨_, rfl⟩
    obtain ⟨d, hd⟩ : ∃ d, d = vl k := ⟨_, rfl⟩
    obtain ⟨K, hK⟩ : ∃ K, K = kd k := ⟨_, rfl⟩
    rw [← hK] at c0 hkind
    rw [← ha] at c1
    rw [← hd] at c3
    have hnext : stkS kd op vl po pv m (k + 1) = stkN K (hasP po pv a d m) l := by rw [hl, ha, hd, hK]; rfl
    have NX := Lib.hid hnext
    have HO := Lib.hid hown
    have HB := Lib.hid hbe
    clear hnext hown hbe hl hr hx ha hd hK
    have hl30 : l.length ≤ 30 := by omega
    rcases hkind with ⟨e | e, hx2⟩ | ⟨e, h1, hx2⟩ | ⟨e | e, h1, hx2⟩
    · subst e
      clear hlen
      obtain ⟨Ao, co, rfl, _, _⟩ := HO.out.slice
      go_wp2_with (at_builtin; refine appS wr rfl _ _ 86 rfl (B := w.heap.size) (i := i0) (z := .bool false) (s := 1) (bytes := 1) (F := boolC (l ++ [true])) (v := .slice Ao l.length co) (n := l.length) (xs := #[.bool true]) Try.underlying86 hi hz0 hz1 hz2 rfl (by decide) rfl (HO.out.congr (fun a b ha hb => boolC_app _ _ ha)) HB.out.size rfl (fun q hq => by obtain rfl : q = 0 := (by omega); simp [boolC_new]) (fun q hq => by rw [boolC_new]; rfl) (by omega) (by decide) ?_)
      intro v7 w7 hv7 hg7 hb7
      obtain ⟨A7, p7, rfl, _, _⟩ := hv7.slice
      have B7 := Lib.hid (below_own HB.out hg7 (fun r hr => (HO.out.lt hr).1) HB.out.size)
      have V7 := Lib.hid hv7
      clear hv7 hg7 hb7
      go_wp2_with fail
      go_roundw
      case rel => exact ⟨k + 1, _, by go_num, by omega, (NX.out.trans (show stkN 0 _ l = l ++ [true] from rfl)).symm, by rw [List.length_append]; exact V7.out, B7.out⟩
      case measure => simp [intOf]; omega
    · subst e
      clear hlen
      obtain ⟨Ao, co, rfl, _, _⟩ := HO.out.slice
      have PH := Lib.hid (H2.out.call HB.out)
      obtain ⟨hb, hhb⟩ : ∃ hb, hb = hasP po pv a d m := ⟨_, rfl⟩
      have HHB := Lib.hid hhb
      clear hhb
      go_wp2_with fail
      have HCALL := Lib.hid (show ∀ W : World, Below wr.heap.size wr W → Calls Try.prog 92 #[.slice A2 m c2, .string a, .string d] W fun e w' => e = .returned (.bool hb) ∧ w' = W from fun W hW => by rw [HHB.out]; exact l6Has_any W A2 m c2 po pv a d (PH.out.call hW))
      have HAPP := Lib.hid (HO.out.congr (fun j q hj hq => boolC_app l hb hj))
      have NN := Lib.hid (NX.out.trans (show stkN 1 _ l = l ++ [hb] by rw [HHB.out]; rfl))
      have AR := Lib.hid (show l.length ≤ 30 ∧ k + 1 ≤ n ∧ k < n ∧ n ≤ 30 from ⟨hl30, by omega, hlt, hn30⟩)
      clear hl30 hlt hk hhk hx2 hm hn30 c0 PH HHB NX H H2 HC
      refine wp_region_quiet_tail1 (C := fun w' => ∃ n, w' = wr.drewN n) (v := .slice Ao l.length co) 12 (by kernel_rfl) rfl (fun w => by go_simp) (by kernel_rfl) (by kernel_rfl) (by kernel_rfl) (fun _ _ _ h => h) ⟨1, rfl⟩ ?_
      simp only [List.take_succ_cons, List.take_zero, List.drop_succ_cons, List.drop_zero]
      repeat (first | go_big_quiet_step ((go_at_call 92; exact Calls.quiet_of_same (HCALL.out _ (below_drewN (Below.refl _ _) _)))) | quiet_step ((go_at_call 92; exact Calls.quiet_of_same (HCALL.out _ (below_drewN (Below.refl _ _) _)))))
      refine wpQuiet_nil ?_
      rintro w4 ⟨nq, hw4⟩
      have HA4 := Lib.hid (show OwnV w.heap.size w4 4 1 (.slice Ao l.length co) l.length (boolC (l ++ [hb])) by (rw [hw4]; exact HAPP.out.drewN nq))
      have HB4 := Lib.hid (show Below w.heap.size w w4 by (rw [hw4]; exact below_drewN HB.out nq))
      clear hw4 c1 c3 HB HAPP HCALL
      go_wp2_with (at_builtin; refine appS w4 rfl _ _ 86 rfl (B := w.heap.size) (i := i0) (z := .bool false) (s := 1) (bytes := 1) (F := boolC (l ++ [hb])) (v := .slice Ao l.length co) (n := l.length) (xs := #[.bool hb]) Try.underlying86 hi hz0 hz1 hz2 rfl (by decide) rfl HA4.out HB4.out.size rfl (fun q hq => by obtain rfl : q = 0 := (by omega); simp [boolC_new]) (fun q hq => by rw [boolC_new]; rfl) (by have := AR.out; omega) (by decide) ?_)
      intro v7 w7 hv7 hg7 hb7
      obtain ⟨A7, p7, rfl, _, _⟩ := hv7.slice
      have B7 := Lib.hid (below_own HB4.out hg7 (fun r hr => (HO.out.lt hr).1) HB4.out.size)
      have V7 := Lib.hid hv7
      clear hv7 hg7 hb7
      have hk30 : (k : Int) ≤ 30 := by have := AR.out; omega
      go_wp2_with fail
      go_roundw
      case rel => have hAR := AR.out; exact ⟨k + 1, _, by go_num, AR.out.2.1, NN.out.symm, by rw [List.length_append]; exact V7.out, B7.out⟩
      case measure => have := AR.out; simp [intOf]; omega
    · subst e
      obtain ⟨j, rfl⟩ : ∃ j, h = j + 1 := ⟨h - 1, by omega⟩
      obtain ⟨g, co, rfl⟩ := HO.out.form (by omega)
      have cj := HO.out.cell (g := g) rfl (j := j) (q := 0) (by omega) (by omega)
      have fj := HO.out.frozen (g := g) rfl (j * 1 + 0)
      have own2 := (HO.out.set (g := g) rfl (j := j) (q := 0) (by omega) (by omega) (.bool (!(l.getD j false))))
      have OW := Lib.hid (own2.congr (fun a b ha hb => boolC_set l j hlen _ (by omega) hb))
      have BB := Lib.hid (HB.out.setCell (p := ⟨g, j * 1 + 0, none⟩) (HO.out.lt rfl).1 (.bool (!(l.getD j false))))
      have N2 := Lib.hid (NX.out.trans (stk2 hlen _))
      simp only [Nat.mul_one, Nat.add_zero, boolC] at cj fj
      simp only [Nat.mul_one, Nat.add_zero] at OW BB
      have LT := Lib.hid (show ∀ x, (l.set j x).length = j + 1 from fun x => by rw [List.length_set]; exact hlen)
      generalize l.getD j false = bj at *
      rw [hlen] at OW ⊢
      clear own2 hlen
      go_wp2_with fail
      go_roundw
      case rel => exact ⟨k + 1, l.set j (!bj), by go_num, by omega, N2.out.symm, by rw [LT.out]; exact OW.out, BB.out⟩
      case measure => simp [intOf]; omega
    · subst e
      obtain ⟨j, rfl⟩ : ∃ j, h = j + 2 := ⟨h - 2, by omega⟩
      obtain ⟨g, co, rfl⟩ := HO.out.form (by omega)
      have cj := HO.out.cell (g := g) rfl (j := j) (q := 0) (by omega) (by omega)
      have cj1 := HO.out.cell (g := g) rfl (j := j + 1) (q := 0) (by omega) (by omega)
      have fj := HO.out.frozen (g := g) rfl (j * 1 + 0)
      have HCO := Lib.hid (show j + 2 ≤ co by have := HO.out.capLe; omega)
      have own2 := (HO.out.set (g := g) rfl (j := j) (q := 0) (by omega) (by omega) (.bool (l.getD j false && l.getD (j + 1) false)))
      have OW := Lib.hid ((own2.front (m := j + 1) (by omega)).congr (fun a b ha hb => boolC_cut l j hlen _ (by omega) hb))
      have BB := Lib.hid (HB.out.setCell (p := ⟨g, j * 1 + 0, none⟩) (HO.out.lt rfl).1 (.bool (l.getD j false && l.getD (j + 1) false)))
      have N2 := Lib.hid (NX.out.trans (stk3 hlen _))
      simp only [Nat.mul_one, Nat.add_zero, boolC] at cj fj cj1
      simp only [Nat.mul_one, Nat.add_zero] at OW BB
      have lt2 : (l.take j).length = j := by rw [List.length_take]; omega
      have LT := Lib.hid lt2
      generalize l.getD j false = bj at *
      generalize l.getD (j + 1) false = bk at *
      rw [hlen] at *
      clear own2 hlen lt2
      have q1 : ((j + 2 : Nat) : Int) - 2 = (j : Int) := by omega
      have q2 : ((j + 2 : Nat) : Int) - 1 = ((j + 1 : Nat) : Int) := by omega
      have q3 : j + 2 ≤ co := HCO.out
      cases bj
      all_goals
        go_wp2_with fail
        go_roundw
        case rel => exact ⟨k + 1, _, by go_num, by omega, N2.out.symm, by rw [List.length_append, LT.out]; exact OW.out, BB.out⟩
        case measure => simp [intOf]; omega
    · subst e
      obtain ⟨j, rfl⟩ : ∃ j, h = j + 2 := ⟨h - 2, by omega⟩
      obtain ⟨g, co, rfl⟩ := HO.out.form (by omega)
      have cj := HO.out.cell (g := g) rfl (j := j) (q := 0) (by omega) (by omega)
      have cj1 := HO.out.cell (g := g) rfl (j := j + 1) (q := 0) (by omega) (by omega)
      have fj := HO.out.frozen (g := g) rfl (j * 1 + 0)
      have HCO := Lib.hid (show j + 2 ≤ co by have := HO.out.capLe; omega)
      have own2 := (HO.out.set (g := g) rfl (j := j) (q := 0) (by omega) (by omega) (.bool (l.getD j false || l.getD (j + 1) false)))
      have OW := Lib.hid ((own2.front (m := j + 1) (by omega)).congr (fun a b ha hb => boolC_cut l j hlen _ (by omega) hb))
      have BB := Lib.hid (HB.out.setCell (p := ⟨g, j * 1 + 0, none⟩) (HO.out.lt rfl).1 (.bool (l.getD j false || l.getD (j + 1) false)))
      have N2 := Lib.hid (NX.out.trans (stk4 hlen _))
      simp only [Nat.mul_one, Nat.add_zero, boolC] at cj fj cj1
      simp only [Nat.mul_one, Nat.add_zero] at OW BB
      have lt2 : (l.take j).length = j := by rw [List.length_take]; omega
      have LT := Lib.hid lt2
      generalize l.getD j false = bj at *
      generalize l.getD (j + 1) false = bk at *
      rw [hlen] at *
      clear own2 hlen lt2
      have q1 : ((j + 2 : Nat) : Int) - 2 = (j : Int) := by omega
      have q2 : ((j + 2 : Nat) : Int) - 1 = ((j + 1 : Nat) : Int) := by omega
      have q3 : j + 2 ≤ co := HCO.out
      cases bj
      all_goals
        go_wp2_with fail
        go_roundw
        case rel => exact ⟨k + 1, _, by go_num, by omega, N2.out.symm, by rw [List.length_append, LT.out]; exact OW.out, BB.out⟩
        case measure => simp [intOf]; omega
theorem spec_Holds (w : World) (A : Option Addr) (n c : Nat) (kd : Nat → Int) (op vl : Nat → ByteArray) (h : CondNodeF w A n c kd op vl) (A2 : Option Addr) (m c2 : Nat) (po pv : Nat → ByteArray) (h2 : PickF w A2 m c2 po pv) :
    Calls Try.prog 27 #[.slice A n c, .slice A2 m c2] w fun e w' => e = .returned (.bool (holdsB kd op vl po pv n m)) ∧ Below w.heap.size w w' := by
  have H := Lib.hid h
  have H2 := Lib.hid h2
  clear h h2
  cases hC : isCondB kd op vl n with
  | false =>
    have e : holdsB kd op vl po pv n m = false := by unfold holdsB; rw [hC]; rfl
    rw [e]
    clear e
    go_enter Try.func27, Try.ntmps27
    go_wp2_with fail
    refine (spec_IsCond _ A n c kd op vl H.out).mono ?_; rintro e w2 ⟨rfl, b2⟩
    rw [hC]
    go_wp2_with fail
    go_ret
    exact ⟨rfl, b2⟩
  | true =>
    have e : holdsB kd op vl po pv n m = (stkS kd op vl po pv m n).getD 0 false := by unfold holdsB; rw [hC]; rfl
    rw [e]
    clear e
    obtain ⟨R, hR⟩ : ∃ R, R = (stkS kd op vl po pv m n).getD 0 false := ⟨_, rfl⟩
    rw [← hR]
    have HR := Lib.hid hR
    have HC := Lib.hid hC
    clear hR
    go_enter Try.func27, Try.ntmps27
    go_wp2_with fail
    refine (spec_IsCond _ A n c kd op vl H.out).mono ?_; rintro e w2 ⟨rfl, b2⟩
    rw [hC]
    clear hC
    go_wp2_with fail
    refine (l6Eval_any _ A n c kd op vl (H.out.call b2) A2 m c2 po pv (H2.out.call b2) HC.out).mono ?_; rw [← HR.out]; rintro e w3 ⟨rfl, b3⟩
    have B3 := Lib.hid (b2.trans (b3.mono b2.size))
    clear b2 b3
    go_wp2_with fail
    go_ret
    exact ⟨by cases R <;> rfl, B3.out⟩
end Go.Proofs.Ytkkhaamklbolmaa
