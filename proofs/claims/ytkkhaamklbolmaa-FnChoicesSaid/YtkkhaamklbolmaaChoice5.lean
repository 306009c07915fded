/-
  The law FnChoices, but for what it draws.
-/
import Derived.Test.YtkkhaamklbolmaaChoice2
import Derived.Test.YtkkhaamklbolmaaChoice4
import Derived.Lib.QuietBelow
namespace Go.Proofs.Ytkkhaamklbolmaa
open Go.RowKit Go.Sort
set_option linter.unusedVariables false
set_option linter.unusedSimpArgs false

/-- a drawn model -/
def DrawM (w : World) (e : Ending) (w' : World) : Prop := ∃ (A : Option Addr) (n c : Nat) (D : OptD) (P : Loc) (A2 : Option Addr) (m c2 : Nat) (E : RulD) (Q : Loc), e = .returned (.agg #[.slice A n c, .slice A2 m c2]) ∧ OptsF w' A n c D P ∧ RulsF w' A2 m c2 E Q ∧ Below w.heap.size w w'
theorem isChoice_fit (w : World) (A : Option Addr) (n c : Nat) (D : OptD) (P : Loc) (A2' : Option Addr) (m c2' : Nat) (E : RulD) (Q : Loc) (h : OptsF w A n c D P) (h2 : RulsF w A2' m c2' E Q)
    (hmd : mdlB n D m E = true) (X : List Pk) (hXm : X ∈ allL D n) (A3 : Option Addr) (c3 : Nat) (hX : PickF w A3 X.length c3 (pkO X) (pkV X)) :
    Calls Try.prog 50 #[.agg #[.slice A n c, .slice A2' m c2'], .slice A3 X.length c3] w fun e w' => e = .returned (.bool (fitN E X m)) ∧ Below w.heap.size w w' := by
  refine (isChoice_any w A n c D P A2' m c2' E Q h h2 (fun i hi k hk => (h.vals i hi).size k hk) hmd X A3 c3 hX).mono ?_
  rintro e w' ⟨q, rfl, hq, hb⟩
  have key : X ∈ goodL D n E m ↔ fitN E X m = true := by unfold goodL; rw [List.mem_filter]; exact ⟨fun h => h.2, fun h => ⟨hXm, h⟩⟩
  refine ⟨?_, hb⟩
  rw [key] at hq
  cases q <;> cases hf : fitN E X m <;> simp_all
theorem filter_at {f : List Pk → Bool} {R : List (List Pk)} {i : Nat} (hi : i < R.length) (hf : f (R.getD i []) = true) : ((R.take i).filter f).length < (R.filter f).length ∧ (R.filter f).getD ((R.take i).filter f).length [] = R.getD i [] := by
  have e0 : R = R.take i ++ R.getD i [] :: R.drop (i + 1) := by
    have h1 : R.drop i = R.getD i [] :: R.drop (i + 1) := by rw [List.drop_eq_getElem_cons hi, List.getD_eq_getElem?_getD, List.getElem?_eq_getElem hi]; rfl
    rw [← h1, List.take_append_drop]
  obtain ⟨Y, hY⟩ : ∃ Y, Y = R.getD i [] := ⟨_, rfl⟩
  rw [← hY] at e0 hf ⊢
  have e1 : R.filter f = (R.take i).filter f ++ Y :: (R.drop (i + 1)).filter f := by
    conv => lhs; rw [e0]
    rw [List.filter_append, List.filter_cons_of_pos hf]
  rw [e1]
  constructor
  · simp
  · rw [List.getD_eq_getElem?_getD, List.getElem?_append_right (Nat.le_refl _)]; simp
set_option maxRecDepth 20000 in
set_option maxHeartbeats 8000000 in
theorem law_Choices_of (w : World) (A0 : Option Addr) (len cap : Nat) (hb : Bytes w A0 len) (hdraw : ∀ w, Bytes w A0 len → Calls Try.prog 47 #[.slice A0 len cap] w (DrawM w)) :
    Calls Try.prog 12 #[.slice A0 len cap] w fun e w' => e = .returned (.bool true) ∧ Below w.heap.size w w' := by
  have hm := hb.1
  have DR := Lib.hid (hdraw w hb)
  clear hb hdraw
  by_cases hbig : 1048576 < len
  · have hd : decide (1048576 < len) = true := by simpa using hbig
    go_enter Try.func12, Try.ntmps12
    go_wp2_with fail
    refine (big_any _ _ _ _ hm).mono ?_; rintro e w1 ⟨rfl, hw⟩; obtain rfl := hw.symm
    rw [hd]
    go_wp2_with fail
    go_ret
    exact ⟨rfl, Below.refl _ _⟩
  have hd : decide (1048576 < len) = false := by simpa using hbig
  go_enter Try.func12, Try.ntmps12
  go_wp2_with fail
  refine (big_any _ _ _ _ hm).mono ?_; rintro e w1 ⟨rfl, hw⟩; obtain rfl := hw.symm
  rw [hd]
  clear hd hbig
  go_wp2_with fail
  refine DR.out.mono ?_
  rintro e w1 ⟨A, n, c, D, P, A2, m, c2, E, Q, rfl, h1, k1, b1⟩
  obtain ⟨w2, hw2⟩ : ∃ w2, w2 = w1.alloc (.cells #[.slice A n c, .slice A2 m c2] 66) := ⟨_, rfl⟩
  have b2 : Below w1.heap.size w1 w2 := by rw [hw2]; exact (Below.refl _ _).alloc (Nat.le_refl _) _
  have H2 := Lib.hid (h1.call b2)
  have K2 := Lib.hid (k1.call b2)
  have B2 := Lib.hid (b1.trans (b2.mono b1.size))
  have W2 := Lib.hid hw2
  have M2 := Lib.hid (show Row w2 w1.heap.size 66 2 (modelM (.slice A n c) (.slice A2 m c2)) by rw [hw2]; exact row_lit w1 #[.slice A n c, .slice A2 m c2] _ 2 _ (by simp) (fun i hi => by unfold modelM; rcases (by omega : i = 0 ∨ i = 1) with rfl | rfl <;> rfl))
  have sz2 : w2.heap.size = w1.heap.size + 1 := by rw [hw2]; simp
  have hm' := h1.le
  have hm2 := k1.le
  obtain ⟨mb, hmb⟩ : ∃ mb, mb = w1.heap.size := ⟨_, rfl⟩
  clear h1 k1 b1 b2 hw2 DR
  go_wp2_with fail
  rw [← W2.out]
  refine (choices_any w2 A n c D P A2 m c2 E Q H2.out K2.out (fun i hi k hk => (H2.out.vals i hi).size k hk)).mono ?_
  rintro e w3 ⟨v, rfl, hR, b3⟩
  have H3 := Lib.hid (H2.out.call b3)
  have K3 := Lib.hid (K2.out.call b3)
  have M3 := Lib.hid (M2.out.call b3)
  have B3 := Lib.hid (B2.out.trans (b3.mono B2.out.size))
  obtain ⟨q, hq⟩ : ∃ q, q = mdlB n D m E := ⟨_, rfl⟩
  have SM := Lib.hid (spec_IsModel w3 A n c D P A2 m c2 E Q H3.out K3.out)
  rw [← hq] at SM hR
  have HQ := Lib.hid hq
  have p0 : w3.cell? ⟨w1.heap.size, 0, none⟩ = some (.slice A n c) := M3.out.cell (i := 0) (by omega)
  have p1 : w3.cell? ⟨w1.heap.size, 1, none⟩ = some (.slice A2 m c2) := M3.out.cell (i := 1) (by omega)
  clear hq b3 hmb mb
  cases q
  · obtain ⟨V, hown, _⟩ := hR
    rw [if_neg (by simp)] at hown
    obtain ⟨Al, cl, rfl, hsl, hfr⟩ := hown.slice
    clear hown hsl hfr
    go_wp2_with fail
    refine SM.out.mono ?_; rintro e w4 ⟨rfl, b4⟩
    have B4 := Lib.hid (B3.out.trans (b4.mono B3.out.size))
    clear b4
    go_wp2_with fail
    go_ret
    exact ⟨rfl, B4.out⟩
  rw [if_pos rfl] at hR
  obtain ⟨hn, hm6, hopt, _, _⟩ := mdl_iff.1 HQ.out.symm
  have HD := Lib.hid (show ∀ i, i < n → D.n i ≤ 4 from fun i hi => by
    have := hopt i hi
    unfold optOk at this
    simp only [Bool.and_eq_true, decide_eq_true_eq] at this
    omega)
  obtain ⟨VL, hownl, hpkl⟩ := hR
  obtain ⟨RL, hRL⟩ : ∃ RL, RL = goodL D n E m := ⟨_, rfl⟩
  rw [← hRL] at hownl hpkl
  obtain ⟨Al, cl, rfl, hsll, hfrl⟩ := hownl.slice
  have OL := Lib.hid hownl
  have PL := Lib.hid hpkl
  have SLL := Lib.hid hsll
  have FRL := Lib.hid hfrl
  have HRL := Lib.hid hRL
  clear hownl hpkl hsll hfrl hRL hopt
  go_wp2_with fail
  refine SM.out.mono ?_; rintro e w4 ⟨rfl, b4⟩
  have H4 := Lib.hid (H3.out.call b4)
  have K4 := Lib.hid (K3.out.call b4)
  have M4 := Lib.hid (M3.out.call b4)
  have B4 := Lib.hid (B3.out.trans (b4.mono B3.out.size))
  have OL4 := Lib.hid (OL.out.call b4)
  have PL4 := Lib.hid (fun j hj => (PL.out j hj).keep (keep_below b4))
  have p0' : w4.cell? ⟨w1.heap.size, 0, none⟩ = some (.slice A n c) := M4.out.cell (i := 0) (by omega)
  have p1' : w4.cell? ⟨w1.heap.size, 1, none⟩ = some (.slice A2 m c2) := M4.out.cell (i := 1) (by omega)
  clear b4 p0 p1
  go_wp2_with fail
  refine (every_any w4 A n c D P (.slice A2 m c2) H4.out hn HD.out).mono ?_
  rintro e w5 ⟨v, rfl, hR, b5⟩
  obtain ⟨V, hown, hpk⟩ := hR
  obtain ⟨R, hRe⟩ : ∃ R, R = allL D n := ⟨_, rfl⟩
  rw [← hRe] at hown hpk
  have hRl : R.length ≤ 256 := by rw [hRe]; exact all_le hn (Nat.le_refl _) HD.out
  obtain ⟨Ar, cr, rfl, hsl, hfr⟩ := hown.slice
  have SL := Lib.hid hsl
  have FR := Lib.hid hfr
  have PK := Lib.hid hpk
  have HRE := Lib.hid hRe
  have H5 := Lib.hid (H4.out.call b5)
  have K5 := Lib.hid (K4.out.call b5)
  have M5 := Lib.hid (M4.out.call b5)
  have B5 := Lib.hid (B4.out.trans (b5.mono B4.out.size))
  have OL5 := Lib.hid (OL4.out.call b5)
  have PL5 := Lib.hid (fun j hj => (PL4.out j hj).keep (keep_below b5))
  have ELL := Lib.hid (show RL = R.filter fun X => fitN E X m by rw [HRL.out, hRe]; rfl)
  have RZ := Lib.hid (show ∀ X ∈ R, ∀ x ∈ X, x.1.size ≤ 9223372036854775807 ∧ x.2.size ≤ 9223372036854775807 from fun X hX => choice_sizes (by rw [← hRe]; exact hX) H5.out.z (fun i hi k hk => (H5.out.vals i hi).size k hk))
  have p0 : w5.cell? ⟨w1.heap.size, 0, none⟩ = some (.slice A n c) := M5.out.cell (i := 0) (by omega)
  have p1 : w5.cell? ⟨w1.heap.size, 1, none⟩ = some (.slice A2 m c2) := M5.out.cell (i := 1) (by omega)
  have mlt := M5.out.lt
  clear b5 hown hpk hsl hfr hRe p0' p1'
  go_wp2_with fail
  go_loopw [6, 7] (fun nv iv W => ∃ i : Nat, i ≤ R.length ∧ iv = .int .i64 (i : Int) ∧ nv = .int .i64 ((((R.take i).filter fun X => fitN E X m).length : Nat) : Int) ∧ Below w5.heap.size w5 W) (fun _ iv _ => R.length - (intOf iv).toNat)
  case atStart => exact ⟨0, Nat.zero_le _, rfl, by simp, Below.refl _ _⟩
  case round =>
    obtain ⟨i, hi, rfl, rfl, hbe⟩ := hrel
    have BE := Lib.hid hbe
    have esz := hbe.size
    obtain ⟨nn, hnn⟩ : ∃ nn, nn = ((R.take i).filter fun X => fitN E X m).length := ⟨_, rfl⟩
    rw [← hnn]
    have HNN := Lib.hid hnn
    have hn256 : nn ≤ 256 := by rw [hnn]; exact Nat.le_trans (List.length_filter_le _ _) (by rw [List.length_take]; omega)
    clear hnn
    by_cases hlt : i < R.length
    case neg =>
      obtain rfl : i = R.length := by omega
      have hlt' : ¬ (R.length : Int) < (R.length : Int) := by omega
      have e : nn = RL.length := by rw [HNN.out, ELL.out, List.take_length]
      have hend : ((nn : Int) == (RL.length : Int)) = true := by rw [e]; simp
      clear hbe e
      go_wp2_with fail
      go_ret
      exact ⟨by simp [hend], B5.out.trans (BE.out.mono B5.out.size)⟩
    have hlt' : (i : Int) < (R.length : Int) := by omega
    obtain ⟨ar, ao, hAr, hrB, hrc⟩ := SL.out.cell i hlt
    subst hAr
    have hao := (FR.out ar ao rfl).1
    subst hao
    have hrc0 := hrc 0 (by omega)
    obtain ⟨Y, hY⟩ : ∃ Y, Y = R.getD i [] := ⟨_, rfl⟩
    have hYm : Y ∈ R := by rw [hY]; exact getD_mem hlt
    have hin := PK.out i hlt
    rw [← hY] at hin
    obtain ⟨gx, cx, hvx, hpf⟩ := hin.pickF (RZ.out Y hYm)
    have la3 : w5.cell? ⟨ar, i, none⟩ = some (.slice (some ⟨gx, 0, none⟩) Y.length cx) := by
      have := hrc0
      rw [Nat.mul_one, Nat.add_zero, Nat.zero_add] at this
      rw [this]; exact congrArg some hvx
    have ar5 : ar < w5.heap.size := hrB
    have PF := Lib.hid hpf
    have HY := Lib.hid hY
    have YM := Lib.hid (show Y ∈ allL D n by rw [← HRE.out]; exact hYm)
    have FT := Lib.hid (filter_take (f := fun X => fitN E X m) hlt)
    have FA := Lib.hid (filter_at (f := fun X => fitN E X m) hlt)
    have YZ := Lib.hid (RZ.out Y hYm)
    clear hrc hrc0 hin hpf hvx hY hYm
    have ldr := (hbe.cell (p := ⟨w1.heap.size, 1, none⟩) mlt).trans p1
    obtain ⟨wb, rfl⟩ : ∃ wb, wb = wr := ⟨_, rfl⟩
    clear hbe
    go_wp2_with fail
    go_loopw [8, 9] (fun bv kv W => ∃ k : Nat, k ≤ m ∧ kv = .int .i64 (k : Int) ∧ bv = .bool (fitN E Y k) ∧ Below wb.heap.size wb W) (fun _ kv _ => m - (intOf kv).toNat)
    case atStart => exact ⟨0, Nat.zero_le _, rfl, rfl, Below.refl _ _⟩
    case round =>
      obtain ⟨k, hk, rfl, rfl, hby⟩ := hrel
      have BY := Lib.hid hby
      have ysz := hby.size
      have BW := Lib.hid (BE.out.trans (hby.mono (by omega)))
      have r0 := (BW.out.cell (p := ⟨w1.heap.size, 0, none⟩) mlt).trans p0
      have r1 := (BW.out.cell (p := ⟨w1.heap.size, 1, none⟩) mlt).trans p1
      have r3 := (BW.out.cell (p := ⟨ar, i, none⟩) ar5).trans la3
      have PF2 := Lib.hid (PF.out.call BW.out)
      have HW := Lib.hid (H5.out.call BW.out)
      have KW := Lib.hid (K5.out.call BW.out)
      clear ldr hby
      by_cases hkm : k < m
      case pos =>
        have hkm' : (k : Int) < (m : Int) := by omega
        obtain ⟨br, or', rfl, hrB2, hrc2⟩ := KW.out.cell hkm
        have CD := Lib.hid (KW.out.conds k hkm)
        obtain ⟨q, hq⟩ : ∃ q, q = fitN E Y k := ⟨_, rfl⟩
        have FU := Lib.hid (fitN_succ E Y k)
        rw [← hq] at FU ⊢
        obtain ⟨hh, hhe⟩ : ∃ hh, hh = holdsB (E.kd k) (E.op k) (E.vl k) (pkO Y) (pkV Y) (E.n k) Y.length := ⟨_, rfl⟩
        have HC := Lib.hid (fun d os => spec_Holds (grow (redrawn wr d) os) _ _ _ _ _ _ (CD.out.call (below_regrown wr d os)) _ _ _ _ _ (PF2.out.call (below_regrown wr d os)))
        rw [← hhe] at HC FU
        clear hq hhe
        cases q
        · go_wp2_with fail
          go_quiet (fail)
          go_wp2_with fail
          go_roundw
          case rel => exact ⟨k + 1, by omega, by go_num, by rw [FU.out]; rfl, below_drewN BY.out _⟩
          case measure => simp [intOf]; omega
        · have z1 := fun d os => cell_regrown r1 d os
          have z2 := fun d os => cell_regrown hrc2 d os
          have z3 := fun d os => cell_regrown r3 d os
          go_wp2_with fail
          refine wp_region_quiet_below (by kernel_rfl) (by kernel_rfl) ?_
          repeat (first | go_big_quiet_step ((go_at_call 27; exact Calls.regrown_of (HC.out _ _))) | quiet_step ((go_at_call 27; exact Calls.regrown_of (HC.out _ _))))
          refine wpQuiet_nil ?_
          intro _ hw'
          obtain ⟨⟨dq7, os7⟩, hw''⟩ := hw'
          subst hw''
          have B7 := Lib.hid (BY.out.trans ((below_regrown wr dq7 os7).mono BY.out.size))
          go_wp2_with fail
          go_roundw
          case rel => exact ⟨k + 1, by omega, by go_num, by rw [FU.out, Bool.true_and], B7.out⟩
          case measure => simp [intOf]; omega
      obtain rfl : k = m := by omega
      have hk' : ¬ (k : Int) < (k : Int) := by omega
      obtain ⟨q, hq⟩ : ∃ q, q = fitN E Y k := ⟨_, rfl⟩
      have IC := Lib.hid (fun d os => isChoice_fit (grow (redrawn wr d) os) A n c D P A2 k c2 E Q (HW.out.call (below_regrown wr d os)) (KW.out.call (below_regrown wr d os)) HQ.out.symm Y YM.out _ _ (PF2.out.call (below_regrown wr d os)))
      rw [← hq] at IC ⊢
      rw [← HY.out] at FT FA
      rw [← HNN.out] at FA
      rw [← hq] at FT FA
      have hqq : (q != q) = false := by simp
      clear hq
      have z0 := fun d os => cell_regrown r0 d os
      have z1 := fun d os => cell_regrown r1 d os
      have z3 := fun d os => cell_regrown r3 d os
      go_wp2_with fail
      refine wp_region_quiet_below (by kernel_rfl) (by kernel_rfl) ?_
      repeat (first | go_big_quiet_step ((go_at_call 50; exact Calls.regrown_of (IC.out _ _))) | quiet_step ((go_at_call 50; exact Calls.regrown_of (IC.out _ _))))
      refine wpQuiet_nil ?_
      intro _ hw'
      obtain ⟨⟨dq7, os7⟩, hw''⟩ := hw'
      subst hw''
      have B7 := Lib.hid (BW.out.trans ((below_regrown wr dq7 os7).mono BW.out.size))
      clear z0 z1 z3
      cases q
      · go_wp2_with fail
        go_roundw
        case rel => exact ⟨i + 1, by omega, by go_num, by rw [FT.out, if_neg (by simp), List.append_nil, ← HNN.out], B7.out⟩
        case measure => simp [intOf]; omega
      obtain ⟨fa1, fa2⟩ := FA.out rfl
      rw [← ELL.out] at fa1 fa2
      obtain ⟨Al2, cl2, hA2, hs2, hf2⟩ := OL5.out.slice
      clear hf2
      injection hA2 with e1 e2 e3
      clear e2
      subst e1; subst e3
      obtain ⟨al, ao2, hAl, hlB, hlc⟩ := hs2.cell nn fa1
      subst hAl
      have hao2 := (FRL.out al ao2 rfl).1
      subst hao2
      have hlc0 := hlc 0 (by omega)
      have hin := PL5.out nn fa1
      rw [fa2] at hin
      obtain ⟨gl, cg, hvl, hpl⟩ := hin.pickF YZ.out
      have la4 : w5.cell? ⟨al, nn, none⟩ = some (.slice (some ⟨gl, 0, none⟩) Y.length cg) := by
        have := hlc0
        rw [Nat.mul_one, Nat.add_zero, Nat.zero_add] at this
        rw [this]; exact congrArg some hvl
      have QF := Lib.hid hpl
      obtain ⟨wq, hwq⟩ : ∃ wq, wq = grow (redrawn wr dq7) os7 := ⟨_, rfl⟩
      rw [← hwq] at B7
      have WQ := Lib.hid hwq
      clear hwq hs2 hlc hlc0 hin hvl hpl fa2
      rw [← WQ.out]
      have r3' := (B7.out.cell (p := ⟨ar, i, none⟩) ar5).trans la3
      have r4' := (B7.out.cell (p := ⟨al, nn, none⟩) hlB).trans la4
      have hnl : (nn : Int) < (RL.length : Int) := by omega
      have hd1 : decide ((RL.length : Int) ≤ (nn : Int)) = false := decide_eq_false (by omega)
      have hd2 : decide (RL.length ≤ nn) = false := decide_eq_false (by omega)
      have u1 : IntKind.i64.wrap ((nn : Int) + 1) = (nn : Int) + 1 := IntWalk.i64_in _ ⟨by omega, by omega⟩
      have SP := Lib.hid (fun d os => samePicks_same (grow (redrawn wq d) os) _ _ _ _ _ _ _ ((QF.out.call B7.out).call (below_regrown wq d os)) ((PF.out.call B7.out).call (below_regrown wq d os)))
      have z3 := fun d os => cell_regrown r3' d os
      have z4 := fun d os => cell_regrown r4' d os
      go_wp2_with fail
      refine wp_region_quiet_below (by kernel_rfl) (by kernel_rfl) ?_
      repeat (first | go_big_quiet_step ((go_at_call 51; exact Calls.regrown_of (SP.out _ _))) | quiet_step ((go_at_call 51; exact Calls.regrown_of (SP.out _ _))))
      refine wpQuiet_nil ?_
      intro _ hw'
      obtain ⟨⟨dq8, os8⟩, hw''⟩ := hw'
      subst hw''
      have B8 := Lib.hid (B7.out.trans ((below_regrown wq dq8 os8).mono B7.out.size))
      go_wp2_with fail
      go_roundw
      case rel => exact ⟨i + 1, by omega, by go_num, by rw [FT.out, if_pos (by simp), List.length_append, ← HNN.out]; simp, B8.out⟩
      case measure => simp [intOf]; omega
end Go.Proofs.Ytkkhaamklbolmaa
