/-
  The program's ChoicesOf. (Printed by gen/choice3.py.)
-/
import Derived.Test.YtkkhaamklbolmaaChoice1
import Derived.Test.YtkkhaamklbolmaaHolds
import Derived.Deep.RegionHeld3
namespace Go.Proofs.Ytkkhaamklbolmaa
open Go.RowKit Go.Sort
set_option linter.unusedVariables false
set_option linter.unusedSimpArgs false

def fitN (E : RulD) (X : List Pk) (k : Nat) : Bool := (List.range k).all fun r => holdsB (E.kd r) (E.op r) (E.vl r) (pkO X) (pkV X) (E.n r) X.length
theorem fitN_succ (E : RulD) (X : List Pk) (k : Nat) : fitN E X (k + 1) = (fitN E X k && holdsB (E.kd k) (E.op k) (E.vl k) (pkO X) (pkV X) (E.n k) X.length) := by simp [fitN, List.range_succ, List.all_append]
/-- the choices of a model, in order -/
def goodL (D : OptD) (n : Nat) (E : RulD) (m : Nat) : List (List Pk) := (allL D n).filter fun X => fitN E X m
theorem PkIn.pickF {w : World} {v : Value} {X : List Pk} (h : PkIn w v X) (hz : ∀ x ∈ X, x.1.size ≤ 9223372036854775807 ∧ x.2.size ≤ 9223372036854775807) : ∃ g c, v = .slice (some ⟨g, 0, none⟩) X.length c ∧ PickF w (some ⟨g, 0, none⟩) X.length c (pkO X) (pkV X) := by
  obtain ⟨g, c, hv, hs⟩ := h.slice
  have key : ∀ i (hi : i < X.length), X.getD i (mt, mt) ∈ X := fun i hi => by rw [List.getD_eq_getElem?_getD, List.getElem?_eq_getElem hi]; exact List.getElem_mem hi
  exact ⟨g, c, hv, hs.congr (fun _ _ _ _ => rfl), fun i hi => (hz _ (key i hi)).1, fun i hi => (hz _ (key i hi)).2⟩
theorem choice_sizes {D : OptD} {n : Nat} {X : List Pk} (h : X ∈ allL D n) (hz : ∀ i, i < n → (D.nm i).size ≤ 9223372036854775807) (hv : ∀ i, i < n → ∀ k, k < D.n i → (D.vs i k).size ≤ 9223372036854775807) : ∀ x ∈ X, x.1.size ≤ 9223372036854775807 ∧ x.2.size ≤ 9223372036854775807 := by
  intro x hx
  obtain ⟨j, k, hj, hk, rfl⟩ := (allL_each h).2 x hx
  exact ⟨hz j hj, hv j hj k hk⟩
theorem filter_take {f : List Pk → Bool} {R : List (List Pk)} {j : Nat} (hj : j < R.length) : (R.take (j + 1)).filter f = (R.take j).filter f ++ (if f (R.getD j []) then [R.getD j []] else []) := by
  have e : R.take (j + 1) = R.take j ++ [R.getD j []] := by rw [List.take_add_one, List.getD_eq_getElem?_getD, List.getElem?_eq_getElem hj]; rfl
  rw [e, List.filter_append]
  congr 1
  generalize R.getD j [] = Y
  by_cases h : f Y = true
  · rw [if_pos h]; simp [h]
  · rw [if_neg h]; simp [h]
/-- what ChoicesOf gives -/
def ChoiceRet (w : World) (D : OptD) (n : Nat) (E : RulD) (m : Nat) (e : Ending) (w' : World) : Prop := ∃ v, e = .returned v ∧ RowsF w.heap.size w' v (if mdlB n D m E then goodL D n E m else []) ∧ Below w.heap.size w w'
set_option maxRecDepth 20000 in
set_option maxHeartbeats 8000000 in
theorem choices_any (w : World) (A : Option Addr) (n c : Nat) (D : OptD) (P : Loc) (A2' : Option Addr) (m c2' : Nat) (E : RulD) (Q : Loc) (h : OptsF w A n c D P) (h2 : RulsF w A2' m c2' E Q) (hz : ∀ i, i < n → ∀ k, k < D.n i → (D.vs i k).size ≤ 9223372036854775807) :
    Calls Try.prog 48 #[.agg #[.slice A n c, .slice A2' m c2']] w (ChoiceRet w D n E m) := by
  obtain ⟨i0, hi0, hz0, hs0, hb0⟩ := info_parts pick_info
  obtain ⟨i1, hi1, hz1, hs1, hb1⟩ := info_parts picks_info
  obtain ⟨w0, hw0⟩ : ∃ w0, w0 = w.alloc (.cells #[.slice A n c, .slice A2' m c2'] 66) := ⟨_, rfl⟩
  have b0 : Below w.heap.size w w0 := by rw [hw0]; exact (Below.refl _ _).alloc (Nat.le_refl _) _
  have H0 := Lib.hid (h.call b0)
  have K0 := Lib.hid (h2.call b0)
  have M0 := Lib.hid (show Row w0 w.heap.size 66 2 (modelM (.slice A n c) (.slice A2' m c2')) by rw [hw0]; exact row_lit w #[.slice A n c, .slice A2' m c2'] _ 2 _ (by simp) (fun i hi => by unfold modelM; rcases (by omega : i = 0 ∨ i = 1) with rfl | rfl <;> rfl))
  have sz0 : w0.heap.size = w.heap.size + 1 := by rw [hw0]; simp
  have B0 := Lib.hid b0
  have W0 := Lib.hid hw0
  have HZ := Lib.hid (fun i (hi : i < n) => h.z i hi)
  have VZ := Lib.hid hz
  obtain ⟨q, hq⟩ : ∃ q, q = mdlB n D m E := ⟨_, rfl⟩
  have HQ := Lib.hid hq
  clear h h2 b0 hw0 hz
  have p0 : w0.cell? ⟨w.heap.size, 0, none⟩ = some (.slice A n c) := M0.out.cell (i := 0) (by omega)
  have p1 : w0.cell? ⟨w.heap.size, 1, none⟩ = some (.slice A2' m c2') := M0.out.cell (i := 1) (by omega)
  have IM := Lib.hid (impl_IsModel w0 A n c D P A2' m c2' E Q H0.out K0.out)
  rw [← hq] at IM
  cases q
  · clear hq
    go_enter Try.func48, Try.ntmps48
    go_wp2_with fail
    rw [← W0.out]
    refine IM.out.mono ?_; rintro e w2 ⟨rfl, b2⟩
    have B2 := Lib.hid (B0.out.trans (b2.mono (by omega)))
    clear b2
    go_wp2_with fail
    go_ret
    refine ⟨_, rfl, ?_, B2.out⟩
    rw [← HQ.out]
    exact ⟨fun _ => undef, OwnV.nil _ _ _ _ _, fun j hj => absurd hj (by simp)⟩
  obtain ⟨hn, hm6, hopt, _, _⟩ := mdl_iff.1 hq.symm
  have HD := Lib.hid (show ∀ i, i < n → D.n i ≤ 4 from fun i hi => by
    have := hopt i hi
    unfold optOk at this
    simp only [Bool.and_eq_true, decide_eq_true_eq] at this
    omega)
  clear hopt hq
  go_enter Try.func48, Try.ntmps48
  go_wp2_with fail
  rw [← W0.out]
  refine IM.out.mono ?_; rintro e w1 ⟨rfl, b2⟩
  have H1 := Lib.hid (H0.out.call b2)
  have K1 := Lib.hid (K0.out.call b2)
  have M1 := Lib.hid (M0.out.call b2)
  have B1 := Lib.hid (B0.out.trans (b2.mono (by omega)))
  have sz1 := b2.size
  have R0 := Lib.hid (rows_one (w := w1) (B := w1.heap.size) (Nat.le_refl _))
  have D0 := Lib.hid (((Below.refl w1.heap.size w1).alloc (Nat.le_refl _) (.cells #[] 52)).alloc (by simp) (.cells #[.slice (some ⟨w1.heap.size, 0, none⟩) 0 0] 38))
  have p0 : w1.cell? ⟨w.heap.size, 0, none⟩ = some (.slice A n c) := M1.out.cell (i := 0) (by omega)
  have p1 : w1.cell? ⟨w.heap.size, 1, none⟩ = some (.slice A2' m c2') := M1.out.cell (i := 1) (by omega)
  have plt := M1.out.lt
  clear b2
  go_wp2_with fail
  go_loopw [3, 25] (fun ov iv wr => ∃ i : Nat, i ≤ n ∧ iv = .int .i64 (i : Int) ∧ RowsF w1.heap.size wr ov (allL D i) ∧ Below w1.heap.size w1 wr) (fun _ iv _ => n - (intOf iv).toNat)
  case atStart => exact ⟨0, Nat.zero_le _, rfl, R0.out, D0.out⟩
  case round =>
    clear R0 D0
    obtain ⟨i, hi, rfl, hrows, hbe⟩ := hrel
    have RW := Lib.hid hrows
    have BE := Lib.hid hbe
    have HO := Lib.hid (H1.out.call hbe)
    have HK := Lib.hid (K1.out.call hbe)
    have esz := hbe.size
    have mm := M1.out.call hbe
    have p1w : wr.cell? ⟨w.heap.size, 1, none⟩ = some (.slice A2' m c2') := mm.cell (i := 1) (by omega)
    have mlt := mm.lt
    clear hrows hbe mm
    by_cases hlt : i < n
    case neg =>
      obtain rfl : i = n := by omega
      have hi' : ¬ (i : Int) < (i : Int) := by omega
      obtain ⟨V, hown, hpk⟩ := RW.out
      obtain ⟨R, hRe⟩ : ∃ R, R = allL D i := ⟨_, rfl⟩
      rw [← hRe] at hown hpk
      have hRl : R.length ≤ 256 := by rw [hRe]; exact all_le hn hi HD.out
      obtain ⟨Ar, cr, rfl, hsl, hfr⟩ := hown.slice
      have FR := Lib.hid hfr
      have SL := Lib.hid hsl
      have PK := Lib.hid hpk
      have RZ := Lib.hid (show ∀ X ∈ R, ∀ x ∈ X, x.1.size ≤ 9223372036854775807 ∧ x.2.size ≤ 9223372036854775807 from fun X hX => choice_sizes (by rw [← hRe]; exact hX) HZ.out VZ.out)
      have RN := Lib.hid (rows_nil (w := wr) (B := wr.heap.size) (Nat.le_refl _))
      have DN := Lib.hid ((Below.refl wr.heap.size wr).alloc (Nat.le_refl _) (.cells #[] 38))
      have HRE := Lib.hid hRe
      clear hfr hsl hpk hown RW hRe
      obtain ⟨wz, rfl⟩ : ∃ wz, wz = wr := ⟨_, rfl⟩
      go_wp2_with fail
      go_loopw [11, 62] (fun ov jv W => ∃ j : Nat, j ≤ R.length ∧ jv = .int .i64 (j : Int) ∧ RowsF wz.heap.size W ov ((R.take j).filter fun X => fitN E X m) ∧ Below wz.heap.size wz W) (fun _ jv _ => R.length - (intOf jv).toNat)
      case atStart => exact ⟨0, Nat.zero_le _, rfl, by simpa using RN.out, DN.out⟩
      case round =>
        clear RN DN
        obtain ⟨j, hj, rfl, hnx, hbw⟩ := hrel
        have NX := Lib.hid hnx
        have BW := Lib.hid hbw
        have wsz := hbw.size
        by_cases hjl : j < R.length
        case neg =>
          obtain rfl : j = R.length := by omega
          have hj' : ¬ (R.length : Int) < (R.length : Int) := by omega
          clear hnx hbw
          go_wp2_with fail
          go_ret
          refine ⟨_, rfl, ?_, B1.out.trans ((BE.out.trans (BW.out.mono (by omega))).mono (by omega))⟩
          rw [← HQ.out, if_pos rfl]
          have := NX.out
          rw [List.take_length, HRE.out] at this
          exact this.base (by omega)
        have hjl' : (j : Int) < (R.length : Int) := by omega
        obtain ⟨ar, ao, hAr, hrB, hrc⟩ := SL.out.cell j hjl
        subst hAr
        have hao := (FR.out ar ao rfl).1
        subst hao
        have hrc0 := hrc 0 (by omega)
        obtain ⟨Y, hY⟩ : ∃ Y, Y = R.getD j [] := ⟨_, rfl⟩
        have hYm : Y ∈ R := by rw [hY]; exact getD_mem hjl
        have hin := PK.out j hjl
        rw [← hY] at hin
        obtain ⟨gx, cx, hvx, hpf⟩ := hin.pickF (RZ.out Y hYm)
        have la3 : wz.cell? ⟨ar, j, none⟩ = some (.slice (some ⟨gx, 0, none⟩) Y.length cx) := by
          have := hrc0
          rw [Nat.mul_one, Nat.add_zero, Nat.zero_add] at this
          rw [this]; exact congrArg some hvx
        have ld3 := (hbw.cell (p := ⟨ar, j, none⟩) hrB).trans la3
        have ldr := (hbw.cell (p := ⟨w.heap.size, 1, none⟩) mlt).trans p1w
        have PF := Lib.hid (hpf.call (hbw.mono (Nat.le_refl _)))
        have PI := Lib.hid (show PkIn wz (.slice (some ⟨gx, 0, none⟩) Y.length cx) Y by rw [← hvx]; exact hin)
        have HKW := Lib.hid (HK.out.call hbw)
        have HY := Lib.hid hY
        obtain ⟨V2, hown2, hpk2⟩ := hnx
        obtain ⟨N2, hN2⟩ : ∃ N2, N2 = (R.take j).filter fun X => fitN E X m := ⟨_, rfl⟩
        rw [← hN2] at hown2 hpk2
        have hNl : N2.length ≤ 256 := by
          rw [hN2]
          exact Nat.le_trans (List.length_filter_le _ _) (by rw [List.length_take]; omega)
        obtain ⟨A2, c2, rfl, hsl2, hfr2⟩ := hown2.slice
        have O2 := Lib.hid hown2
        have P2 := Lib.hid hpk2
        have HN2 := Lib.hid hN2
        clear hown2 hpk2 hsl2 hfr2 hN2 hbw hrc hrc0 hin hpf hvx hY hYm la3 NX
        obtain ⟨wy, rfl⟩ : ∃ wy, wy = wr := ⟨_, rfl⟩
        go_wp2_with fail
        go_loopw [14, 69] (fun bv kv W => ∃ k : Nat, k ≤ m ∧ kv = .int .i64 (k : Int) ∧ bv = .bool (fitN E Y k) ∧ Below wy.heap.size wy W) (fun _ kv _ => m - (intOf kv).toNat)
        case atStart => exact ⟨0, Nat.zero_le _, rfl, rfl, Below.refl _ _⟩
        case round =>
          obtain ⟨k, hk, rfl, rfl, hby⟩ := hrel
          have BY := Lib.hid hby
          have ysz := hby.size
          by_cases hkm : k < m
          case neg =>
            obtain rfl : k = m := by omega
            have hk' : ¬ (k : Int) < (k : Int) := by omega
            obtain ⟨q, hq⟩ : ∃ q, q = fitN E Y k := ⟨_, rfl⟩
            rw [← hq]
            have HF := Lib.hid hq
            clear hby hq
            cases q
            · go_wp2_with fail
              go_roundw
              case rel => exact ⟨j + 1, by omega, by go_num, by
                rw [filter_take hjl, ← HY.out, ← HF.out, ← HN2.out]
                rw [if_neg (by simp), List.append_nil]
                exact RowsF.call (w := wy) ⟨V2, O2.out, P2.out⟩ BY.out, BW.out.trans (BY.out.mono (by omega))⟩
              case measure => simp [intOf]; omega
            · go_wp2_with (at_builtin; refine appS wr rfl _ _ 71 rfl (B := wz.heap.size) (i := i1) (z := .slice none 0 0) (s := 1) (bytes := 24) (F := valC (fun j => if j = N2.length then .slice (some ⟨gx, 0, none⟩) Y.length cx else V2 j)) (v := .slice A2 N2.length c2) (n := N2.length) (xs := #[.slice (some ⟨gx, 0, none⟩) Y.length cx]) Try.underlying71 hi1 hz1 hs1 hb1 rfl (by decide) rfl (OwnV.congr (F := valC V2) (O2.out.call BY.out) (fun a b ha hb => valC_lt _ _ ha b)) (by omega) rfl (fun q hq => by (obtain rfl : q = 0 := by omega); rw [valC_new]; rfl) (fun q hq => by rw [valC_new]; rfl) (by omega) (by decide) ?_)
              intro v9 w9 hv9 hg9 hb9
              obtain ⟨A9, p9, rfl, hs9, hf9⟩ := hv9.slice
              have V9 := Lib.hid hv9
              have G9 := Lib.hid hg9
              clear hs9 hf9 hv9 hg9 hb9
              go_wp2_with fail
              go_roundw
              case rel => exact ⟨j + 1, by omega, by go_num, by
                rw [filter_take hjl, ← HY.out, ← HF.out, ← HN2.out]
                rw [if_pos rfl]
                exact RowsF.add (w := wr) (fun j hj => (P2.out j hj).keep (keep_below BY.out)) (PI.out.keep (KeepT.trans (keep_below (BW.out.mono (Nat.le_refl _))) (keep_below BY.out))) (keep_own (O2.out.call BY.out) (by decide) G9.out) V9.out, below_own (BW.out.trans (BY.out.mono (by omega))) G9.out (fun r hr => (O2.out.lt hr).1) (by omega)⟩
              case measure => simp [intOf]; omega
          have hkm' : (k : Int) < (m : Int) := by omega
          obtain ⟨br, or', hrA, hrB2, hrc2⟩ := (HKW.out.call hby).cell hkm
          have CD := Lib.hid ((HKW.out.call hby).conds k hkm)
          have PF2 := Lib.hid (PF.out.call hby)
          obtain ⟨q, hq⟩ : ∃ q, q = fitN E Y k := ⟨_, rfl⟩
          have FU := Lib.hid (fitN_succ E Y k)
          rw [← hq] at FU ⊢
          obtain ⟨hh, hhe⟩ : ∃ hh, hh = holdsB (E.kd k) (E.op k) (E.vl k) (pkO Y) (pkV Y) (E.n k) Y.length := ⟨_, rfl⟩
          have HC := Lib.hid (impl_Holds wr _ _ _ _ _ _ CD.out _ _ _ _ _ PF2.out)
          rw [← hhe] at HC FU
          clear hby hq hhe
          subst hrA
          cases q
          · go_wp2_with fail
            go_roundw
            case rel => exact ⟨k + 1, by omega, by go_num, by rw [FU.out]; rfl, BY.out⟩
            case measure => simp [intOf]; omega
          · go_wp2_with fail
            refine HC.out.mono ?_; rintro e w5 ⟨rfl, b5⟩
            have B5 := Lib.hid (BY.out.trans (b5.mono (by omega)))
            clear b5
            go_wp2_with fail
            go_roundw
            case rel => exact ⟨k + 1, by omega, by go_num, by rw [FU.out, Bool.true_and], B5.out⟩
            case measure => simp [intOf]; omega
    have hlt' : (i : Int) < (n : Int) := by omega
    obtain ⟨wc, rfl⟩ : ∃ wc, wc = wr := ⟨_, rfl⟩
    obtain ⟨V, hown, hpk⟩ := RW.out
    obtain ⟨L, hL⟩ : ∃ L, L = allL D i := ⟨_, rfl⟩
    rw [← hL] at hown hpk
    have hLl : L.length ≤ 256 := by rw [hL]; exact all_le hn hi HD.out
    obtain ⟨Ar, cr, rfl, hsl, hfr⟩ := hown.slice
    have FR := Lib.hid hfr
    clear hfr
    obtain ⟨b, o, rfl, hB, k0, k1⟩ := HO.out.cells hlt
    obtain ⟨nm, hnm⟩ : ∃ x, x = D.nm i := ⟨_, rfl⟩
    rw [← hnm] at k0
    have HNM := Lib.hid hnm
    obtain ⟨PA, hPA⟩ : ∃ x, x = P.A i := ⟨_, rfl⟩
    have vl0 := HO.out.vals i hlt
    rw [← hPA] at k1 vl0
    clear hPA
    obtain ⟨wa, hwa⟩ : ∃ wa, wa = wc.alloc (.cells #[.string nm, .slice PA (D.n i) (P.c i)] 108) := ⟨_, rfl⟩
    have bca : Below wc.heap.size wc wa := by rw [hwa]; exact (Below.refl _ _).alloc (Nat.le_refl _) _
    have sza : wa.heap.size = wc.heap.size + 1 := by rw [hwa]; simp
    have orow : Row wa wc.heap.size 108 2 (modelM (.string nm) (.slice PA (D.n i) (P.c i))) := by rw [hwa]; exact row_lit wc #[.string nm, .slice PA (D.n i) (P.c i)] _ 2 _ (by simp) (fun i hi => by unfold modelM; rcases (by omega : i = 0 ∨ i = 1) with rfl | rfl <;> rfl)
    have OW := Lib.hid (hown.call bca)
    have PK := Lib.hid (fun j (hj : j < L.length) => (hpk j hj).keep (keep_below bca))
    have SL := Lib.hid (hown.call bca).slice
    have VL := Lib.hid (vl0.call bca)
    have OR := Lib.hid orow
    have BA := Lib.hid (BE.out.trans (bca.mono (by omega)))
    have WA := Lib.hid hwa
    have hdn := HD.out i hlt
    have HLL := Lib.hid hL
    have RN := Lib.hid (rows_nil (w := wa) (B := wa.heap.size) (Nat.le_refl _))
    have DN := Lib.hid ((Below.refl wa.heap.size wa).alloc (Nat.le_refl _) (.cells #[] 38))
    have o0 : wa.cell? ⟨wc.heap.size, 0, none⟩ = some (.string nm) := orow.cell (i := 0) (by omega)
    have o1 : wa.cell? ⟨wc.heap.size, 1, none⟩ = some (.slice PA (D.n i) (P.c i)) := orow.cell (i := 1) (by omega)
    clear hown hpk hsl hL RW hnm hwa orow bca vl0
    have olt := OR.out.lt
    go_wp2_with fail
    rw [← WA.out]
    go_loopw [6, 32] (fun ov rv W => ∃ r : Nat, r ≤ L.length ∧ rv = .int .i64 (r : Int) ∧ RowsF wa.heap.size W ov (nextL D i (L.take r)) ∧ Below wa.heap.size wa W) (fun _ rv _ => L.length - (intOf rv).toNat)
    case atStart => exact ⟨0, Nat.zero_le _, rfl, by have e := RN.out; show RowsF _ _ _ []; simpa [sza] using e, DN.out⟩
    case round =>
      clear RN DN
      obtain ⟨r, hr, rfl, hnext, hbw⟩ := hrel
      have BW := Lib.hid hbw
      have NX := Lib.hid hnext
      have wsz0 := hbw.size
      have o1w : wr.cell? ⟨wc.heap.size, 1, none⟩ = some (.slice PA (D.n i) (P.c i)) := (hbw.cell (p := ⟨wc.heap.size, 1, none⟩) olt).trans o1
      clear hnext
      by_cases hrl : r < L.length
      case neg =>
        obtain rfl : r = L.length := by omega
        have hr' : ¬ (L.length : Int) < (L.length : Int) := by omega
        clear hbw
        go_wp2_with fail
        go_roundw
        case rel => exact ⟨i + 1, by omega, by go_num, by
          have := NX.out
          rw [List.take_length, HLL.out] at this
          exact this.base (by omega), BA.out.trans (BW.out.mono (by omega))⟩
        case measure => simp [intOf]; omega
      have hrl' : (r : Int) < (L.length : Int) := by omega
      obtain ⟨Ar', cr', hA', hsl, hfr'⟩ := SL.out
      clear hfr'
      injection hA' with e1 e2 e3
      clear e2
      subst e1; subst e3
      obtain ⟨ar, ao, hAr, hrB, hrc⟩ := hsl.cell r hrl
      subst hAr
      have hao := (FR.out ar ao rfl).1
      subst hao
      have hrc0 := hrc 0 (by omega)
      obtain ⟨X, hX⟩ : ∃ X, X = L.getD r [] := ⟨_, rfl⟩
      obtain ⟨gx, cx, hvx, hsx⟩ := (PK.out r hrl).slice
      rw [← hX] at hvx hsx
      have hXl : X.length ≤ 100 := by
        have hm := getD_mem hrl
        rw [← hX, HLL.out] at hm
        have := (allL_each hm).1
        omega
      have ld3 : wr.cell? ⟨ar, r, none⟩ = some (.slice (some ⟨gx, 0, none⟩) X.length cx) := by
        have := (hbw.cell (p := ⟨ar, 0 + r * 1 + 0, none⟩) hrB).trans hrc0
        rw [Nat.mul_one, Nat.add_zero, Nat.zero_add] at this
        rw [this]; exact congrArg some hvx
      have SX := Lib.hid hsx
      have HX := Lib.hid hX
      clear hbw hsl hrc hrc0 hvx hsx hX
      obtain ⟨wb, rfl⟩ : ∃ wb, wb = wr := ⟨_, rfl⟩
      go_wp2_with fail
      go_loopw [6, 39] (fun ov kv W => ∃ k : Nat, k ≤ D.n i ∧ kv = .int .i64 (k : Int) ∧ RowsF wa.heap.size W ov (nextL D i (L.take r) ++ partL D i X k) ∧ Below wa.heap.size wa W) (fun _ kv _ => D.n i - (intOf kv).toNat)
      case atStart => exact ⟨0, Nat.zero_le _, rfl, by simpa [partL] using NX.out, BW.out⟩
      case round =>
        obtain ⟨k, hk, rfl, hnext, hbw⟩ := hrel
        clear NX BW
        obtain ⟨V2, hown2, hpk2⟩ := hnext
        obtain ⟨N2, hN2⟩ : ∃ N2, N2 = nextL D i (L.take r) ++ partL D i X k := ⟨_, rfl⟩
        rw [← hN2] at hown2 hpk2
        have hNl : N2.length ≤ 2000 := by
          rw [hN2, List.length_append, nextL_len, partL_len]
          have h1 : (L.take r).length * D.n i ≤ 256 * 4 := Nat.mul_le_mul (by rw [List.length_take]; omega) hdn
          omega
        obtain ⟨A2, c2, rfl, hsl2, hfr2⟩ := hown2.slice
        have O2 := Lib.hid hown2
        have P2 := Lib.hid hpk2
        have BW := Lib.hid hbw
        have BX := Lib.hid hbw
        have wsz := hbw.size
        have HN2 := Lib.hid hN2
        have ld0 : wr.cell? ⟨wc.heap.size, 0, none⟩ = some (.string nm) := (hbw.cell (p := ⟨wc.heap.size, 0, none⟩) olt).trans o0
        clear hown2 hpk2 hsl2 hfr2 hbw hN2
        by_cases hkl : k < D.n i
        case neg =>
          obtain rfl : k = D.n i := by omega
          have hk' : ¬ (D.n i : Int) < (D.n i : Int) := by omega
          go_wp2_with fail
          go_roundw
          case rel => exact ⟨r + 1, by omega, by go_num, by rw [nextL_take D i L hrl, ← HX.out, ← HN2.out]; exact ⟨V2, O2.out, P2.out⟩, BW.out⟩
          case measure => simp [intOf]; omega
        have hkl' : (k : Int) < (D.n i : Int) := by omega
        obtain ⟨bv, ov, rfl, hvB, hvc⟩ := VL.out.cell hkl
        obtain ⟨val, hval⟩ : ∃ x, x = D.vs i k := ⟨_, rfl⟩
        have ld4 : wr.cell? ⟨bv, ov + k, none⟩ = some (.string val) := by rw [hval]; exact (BW.out.cell (p := ⟨bv, ov + k, none⟩) hvB).trans hvc
        have HVL := Lib.hid hval
        have g0 : wc.heap.size < wr.heap.size := by omega
        have la0 := o0
        have ga0 : wc.heap.size < wa.heap.size := olt
        have g4 : bv < wr.heap.size := by omega
        clear hvc hval
        go_wp2_with fail
        go_region_held3 (fun W => Below wa.heap.size wa W ∧ W.cell? ⟨wc.heap.size, 0, none⟩ = some (.string nm)) ((refine (fun (hBq : Below wa.heap.size wa _) => ⟨hBq, (hBq.cell (p := ⟨wc.heap.size, 0, none⟩) ga0).trans la0⟩) ?_; first | (with_reducible exact B9.out) | (refine below_then ?_ wsz BX.out; repeat' (first | (with_reducible exact Below.refl _ _) | (with_reducible exact B8.out) | (with_reducible exact B7.out) | (with_reducible refine Below.alloc ?_ ?_ _) | (with_reducible refine below_drewN ?_ _) | (with_reducible refine Below.drew ?_) | omega | (simp; done) | (simp; omega))))) (first
          | (refine step_appS w8 rfl _ _ 71 rfl (B := wa.heap.size) (i := i1) (z := .slice none 0 0) (s := 1) (bytes := 24) (F := valC (fun j => if j = N2.length then .slice A8 (X.length + 1) p8 else V2 j)) (v := .slice A2 N2.length c2) (n := N2.length) (xs := #[.slice A8 (X.length + 1) p8]) Try.underlying71 hi1 hz1 hs1 hb1 rfl (by decide) rfl (OwnV.congr (F := valC V2) (O2.out.call B8.out) (fun a b ha hb => valC_lt _ _ ha b)) (by have := B8.out.size; omega) ⟨rfl, rfl, rfl, rfl⟩ rfl (fun q hq => by (obtain rfl : q = 0 := by omega); rw [valC_new]; rfl) (fun q hq => by rw [valC_new]; rfl) (by omega) (by decide) ?_
             intro v9 w9 hv9 hg9 hb9
             obtain ⟨A9, p9, rfl, hs9, hf9⟩ := hv9.slice
             have B9 := Lib.hid (below_own (below_then B8.out wsz BX.out) hg9 (fun r hr => (O2.out.lt hr).1) (by have := B8.out.size; omega))
             have V9 := Lib.hid hv9
             have G9 := Lib.hid hg9
             clear hs9 hf9 hv9 hg9 hb9)
          | (refine step_appM _ rfl _ _ 38 rfl (B := wr.heap.size) (i := i0) (z := .agg #[.string ByteArray.empty, .string ByteArray.empty]) (s := 2) (bytes := 32) (F := pkC (X ++ [(nm, val)])) (v := .slice A7 X.length p7) (n := X.length) Try.underlying38 hi0 hz0 hs0 hb0 rfl (by decide) rfl (OwnV.congr (F := pkC X) (by have h := V7.out; repeat' (first | (with_reducible assumption) | refine OwnV.alloc ?_ _ | refine OwnV.drewN ?_ _ | refine OwnV.drew ?_)) (fun a b ha hb => pkC_app X [(nm, val)] ha)) (by first | omega | (simp; done) | (simp; omega)) ⟨_, 0, none⟩ 1 1 rfl (by first | (with_reducible exact pick_new pick_fresh.1 pick_fresh.2) | (with_reducible exact pick_new q2 q3) | (with_reducible exact pick_new q0 q1)) (fun _ _ _ _ => pkC_one _ _ _) (by omega) (by decide) ?_
             intro v8 w8 hv8 hg8 hb8
             have B8 := Lib.hid (below_own (B := wr.heap.size) (show Below wr.heap.size wr _ from (by repeat' (first | (with_reducible exact Below.refl _ _) | (with_reducible exact B8.out) | (with_reducible exact B7.out) | (with_reducible refine Below.alloc ?_ ?_ _) | (with_reducible refine below_drewN ?_ _) | (with_reducible refine Below.drew ?_) | omega | (simp; done) | (simp; omega)))) hg8 (fun r hr => (V7.out.lt hr).1) (by first | omega | (simp; done) | (simp; omega)))
             have l8 := B8.out.size
             obtain ⟨A8, p8, rfl, hs8, hf8⟩ := hv8.slice
             have V8 := Lib.hid hv8
             clear hs8 hf8 hv8 hg8 hb8 V7)
          | (refine step_appM _ rfl _ _ 38 rfl (B := wr.heap.size) (i := i0) (z := .agg #[.string ByteArray.empty, .string ByteArray.empty]) (s := 2) (bytes := 32) (F := pkC X) (v := .slice (some ⟨_, 0, none⟩) 0 0) (n := 0) Try.underlying38 hi0 hz0 hs0 hb0 rfl (by decide) rfl (own_empty (by repeat' (first | (refine heap_at _ ?_; (first | (with_reducible rfl) | (simp; done))) | refine heap_drew ?_ | refine heap_before ?_ _)) (by omega) _) (by first | omega | (simp; done) | (simp; omega)) ⟨gx, 0, none⟩ X.length cx rfl (fun j q hj hq => by rw [Nat.zero_add]; exact slice_at SX.out (below_then (by repeat' (first | (with_reducible exact Below.refl _ _) | (with_reducible exact B8.out) | (with_reducible exact B7.out) | (with_reducible refine Below.alloc ?_ ?_ _) | (with_reducible refine below_drewN ?_ _) | (with_reducible refine Below.drew ?_) | omega | (simp; done) | (simp; omega))) wsz BX.out) j q hj hq) (fun _ _ _ _ => pkC_one _ _ _) (by omega) (by decide) ?_
             intro v7 w7 hv7 hg7 hb7
             rw [Nat.zero_add] at hv7
             obtain ⟨A7, p7, rfl, hs7, hf7⟩ := hv7.slice
             have V7 := Lib.hid hv7
             have B7 := Lib.hid (below_own (B := wr.heap.size) (show Below wr.heap.size wr _ from (by repeat' (first | (with_reducible exact Below.refl _ _) | (with_reducible exact B8.out) | (with_reducible exact B7.out) | (with_reducible refine Below.alloc ?_ ?_ _) | (with_reducible refine below_drewN ?_ _) | (with_reducible refine Below.drew ?_) | omega | (simp; done) | (simp; omega)))) hg7 (fun r hr => by (simp [Value.ownBlock] at hr; omega)) (by first | omega | (simp; done) | (simp; omega)))
             have q0 := grown_name hg7 ⟨wr.heap.size, 0, none⟩ (.string nm)
             have q1 := grown_name hg7 ⟨wr.heap.size, 1, none⟩ (.string val)
             have q2 := grown_name hg7 ⟨wr.heap.size + 1, 0, none⟩ (.string nm)
             have q3 := grown_name hg7 ⟨wr.heap.size + 1, 1, none⟩ (.string val)
             try simp [go_sem] at q0
             try simp [go_sem] at q1
             try simp [go_sem] at q2
             try simp [go_sem] at q3
             have l7 := B7.out.size
             clear hs7 hf7 hv7 hb7 hg7))
        all_goals
          go_wp2_with fail
          go_roundw
          case rel => exact ⟨k + 1, by omega, by go_num, by
            rw [partL_succ, ← List.append_assoc, ← HNM.out, ← HVL.out, ← HN2.out]
            exact rows_more O2.out P2.out B8.out V8.out V9.out G9.out, below_own (BW.out.trans (B8.out.mono (by omega))) G9.out (fun r hr => (O2.out.lt hr).1) (by have := B8.out.size; omega)⟩
          case measure => simp [intOf]; omega
end Go.Proofs.Ytkkhaamklbolmaa
