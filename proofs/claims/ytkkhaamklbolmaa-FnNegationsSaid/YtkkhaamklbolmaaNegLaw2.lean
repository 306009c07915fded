/-
  The law FnNegations. (Printed by gen/neglaw2.py.)
-/
import Derived.Test.YtkkhaamklbolmaaDrawCond2
import Derived.Test.YtkkhaamklbolmaaNegateLaw
namespace Go.Proofs.Ytkkhaamklbolmaa
open Go.RowKit Go.Sort
set_option linter.unusedVariables false
set_option linter.unusedSimpArgs false

theorem hasText_any (w : World) (A : Option Addr) (n cap : Nat) (f : Nat → ByteArray) (s : ByteArray) (h : StrsF w A n cap f) :
    Calls Try.prog 38 #[.slice A n cap, .string s] w fun e w' => e = .returned (.bool (fndS f s n).isSome) ∧ w' = w := by
  have hn := h.le
  have H := Lib.hid h
  clear h
  obtain ⟨R, hR⟩ : ∃ R, R = (fndS f s n).isSome := ⟨_, rfl⟩
  have HR := Lib.hid hR
  rw [← hR]
  clear hR
  go_enter Try.func38, Try.ntmps38
  go_wp2_with fail
  go_loop [5] (fun i => ∃ k : Nat, k ≤ n ∧ i = .int .i64 (k : Int) ∧ fndS f s k = none) (fun i => n - (intOf i).toNat)
  case atStart => exact ⟨0, Nat.zero_le _, rfl, rfl⟩
  case round =>
    obtain ⟨k, hk, rfl, hno⟩ := hrel
    have HN := Lib.hid hno
    clear hno
    by_cases hlt : k < n
    · have hlt' : (k : Int) < (n : Int) := by omega
      obtain ⟨b, o, rfl, hB, hc⟩ := H.out.cell hlt
      by_cases he : f k = s
      · have e := fndS_hit HN.out hlt he
        have hx := txt_same s
        rw [he] at hc
        have E := Lib.hid e
        clear e he
        go_wp2_with fail
        go_ret
        exact ⟨by
          rw [HR.out]
          have e2 := E.out
          unfold fndV at e2
          cases e3 : fndS f s n with
          | none => rw [e3] at e2; simp at e2
          | some i => rfl, rfl⟩
      · have hx := txt_other he
        have E := Lib.hid (show fndS f s (k + 1) = none by simp only [fndS, HN.out]; rw [if_neg he])
        clear he
        go_wp2_with fail
        go_round
        case rel => exact ⟨k + 1, by omega, by go_num, E.out⟩
        case measure => simp [intOf]; omega
    · obtain rfl : k = n := by omega
      go_wp2_with fail
      go_ret
      exact ⟨by rw [HR.out, HN.out]; rfl, rfl⟩

theorem optsL_in {kd : Nat → Int} {op : Nat → ByteArray} : ∀ {n : Nat} {x : ByteArray}, x ∈ optsL kd op n → ∃ i, i < n ∧ x = op i
  | 0, x, h => by simp [optsL] at h
  | n + 1, x, h => by
    unfold optsL at h
    split at h
    · rw [List.mem_append, List.mem_singleton] at h
      rcases h with h | h
      · obtain ⟨i, h1, h2⟩ := optsL_in h; exact ⟨i, by omega, h2⟩
      · exact ⟨n, by omega, h⟩
    · obtain ⟨i, h1, h2⟩ := optsL_in h; exact ⟨i, by omega, h2⟩
theorem optsOf_in {kd : Nat → Int} {op vl : Nat → ByteArray} {n : Nat} {x : ByteArray} (h : x ∈ optsOf kd op vl n) : ∃ i, i < n ∧ x = op i := by
  unfold optsOf at h
  split at h
  · exact optsL_in h
  · simp at h
theorem optsOf_le (kd : Nat → Int) (op vl : Nat → ByteArray) (n : Nat) : (optsOf kd op vl n).length ≤ n := by
  unfold optsOf
  split
  · exact optsL_le kd op n
  · simp
set_option maxRecDepth 20000 in
set_option maxHeartbeats 4000000 in
theorem law_Negations (w : World) (A : Option Addr) (len cap : Nat) (hb : Bytes w A len) :
    Calls Try.prog 9 #[.slice A len cap] w fun e w' => e = .returned (.bool true) ∧ Below w.heap.size w w' := by
  obtain ⟨i0, hi0, hz0, hs0, hb0⟩ := info_parts pick_info
  have hm := hb.1
  have HB := Lib.hid hb
  clear hb
  by_cases hbig : 1048576 < len
  · have hd : decide (1048576 < len) = true := by simpa using hbig
    go_enter Try.func9, Try.ntmps9
    go_wp2_with fail
    refine (big_any _ _ _ _ hm).mono ?_; rintro e w1 ⟨rfl, hw⟩; obtain rfl := hw.symm
    rw [hd]
    go_wp2_with fail
    go_ret
    exact ⟨rfl, Below.refl _ _⟩
  have hd : decide (1048576 < len) = false := by simpa using hbig
  go_enter Try.func9, Try.ntmps9
  go_wp2_with fail
  refine (big_any _ _ _ _ hm).mono ?_; rintro e w1 ⟨rfl, hw⟩; obtain rfl := hw.symm
  rw [hd]
  clear hd hbig
  go_wp2_with fail
  refine (DrawHolds_any _ _ _ _ HB.out).mono ?_
  rintro e w1 ⟨A1, c1, L, A2, c2, X, rfl, h1, l15, hp, xo, x3, b1⟩
  have H1 := Lib.hid h1
  have P1 := Lib.hid hp
  have XO := Lib.hid xo
  have B1 := Lib.hid b1
  obtain ⟨N, hN⟩ : ∃ N, N = optsOf (ndK L) (ndO L) (ndV L) L.length := ⟨_, rfl⟩
  have hNl : N.length ≤ 15 := by rw [hN]; have := optsOf_le (ndK L) (ndO L) (ndV L) L.length; omega
  have NZ := Lib.hid (show ∀ x ∈ N, x.size ≤ 9223372036854775807 from fun x hx => by
    rw [hN] at hx
    obtain ⟨i, hi, rfl⟩ := optsOf_in hx
    exact h1.z_op i hi)
  obtain ⟨cnd, hcnd⟩ : ∃ b, b = isCondB (ndK L) (ndO L) (ndV L) L.length := ⟨_, rfl⟩
  obtain ⟨q, hq⟩ : ∃ b, b = holdsB (ndK L) (ndO L) (ndV L) (pkO X) (pkV X) L.length X.length := ⟨_, rfl⟩
  have LESS := Lib.hid (show ∀ Y, LessOk N (pkO X) (pkV X) X.length Y → cnd = true → holdsB (ndK L) (ndO L) (ndV L) (pkO Y) (pkV Y) L.length Y.length = q from fun Y hY hc => by
    rw [hN] at hY
    rw [hcnd] at hc
    rw [hq]
    exact less_holds hc hY)
  obtain ⟨M, ok, sp, im, hll, hbd, hz, hnn, hbi⟩ : ∃ (M : List Nd) (ok : Bool), (∀ (W : World), CondNodeF W A1 L.length c1 (ndK L) (ndO L) (ndV L) → Calls Try.prog 31 #[.slice A1 L.length c1] W (NegRet W M ok)) ∧ (∀ (W : World), CondNodeF W A1 L.length c1 (ndK L) (ndO L) (ndV L) → Calls Try.prog 32 #[.slice A1 L.length c1] W (NegRet W M ok)) ∧ M.length ≤ 30 ∧ (∀ x ∈ M, (0 ≤ x.1 ∧ x.1 ≤ 4) ∧ x.2.1.size ≤ 8 ∧ x.2.2.size ≤ 8) ∧ (cnd = false → ok = false ∧ q = false ∧ N.length = 0) ∧ (∀ j, j < M.length → ndK M j = 2 → 1 ≤ j ∧ (ndK M (j - 1) = 0 ∨ ndK M (j - 1) = 1)) ∧ (ok = true → isCondB (ndK M) (ndO M) (ndV M) M.length = true ∧ holdsB (ndK M) (ndO M) (ndV M) (pkO X) (pkV X) M.length X.length = !q) := by
    cases hC : isCondB (ndK L) (ndO L) (ndV L) L.length with
    | false => exact ⟨[], false, fun W hx => spec_NegateCond_no W A1 L.length c1 _ _ _ hx hC, fun W hx => impl_NegateCond_no W A1 L.length c1 _ _ _ hx hC, by simp, fun x hx => by simp at hx, fun _ => ⟨rfl, by rw [hq]; unfold holdsB; rw [hC]; rfl, by rw [hN]; unfold optsOf; rw [if_neg (by simp [hC])]; rfl⟩, fun j hj => absurd hj (by simp), fun h => by cases h⟩
    | true =>
      obtain ⟨t, hs⟩ := tree_of hC
      by_cases hl : (t.neg true).length ≤ 30
      · have e1 : negOf t = t.neg true := by unfold negOf; rw [if_pos hl]
        have e2 : negOk t = true := by unfold negOk; simpa using hl
        obtain ⟨n1, _, n3⟩ := neg_list hs.good hl
        refine ⟨negOf t, negOk t, fun W hx => spec_NegateCond_yes W A1 L.length c1 _ _ _ hx hC hs, fun W hx => impl_NegateCond_yes W A1 L.length c1 _ _ _ hx hC hs, negOf_len t, negOf_bd hs, fun h => (by rw [hcnd, hC] at h; cases h), ?_, fun _ => ?_⟩
        · rw [e1]; exact n3
        · rw [e1, hq]; exact ⟨n1, neg_holds hC hs hl⟩
      · have e1 : negOf t = [] := by unfold negOf; rw [if_neg hl]
        have e2 : negOk t = false := by unfold negOk; simpa using hl
        refine ⟨negOf t, negOk t, fun W hx => spec_NegateCond_yes W A1 L.length c1 _ _ _ hx hC hs, fun W hx => impl_NegateCond_yes W A1 L.length c1 _ _ _ hx hC hs, negOf_len t, negOf_bd hs, fun h => (by rw [hcnd, hC] at h; cases h), ?_, fun h => (by rw [e2] at h; cases h)⟩
        rw [e1]; intro j hj; exact absurd hj (by simp)
  have SP := Lib.hid sp
  have IM := Lib.hid im
  have BD := Lib.hid hbd
  have HZ := Lib.hid hz
  have HBI := Lib.hid hbi
  have HNN := Lib.hid hnn
  have OP := Lib.hid (fun (W : World) (hW : CondNodeF W A1 L.length c1 (ndK L) (ndO L) (ndV L)) => impl_OptionsIn W A1 L.length c1 _ _ _ hW)
  have SC := Lib.hid (fun (W : World) (hW : CondNodeF W A1 L.length c1 (ndK L) (ndO L) (ndV L)) => spec_IsCond W A1 L.length c1 _ _ _ hW)
  have HO := Lib.hid (fun (W : World) (hW : CondNodeF W A1 L.length c1 (ndK L) (ndO L) (ndV L)) (hP : PickF W A2 X.length c2 (pkO X) (pkV X)) => impl_Holds W A1 L.length c1 _ _ _ hW A2 X.length c2 _ _ hP)
  rw [← hN] at OP
  rw [← hcnd] at SC
  rw [← hq] at HO
  have hoo : (ok != ok) = false := by simp
  clear sp im hbd hz hnn hbi h1 hp xo b1 hN hcnd hq
  go_wp2_with fail
  refine (IM.out _ H1.out).mono ?_; rintro e w2 ⟨An, cn, rfl, on, b2⟩
  have H2 := Lib.hid (H1.out.call b2)
  have P2 := Lib.hid (P1.out.call b2)
  have B2 := Lib.hid (B1.out.trans (b2.mono B1.out.size))
  have N2 := Lib.hid (nd_reads (own_slice on).1 BD.out)
  clear b2 on
  go_wp2_with fail
  refine (SP.out _ H2.out).mono ?_; rintro e w3 ⟨As, cs, rfl, os, b3⟩
  have H3 := Lib.hid (H2.out.call b3)
  have P3 := Lib.hid (P2.out.call b3)
  have N3 := Lib.hid (N2.out.call b3)
  have B3 := Lib.hid (B2.out.trans (b3.mono B2.out.size))
  clear b3 os
  go_wp2_with fail
  refine (OP.out _ H3.out).mono ?_; rintro e w4 ⟨v, rfl, on, b4⟩
  obtain ⟨Ao, co, rfl, hso, hfree⟩ := on.slice
  clear hfree on
  have S4 := Lib.hid (lst_strs hso NZ.out)
  have H4 := Lib.hid (H3.out.call b4)
  have P4 := Lib.hid (P3.out.call b4)
  have N4 := Lib.hid (N3.out.call b4)
  have B4 := Lib.hid (B3.out.trans (b4.mono B3.out.size))
  clear b4 hso H1 H2 H3 P1 P2 P3 N2 N3 B1 B2 B3 SP IM OP
  go_wp2_with fail
  have Y0 := Lib.hid (OwnV.lit w4 (B := w4.heap.size) (Nat.le_refl _) 52 2 0 #[] (pkC []) (by simp [flat]) (by omega))
  have D0 := Lib.hid ((Below.refl w4.heap.size w4).alloc (Nat.le_refl _) (.cells #[] 52))
  go_loopw [10, 11] (fun lv iv W => ∃ (k : Nat) (Y : List Pk), iv = .int .i64 (k : Int) ∧ k ≤ X.length ∧ Y.length ≤ k ∧ ∃ (Al : Option Addr) (cl : Nat), lv = .slice Al Y.length cl ∧ OwnV w4.heap.size W 52 2 (.slice Al Y.length cl) Y.length (pkC Y) ∧ PkOk Y ∧ LessOk N (pkO X) (pkV X) k Y ∧ Below w4.heap.size w4 W) (fun _ iv _ => X.length - (intOf iv).toNat)
  case atStart => exact ⟨0, [], rfl, by omega, by simp, _, _, rfl, Y0.out, fun x hx => absurd hx (by simp), fun a d ha => rfl, D0.out⟩
  case round =>
    clear Y0 D0
    obtain ⟨k, Y, rfl, hk, hyk, Al, cl, rfl, hown, hok, hless, hbw⟩ := hrel
    have O := Lib.hid hown
    have YO := Lib.hid hok
    have LO := Lib.hid hless
    have D := Lib.hid hbw
    have HYK := Lib.hid hyk
    have VLO := Lib.hid (show ∀ r, (Value.slice Al Y.length cl).ownBlock = some r → w4.heap.size ≤ r from fun r h => (hown.lt h).1)
    clear hown hok hless hbw hyk
    by_cases hlt : k < X.length
    case pos =>
      have hlt' : (k : Int) < (X.length : Int) := by omega
      have PW := Lib.hid (P4.out.call D.out)
      have SW := Lib.hid (S4.out.call D.out)
      obtain ⟨xb, xu, rfl, hxb, k0, k1⟩ := PW.out.cells hlt
      have HT := Lib.hid (hasText_any wr Ao N.length co (lstF N) (pkO X k) SW.out)
      have xk := pkOk_at XO.out hlt
      have LY := Lib.hid (fun (hin : (fndS (lstF N) (pkO X k) N.length).isSome = true) => less_yes LO.out)
      have LN := Lib.hid (fun (hin : ¬ (fndS (lstF N) (pkO X k) N.length).isSome = true) => less_no LO.out (fun h => hin ((has_mem N _).2 h)))
      generalize hg : (fndS (lstF N) (pkO X k) N.length).isSome = r at *
      clear hg
      obtain ⟨xo, hxo⟩ : ∃ x, x = pkO X k := ⟨_, rfl⟩
      obtain ⟨xv, hxv⟩ : ∃ x, x = pkV X k := ⟨_, rfl⟩
      rw [← hxo] at k0 HT xk LY
      rw [← hxv] at k1 xk LY
      clear hxo hxv
      cases r
      case false =>
        have L2 := Lib.hid (LN.out (by simp))
        clear LY LN
        go_wp2_with fail
        refine HT.out.mono ?_; rintro e wz ⟨rfl, hwz⟩; obtain rfl := hwz.symm
        clear HT
        go_wp2_with fail
        go_roundw
        case rel => exact ⟨k + 1, Y, by go_num, by omega, by have := HYK.out; omega, Al, cl, rfl, O.out, YO.out, L2.out, D.out⟩
        case measure => simp [intOf]; omega
      case true =>
        have L2 := Lib.hid (LY.out rfl)
        clear LY LN
        go_wp2_with fail
        refine HT.out.mono ?_; rintro e wz ⟨rfl, hwz⟩; obtain rfl := hwz.symm
        clear HT
        go_wp2_with (at_builtin; refine appS wr rfl _ _ 38 rfl (B := w4.heap.size) (i := i0) (z := .agg #[.string ByteArray.empty, .string ByteArray.empty]) (s := 2) (bytes := 32) (F := pkC (Y ++ [(xo, xv)])) (v := .slice Al Y.length cl) (n := Y.length) (xs := #[.string xo, .string xv]) Try.underlying38 hi0 hz0 hs0 hb0 rfl (by decide) rfl (O.out.congr (fun a b ha hb => pkC_app Y [(xo, xv)] ha)) D.out.size rfl (fun q hq => by rw [pkC_last]; rcases (by omega : q = 0 ∨ q = 1) with rfl | rfl <;> rfl) (fun q hq => pkC_one _ _ _) (by have := HYK.out; omega) (by decide) ?_)
        intro v7 w7 hv7 hg7 hb7
        have D7 := Lib.hid (below_own D.out hg7 VLO.out D.out.size)
        have V7 := Lib.hid hv7
        obtain ⟨A7, p7, rfl, hs7, hf7⟩ := hv7.slice
        clear hs7 hf7 hv7 hg7 hb7 k0 k1
        go_wp2_with fail
        go_roundw
        case rel => exact ⟨k + 1, Y ++ [(xo, xv)], by go_num, by omega, by have := HYK.out; rw [List.length_append, List.length_singleton]; omega, A7, p7, by simp, by simpa using V7.out, pkOk_app YO.out xk, L2.out, D7.out⟩
        case measure => simp [intOf]; omega
    obtain rfl : k = X.length := by omega
    have hk' : ¬ (X.length : Int) < (X.length : Int) := by omega
    have LH := Lib.hid (LESS.out Y LO.out)
    have HW := Lib.hid (H4.out.call D.out)
    have PW := Lib.hid (P4.out.call D.out)
    have NW := Lib.hid (N4.out.call D.out)
    have BW := Lib.hid (B4.out.trans (D.out.mono B4.out.size))
    have YW := Lib.hid (pk_pickF O.out YO.out)
    clear O LO D VLO H4 P4 N4 B4 S4 LESS
    go_wp2_with fail
    refine (SC.out _ HW.out).mono ?_; rintro e w5 ⟨rfl, b5⟩
    have H5 := Lib.hid (HW.out.call b5)
    have P5 := Lib.hid (PW.out.call b5)
    have Y5 := Lib.hid (YW.out.call b5)
    have N5 := Lib.hid (NW.out.call b5)
    have B5 := Lib.hid (BW.out.trans (b5.mono BW.out.size))
    clear b5 HW PW YW NW BW SC
    cases cnd
    case false =>
      obtain ⟨rfl, rfl, hn0⟩ := HZ.out (by rfl)
      go_wp2_with fail
      refine (HO.out _ H5.out P5.out).mono ?_; rintro e w6 ⟨rfl, b6⟩
      have B6 := Lib.hid (B5.out.trans (b6.mono B5.out.size))
      clear b6
      go_wp2_with fail
      go_ret
      exact ⟨rfl, B6.out⟩
    case true =>
      have lh := LH.out (by rfl)
      have HO2 := Lib.hid (fun (W : World) (hW : CondNodeF W A1 L.length c1 (ndK L) (ndO L) (ndV L)) (hP : PickF W Al Y.length cl (pkO Y) (pkV Y)) => impl_Holds W A1 L.length c1 _ _ _ hW Al Y.length cl _ _ hP)
      rw [lh] at HO2
      have SM := Lib.hid (fun (W : World) (hW : CondNodeF W An M.length cn (ndK M) (ndO M) (ndV M)) => spec_IsCond W An M.length cn _ _ _ hW)
      have HM := Lib.hid (fun (W : World) (hW : CondNodeF W An M.length cn (ndK M) (ndO M) (ndV M)) (hP : PickF W A2 X.length c2 (pkO X) (pkV X)) => impl_Holds W An M.length cn _ _ _ hW A2 X.length c2 _ _ hP)
      clear LH lh HZ
      go_wp2_with fail
      go_loop [12] (fun i => ∃ k : Nat, k ≤ M.length ∧ i = .int .i64 (k : Int)) (fun i => M.length - (intOf i).toNat)
      case atStart => exact ⟨0, Nat.zero_le _, rfl⟩
      case round =>
        obtain ⟨j, hj, rfl⟩ := hrel
        by_cases hjl : j < M.length
        case neg =>
          obtain rfl : j = M.length := by omega
          have hj' : ¬ (M.length : Int) < (M.length : Int) := by omega
          have qq : (q == q) = true := by simp
          go_wp2_with fail
          refine (HO2.out _ H5.out Y5.out).mono ?_; rintro e w6 ⟨rfl, b6⟩
          have H6 := Lib.hid (H5.out.call b6)
          have P6 := Lib.hid (P5.out.call b6)
          have N6 := Lib.hid (N5.out.call b6)
          have B6 := Lib.hid (B5.out.trans (b6.mono B5.out.size))
          clear b6
          go_wp2_with fail
          refine (HO.out _ H6.out P6.out).mono ?_; rintro e w7 ⟨rfl, b7⟩
          have H7 := Lib.hid (H6.out.call b7)
          have P7 := Lib.hid (P6.out.call b7)
          have N7 := Lib.hid (N6.out.call b7)
          have B7 := Lib.hid (B6.out.trans (b7.mono B6.out.size))
          clear b7
          cases ok
          case false =>
            cases q
            all_goals
              go_wp2_with fail
              go_ret
              exact ⟨rfl, B7.out⟩
          case true =>
            obtain ⟨e1, e2⟩ := HBI.out (by rfl)
            rw [e1] at SM
            rw [e2] at HM
            clear e1 e2 HBI
            cases q
            all_goals
              go_wp2_with fail
              refine (SM.out _ N7.out).mono ?_; rintro e w8 ⟨rfl, b8⟩
              have H8 := Lib.hid (H7.out.call b8)
              have P8 := Lib.hid (P7.out.call b8)
              have N8 := Lib.hid (N7.out.call b8)
              have B8 := Lib.hid (B7.out.trans (b8.mono B7.out.size))
              clear b8
              go_wp2_with fail
              refine (HM.out _ N8.out P8.out).mono ?_; rintro e w9 ⟨rfl, b9⟩
              have H9 := Lib.hid (H8.out.call b9)
              have P9 := Lib.hid (P8.out.call b9)
              have B9 := Lib.hid (B8.out.trans (b9.mono B8.out.size))
              clear b9
              go_wp2_with fail
              refine (HO.out _ H9.out P9.out).mono ?_; rintro e w10 ⟨rfl, b10⟩
              have B10 := Lib.hid (B9.out.trans (b10.mono B9.out.size))
              clear b10
              go_wp2_with fail
              go_ret
              exact ⟨rfl, B10.out⟩
        have hj' : (j : Int) < (M.length : Int) := by omega
        obtain ⟨nb, nu, rfl, hnb, n0, n1, n2⟩ := N5.out.cells hjl
        by_cases h2 : ndK M j = 2
        · obtain ⟨j1, jj⟩ := HNN.out j hjl h2
          obtain ⟨nb', nu', e8, hnb', m0, m1, m2⟩ := N5.out.cells (show j - 1 < M.length by omega)
          injection e8 with e8
          injection e8 with e81 e82
          subst e81
          subst e82
          rw [h2] at n0
          obtain ⟨p, hp⟩ : ∃ p : Nat, p = j - 1 := ⟨_, rfl⟩
          rw [← hp] at jj m0 m1 m2
          have hp1 : (j : Int) - 1 = (p : Int) := by omega
          have hp2 : (p : Int) < (M.length : Int) := by omega
          clear hp h2 j1
          rcases jj with jj | jj
          all_goals
            rw [jj] at m0
            clear jj
            go_wp2_with fail
            go_round
            case rel => exact ⟨j + 1, by omega, by go_num⟩
            case measure => simp [intOf]; omega
        · obtain ⟨K, hK⟩ : ∃ K, K = ndK M j := ⟨_, rfl⟩
          rw [← hK] at n0 h2
          have hK2 : (K == 2) = false := by simpa using h2
          clear hK h2
          go_wp2_with fail
          go_round
          case rel => exact ⟨j + 1, by omega, by go_num⟩
          case measure => simp [intOf]; omega
end Go.Proofs.Ytkkhaamklbolmaa
