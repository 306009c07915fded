/-
  All ways to choose: the law's every. (Printed by gen/choice2.py.)
-/
import Derived.Test.YtkkhaamklbolmaaChoice1
import Derived.Deep.RegionHeld3
namespace Go.Proofs.Ytkkhaamklbolmaa
open Go.RowKit Go.Sort
set_option linter.unusedVariables false
set_option linter.unusedSimpArgs false

set_option maxRecDepth 20000 in
set_option maxHeartbeats 8000000 in
theorem every_any (w : World) (A : Option Addr) (n c : Nat) (D : OptD) (P : Loc) (v2 : Value) (h : OptsF w A n c D P) (hn : n ≤ 4) (hD : ∀ i, i < n → D.n i ≤ 4) :
    Calls Try.prog 49 #[.agg #[.slice A n c, v2]] w fun e w' => ∃ v, e = .returned v ∧ RowsF w.heap.size w' v (allL D n) ∧ Below w.heap.size w w' := by
  obtain ⟨i0, hi0, hz0, hs0, hb0⟩ := info_parts pick_info
  obtain ⟨i1, hi1, hz1, hs1, hb1⟩ := info_parts picks_info
  obtain ⟨w1, hw1⟩ : ∃ w1, w1 = w.alloc (.cells #[.slice A n c, v2] 66) := ⟨_, rfl⟩
  have b1 : Below w.heap.size w w1 := by rw [hw1]; exact (Below.refl _ _).alloc (Nat.le_refl _) _
  have H1 := Lib.hid (h.call b1)
  have M1 := Lib.hid (show Row w1 w.heap.size 66 2 (modelM (.slice A n c) v2) by rw [hw1]; exact row_lit w #[.slice A n c, v2] _ 2 _ (by simp) (fun i hi => by unfold modelM; rcases (by omega : i = 0 ∨ i = 1) with rfl | rfl <;> rfl))
  have sz1 : w1.heap.size = w.heap.size + 1 := by rw [hw1]; simp
  have B1 := Lib.hid b1
  have W1 := Lib.hid hw1
  have HD := Lib.hid hD
  have R0 := Lib.hid (rows_one (w := w1) (B := w1.heap.size) (Nat.le_refl _))
  have D0 := Lib.hid (((Below.refl w1.heap.size w1).alloc (Nat.le_refl _) (.cells #[] 52)).alloc (by simp) (.cells #[.slice (some ⟨w1.heap.size, 0, none⟩) 0 0] 38))
  clear h b1 hw1 hD
  go_enter Try.func49, Try.ntmps49
  go_wp2_with fail
  rw [← W1.out]
  go_loopw [3, 4] (fun ov iv wr => ∃ i : Nat, i ≤ n ∧ iv = .int .i64 (i : Int) ∧ RowsF w1.heap.size wr ov (allL D i) ∧ Below w1.heap.size w1 wr) (fun _ iv _ => n - (intOf iv).toNat)
  case atStart => exact ⟨0, Nat.zero_le _, rfl, by have := R0.out; show RowsF _ _ _ [[]]; simpa [sz1] using this, by have := D0.out; simpa [sz1] using this⟩
  case round =>
    clear R0 D0
    obtain ⟨i, hi, rfl, hrows, hbe⟩ := hrel
    have RW := Lib.hid hrows
    have BE := Lib.hid hbe
    have mr := M1.out.call hbe
    have m0 : wr.cell? ⟨w.heap.size, 0, none⟩ = some (.slice A n c) := mr.cell (i := 0) (by omega)
    have mlt := mr.lt
    have HO := Lib.hid (H1.out.call hbe)
    have esz := hbe.size
    clear hrows hbe mr
    by_cases hlt : i < n
    case neg =>
      obtain rfl : i = n := by omega
      go_wp2_with fail
      go_ret
      exact ⟨_, rfl, RW.out.base (by omega), B1.out.trans (BE.out.mono (by omega))⟩
    have hlt' : (i : Int) < (n : Int) := by omega
    obtain ⟨wa, rfl⟩ : ∃ wa, wa = wr := ⟨_, rfl⟩
    obtain ⟨V, hown, hpk⟩ := RW.out
    obtain ⟨L, hL⟩ : ∃ L, L = allL D i := ⟨_, rfl⟩
    rw [← hL] at hown hpk
    have hLl : L.length ≤ 256 := by rw [hL]; exact all_le hn hi HD.out
    obtain ⟨Ar, cr, rfl, hsl, hfr⟩ := hown.slice
    have FR := Lib.hid hfr
    clear hfr
    obtain ⟨b, o, rfl, hB, k0, k1⟩ := HO.out.cells hlt
    have OW := Lib.hid hown
    have PK := Lib.hid hpk
    have SL := Lib.hid hsl
    have VL := Lib.hid (HO.out.vals i hlt)
    have hdn := HD.out i hlt
    have HLL := Lib.hid hL
    have RN := Lib.hid (rows_nil (w := wa) (B := wa.heap.size) (Nat.le_refl _))
    have DN := Lib.hid ((Below.refl wa.heap.size wa).alloc (Nat.le_refl _) (.cells #[] 38))
    clear hown hpk hsl hL RW
    go_wp2_with fail
    go_loopw [5, 6] (fun ov rv W => ∃ r : Nat, r ≤ L.length ∧ rv = .int .i64 (r : Int) ∧ RowsF wa.heap.size W ov (nextL D i (L.take r)) ∧ Below wa.heap.size wa W) (fun _ rv _ => L.length - (intOf rv).toNat)
    case atStart => exact ⟨0, Nat.zero_le _, rfl, RN.out, DN.out⟩
    case round =>
      clear RN DN
      obtain ⟨r, hr, rfl, hnext, hbw⟩ := hrel
      have BW := Lib.hid hbw
      have NX := Lib.hid hnext
      clear hnext hbw
      by_cases hrl : r < L.length
      case neg =>
        obtain rfl : r = L.length := by omega
        have hr' : ¬ (L.length : Int) < (L.length : Int) := by omega
        go_wp2_with fail
        go_roundw
        case rel => exact ⟨i + 1, by omega, by go_num, by
          have := NX.out
          rw [List.take_length, HLL.out] at this
          exact this.base (by omega), BE.out.trans (BW.out.mono (by omega))⟩
        case measure => simp [intOf]; omega
      have hrl' : (r : Int) < (L.length : Int) := by omega
      obtain ⟨wb, rfl⟩ : ∃ wb, wb = wr := ⟨_, rfl⟩
      go_wp2_with fail
      go_loopw [5, 7] (fun ov kv W => ∃ k : Nat, k ≤ D.n i ∧ kv = .int .i64 (k : Int) ∧ RowsF wa.heap.size W ov (nextL D i (L.take r) ++ partL D i (L.getD r []) k) ∧ Below wa.heap.size wa W) (fun _ kv _ => D.n i - (intOf kv).toNat)
      case atStart => exact ⟨0, Nat.zero_le _, rfl, by simpa [partL] using NX.out, BW.out⟩
      case round =>
        obtain ⟨k, hk, rfl, hnext, hbw⟩ := hrel
        clear NX BW
        obtain ⟨V2, hown2, hpk2⟩ := hnext
        obtain ⟨N2, hN2⟩ : ∃ N2, N2 = nextL D i (L.take r) ++ partL D i (L.getD r []) k := ⟨_, rfl⟩
        rw [← hN2] at hown2 hpk2
        have hNl : N2.length ≤ 2000 := by
          rw [hN2, List.length_append, nextL_len, partL_len]
          have h1 : (L.take r).length * D.n i ≤ 256 * 4 := Nat.mul_le_mul (by rw [List.length_take]; omega) hdn
          omega
        obtain ⟨A2, c2, rfl, hsl2, hfr2⟩ := hown2.slice
        have O2 := Lib.hid hown2
        have P2 := Lib.hid hpk2
        have BW := Lib.hid hbw
        have ld0 : wr.cell? ⟨w.heap.size, 0, none⟩ = some (.slice (some ⟨b, o, none⟩) n c) := (hbw.cell (p := ⟨w.heap.size, 0, none⟩) mlt).trans m0
        have ld1 : wr.cell? ⟨b, o + i * 2, none⟩ = some (.string (D.nm i)) := (hbw.cell (p := ⟨b, o + i * 2, none⟩) hB).trans k0
        have ld2 : wr.cell? ⟨b, o + i * 2 + 1, none⟩ = some (.slice (P.A i) (D.n i) (P.c i)) := (hbw.cell (p := ⟨b, o + i * 2 + 1, none⟩) hB).trans k1
        have wsz := hbw.size
        have HN2 := Lib.hid hN2
        by_cases hkl : k < D.n i
        case neg =>
          obtain rfl : k = D.n i := by omega
          have hk' : ¬ (D.n i : Int) < (D.n i : Int) := by omega
          clear hown2 hpk2 hsl2 hfr2 hbw hN2
          go_wp2_with fail
          go_roundw
          case rel => exact ⟨r + 1, by omega, by go_num, by rw [nextL_take D i L hrl, ← HN2.out]; exact ⟨V2, O2.out, P2.out⟩, BW.out⟩
          case measure => simp [intOf]; omega
        obtain ⟨ar, ao, hAr, hrB, hrc⟩ := SL.out.cell r hrl
        subst hAr
        have hao := (FR.out ar ao rfl).1
        subst hao
        have hrc0 := hrc 0 (by omega)
        obtain ⟨X, hX⟩ : ∃ X, X = L.getD r [] := ⟨_, rfl⟩
        obtain ⟨gx, cx, hvx, hsx⟩ := (PK.out r hrl).slice
        rw [← hX] at hvx hsx
        have hXl : X.length ≤ 100 := by
          have hm := getD_mem hrl
          rw [← hX, HLL.out] at hm
          have := (allL_each hm).1
          omega
        have la3 : wa.cell? ⟨ar, r, none⟩ = some (.slice (some ⟨gx, 0, none⟩) X.length cx) := by
          have := hrc0
          rw [Nat.mul_one, Nat.add_zero, Nat.zero_add] at this
          rw [this]; exact congrArg some hvx
        have ga3 : ar < wa.heap.size := hrB
        have ld3 := (hbw.cell (p := ⟨ar, r, none⟩) ga3).trans la3
        have SX := Lib.hid hsx
        have BX := Lib.hid hbw
        have HX := Lib.hid hX
        clear hown2 hpk2 hsl2 hfr2 hbw hrc hrc0 hvx hsx hX hN2
        have hkl' : (k : Int) < (D.n i : Int) := by omega
        obtain ⟨bv, ov, hvA, hvB, hvc⟩ := VL.out.cell hkl
        rw [hvA] at ld2 k1
        have ld4 : wr.cell? ⟨bv, ov + k, none⟩ = some (.string (D.vs i k)) := (BW.out.cell (p := ⟨bv, ov + k, none⟩) hvB).trans hvc
        obtain ⟨nm, hnm⟩ : ∃ x, x = D.nm i := ⟨_, rfl⟩
        obtain ⟨val, hval⟩ : ∃ x, x = D.vs i k := ⟨_, rfl⟩
        rw [← hnm] at ld1 k0
        rw [← hval] at ld4 hvc
        have la0 := m0
        have la1 := k0
        have la2 := k1
        have la4 := hvc
        have ga0 : w.heap.size < wa.heap.size := mlt
        have ga1 : b < wa.heap.size := hB
        have ga2 := ga1
        have ga4 : bv < wa.heap.size := hvB
        have HNM := Lib.hid hnm
        have HVL := Lib.hid hval
        have g0 : w.heap.size < wr.heap.size := by omega
        have g1 : b < wr.heap.size := by omega
        have g2 := g1
        have g3 : ar < wr.heap.size := by omega
        have g4 : bv < wr.heap.size := by omega
        clear hvc hnm hval k0 k1 m0
        go_wp2_with fail
        go_region_held3 (fun W => Below wa.heap.size wa W ∧ W.cell? ⟨w.heap.size, 0, none⟩ = some (.slice (some ⟨b, o, none⟩) n c) ∧ W.cell? ⟨b, o + i * 2, none⟩ = some (.string nm) ∧ W.cell? ⟨b, o + i * 2 + 1, none⟩ = some (.slice (some ⟨bv, ov, none⟩) (D.n i) (P.c i)) ∧ W.cell? ⟨ar, r, none⟩ = some (.slice (some ⟨gx, 0, none⟩) X.length cx) ∧ W.cell? ⟨bv, ov + k, none⟩ = some (.string val)) ((refine (fun (hBq : Below wa.heap.size wa _) => ⟨hBq, (hBq.cell (p := ⟨w.heap.size, 0, none⟩) ga0).trans la0, (hBq.cell (p := ⟨b, o + i * 2, none⟩) ga1).trans la1, (hBq.cell (p := ⟨b, o + i * 2 + 1, none⟩) ga2).trans la2, (hBq.cell (p := ⟨ar, r, none⟩) ga3).trans la3, (hBq.cell (p := ⟨bv, ov + k, none⟩) ga4).trans la4⟩) ?_; first | (with_reducible exact B9.out) | (refine below_then ?_ wsz BX.out; repeat' (first | (with_reducible exact Below.refl _ _) | (with_reducible exact B8.out) | (with_reducible exact B7.out) | (with_reducible refine Below.alloc ?_ ?_ _) | (with_reducible refine below_drewN ?_ _) | (with_reducible refine Below.drew ?_) | omega | (simp; done) | (simp; omega))))) (first
          | (refine step_appS w8 rfl _ _ 71 rfl (B := wa.heap.size) (i := i1) (z := .slice none 0 0) (s := 1) (bytes := 24) (F := valC (fun j => if j = N2.length then .slice A8 (X.length + 1) p8 else V2 j)) (v := .slice A2 N2.length c2) (n := N2.length) (xs := #[.slice A8 (X.length + 1) p8]) Try.underlying71 hi1 hz1 hs1 hb1 rfl (by decide) rfl (OwnV.congr (F := valC V2) (O2.out.call B8.out) (fun a b ha hb => valC_lt _ _ ha b)) (by have := B8.out.size; omega) ⟨rfl, rfl, rfl, rfl⟩ rfl (fun q hq => by (obtain rfl : q = 0 := by omega); rw [valC_new]; rfl) (fun q hq => by rw [valC_new]; rfl) (by omega) (by decide) ?_
             intro v9 w9 hv9 hg9 hb9
             obtain ⟨A9, p9, rfl, hs9, hf9⟩ := hv9.slice
             have B9 := Lib.hid (below_own (below_then B8.out wsz BX.out) hg9 (fun r hr => (O2.out.lt hr).1) (by have := B8.out.size; omega))
             have V9 := Lib.hid hv9
             have G9 := Lib.hid hg9
             clear hs9 hf9 hv9 hg9 hb9)
          | (refine step_appM _ rfl _ _ 38 rfl (B := wr.heap.size) (i := i0) (z := .agg #[.string ByteArray.empty, .string ByteArray.empty]) (s := 2) (bytes := 32) (F := pkC (X ++ [(nm, val)])) (v := .slice A7 X.length p7) (n := X.length) Try.underlying38 hi0 hz0 hs0 hb0 rfl (by decide) rfl (OwnV.congr (F := pkC X) (by have h := V7.out; repeat' (first | (with_reducible assumption) | refine OwnV.alloc ?_ _ | refine OwnV.drewN ?_ _ | refine OwnV.drew ?_)) (fun a b ha hb => pkC_app X [(nm, val)] ha)) (by first | omega | (simp; done) | (simp; omega)) ⟨_, 0, none⟩ 1 1 rfl (by first | (with_reducible exact pick_new pick_fresh.1 pick_fresh.2) | (with_reducible exact pick_new q2 q3) | (with_reducible exact pick_new q0 q1)) (fun _ _ _ _ => pkC_one _ _ _) (by omega) (by decide) ?_
             intro v8 w8 hv8 hg8 hb8
             have B8 := Lib.hid (below_own (B := wr.heap.size) (show Below wr.heap.size wr _ from (by repeat' (first | (with_reducible exact Below.refl _ _) | (with_reducible exact B8.out) | (with_reducible exact B7.out) | (with_reducible refine Below.alloc ?_ ?_ _) | (with_reducible refine below_drewN ?_ _) | (with_reducible refine Below.drew ?_) | omega | (simp; done) | (simp; omega)))) hg8 (fun r hr => (V7.out.lt hr).1) (by first | omega | (simp; done) | (simp; omega)))
             have l8 := B8.out.size
             obtain ⟨A8, p8, rfl, hs8, hf8⟩ := hv8.slice
             have V8 := Lib.hid hv8
             clear hs8 hf8 hv8 hg8 hb8 V7)
          | (refine step_appM _ rfl _ _ 38 rfl (B := wr.heap.size) (i := i0) (z := .agg #[.string ByteArray.empty, .string ByteArray.empty]) (s := 2) (bytes := 32) (F := pkC X) (v := .slice (some ⟨_, 0, none⟩) 0 0) (n := 0) Try.underlying38 hi0 hz0 hs0 hb0 rfl (by decide) rfl (own_empty (by repeat' (first | (refine heap_at _ ?_; (first | (with_reducible rfl) | (simp; done))) | refine heap_drew ?_ | refine heap_before ?_ _)) (by omega) _) (by first | omega | (simp; done) | (simp; omega)) ⟨gx, 0, none⟩ X.length cx rfl (fun j q hj hq => by rw [Nat.zero_add]; exact slice_at SX.out (below_then (by repeat' (first | (with_reducible exact Below.refl _ _) | (with_reducible exact B8.out) | (with_reducible exact B7.out) | (with_reducible refine Below.alloc ?_ ?_ _) | (with_reducible refine below_drewN ?_ _) | (with_reducible refine Below.drew ?_) | omega | (simp; done) | (simp; omega))) wsz BX.out) j q hj hq) (fun _ _ _ _ => pkC_one _ _ _) (by omega) (by decide) ?_
             intro v7 w7 hv7 hg7 hb7
             rw [Nat.zero_add] at hv7
             obtain ⟨A7, p7, rfl, hs7, hf7⟩ := hv7.slice
             have V7 := Lib.hid hv7
             have B7 := Lib.hid (below_own (B := wr.heap.size) (show Below wr.heap.size wr _ from (by repeat' (first | (with_reducible exact Below.refl _ _) | (with_reducible exact B8.out) | (with_reducible exact B7.out) | (with_reducible refine Below.alloc ?_ ?_ _) | (with_reducible refine below_drewN ?_ _) | (with_reducible refine Below.drew ?_) | omega | (simp; done) | (simp; omega)))) hg7 (fun r hr => by (simp [Value.ownBlock] at hr; omega)) (by first | omega | (simp; done) | (simp; omega)))
             have q0 := grown_name hg7 ⟨wr.heap.size, 0, none⟩ (.string nm)
             have q1 := grown_name hg7 ⟨wr.heap.size, 1, none⟩ (.string val)
             have q2 := grown_name hg7 ⟨wr.heap.size + 1, 0, none⟩ (.string nm)
             have q3 := grown_name hg7 ⟨wr.heap.size + 1, 1, none⟩ (.string val)
             try simp [go_sem] at q0
             try simp [go_sem] at q1
             try simp [go_sem] at q2
             try simp [go_sem] at q3
             have l7 := B7.out.size
             clear hs7 hf7 hv7 hb7 hg7))
        all_goals
          go_wp2_with fail
          go_roundw
          case rel => exact ⟨k + 1, by omega, by go_num, by
            rw [partL_succ, ← List.append_assoc, ← HX.out, ← HNM.out, ← HVL.out]
            have e := HN2.out
            rw [← HX.out] at e
            rw [← e]
            exact rows_more O2.out P2.out B8.out V8.out V9.out G9.out, below_own (BW.out.trans (B8.out.mono (by omega))) G9.out (fun r hr => (O2.out.lt hr).1) (by have := B8.out.size; omega)⟩
          case measure => simp [intOf]; omega
end Go.Proofs.Ytkkhaamklbolmaa
