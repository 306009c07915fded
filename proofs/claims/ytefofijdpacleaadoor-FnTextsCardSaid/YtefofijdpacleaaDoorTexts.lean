/-
  Walk of the law FnTexts.
-/
import Derived.Test.YtefofijdpacleaaDoorDrawTxt
import Derived.Test.YtefofijdpacleaaDoorParse2
namespace Go.Proofs.YtefofijdpacleaaDoor
open Go.RowKit
set_option linter.unusedVariables false
set_option linter.unusedSimpArgs false

theorem texts_twin {n v : Int} (g : Good v (itoaS n)) : v = n ∧ -1000000000000 < n ∧ n < 1000000000000 := by
  have e := itoaS_inj g.1
  subst e
  exact ⟨rfl, g.2⟩
theorem bytes_call {w w' : World} {A : Option Addr} {len : Nat} (h : Bytes w A len) (hb : Below w.heap.size w w') : Bytes w' A len :=
  ⟨h.1, fun j hj => by
    obtain ⟨b, o, x, e, hB, h0, h1, hc⟩ := h.2 j hj
    exact ⟨b, o, x, e, Nat.lt_of_lt_of_le hB hb.size, h0, h1, (hb.cell (p := ⟨b, o + j, none⟩) hB).trans hc⟩⟩
set_option maxHeartbeats 1600000 in
theorem law_Texts (w : World) (A : Option Addr) (len cap : Nat) (hb : Bytes w A len) (hv : VarOk w) :
    Calls Tryd.prog 4 #[.slice A len cap] w fun e w' => e = .returned (.bool true) ∧ Below w.heap.size w w' := by
  have hm := hb.1
  have HB := Lib.hid hb
  have HV := Lib.hid hv
  clear hb hv
  by_cases hbig : 1048576 < len
  · have hd : decide (1048576 < len) = true := by simpa using hbig
    go_enter Tryd.func4, Tryd.ntmps4
    go_wp2_with fail
    refine (big_any _ _ _ _ hm).mono ?_; rintro e w0 ⟨rfl, rfl⟩
    go_wp2_with fail
    go_ret
    exact ⟨rfl, Below.refl _ _⟩
  have hd : decide (1048576 < len) = false := by simpa using hbig
  go_enter Tryd.func4, Tryd.ntmps4
  go_wp2_with fail
  refine (big_any _ _ _ _ hm).mono ?_; rintro e w0 ⟨rfl, hw0⟩; obtain rfl := hw0.symm
  go_wp2_with fail
  refine (drawFormatInt_any _ _ _ _ HB.out).mono ?_; rintro e w1 ⟨n, rfl, n0, n1, b1⟩
  have V1 := Lib.hid (HV.out.call b1)
  have C1 := Lib.hid (bytes_call HB.out b1)
  have hsz := itoaS_size n n0 n1
  have B1 := Lib.hid b1
  clear b1
  go_wp2_with fail
  refine (impl_FormatInt n _ n0 n1 V1.out.tab).mono ?_; rintro e w2 ⟨rfl, b2⟩
  have V2 := Lib.hid (V1.out.call b2)
  have C2 := Lib.hid (bytes_call C1.out b2)
  have B2 := Lib.hid (B1.out.trans (b2.mono B1.out.size))
  have TW := Lib.hid (fun (v : Int) (g : Good v (itoaS n)) => texts_twin g)
  have go0 : -1000000000000 < n → n < 1000000000000 → Good n (itoaS n) := fun h0 h1 => ⟨rfl, h0, h1⟩
  have GO := Lib.hid go0
  clear go0
  clear b2
  generalize itoaS n = s at *
  go_wp2_with fail
  refine (impl_ParseInt s _ (by omega) V2.out).mono ?_; rintro e w3 ⟨hp, b3⟩
  have V3 := Lib.hid (V2.out.call b3)
  have C3 := Lib.hid (bytes_call C2.out b3)
  have B3 := Lib.hid (B2.out.trans (b3.mono B2.out.size))
  clear b3
  rcases hp with ⟨v, hg, rfl⟩ | ⟨hno, rfl⟩
  · obtain ⟨rfl, k0, k1⟩ := TW.out v hg
    clear hg
    unfold pairV
    go_wp2_with fail
    refine (drawParseInt_any _ _ _ _ C3.out).mono ?_; rintro e w4 ⟨t, rfl, ht, b4⟩
    have V4 := Lib.hid (V3.out.call b4)
    have B4 := Lib.hid (B3.out.trans (b4.mono B3.out.size))
    clear b4
    go_wp2_with fail
    refine (impl_ParseInt t _ (by omega) V4.out).mono ?_; rintro e w5 ⟨hq, b5⟩
    have V5 := Lib.hid (V4.out.call b5)
    have B5 := Lib.hid (B4.out.trans (b5.mono B4.out.size))
    clear b5
    rcases hq with ⟨y, hy, rfl⟩ | ⟨hn, rfl⟩
    · have y0 : -9223372036854775808 ≤ y := by have := hy.2; omega
      have y1 : y ≤ 9223372036854775807 := by have := hy.2; omega
      have ey := hy.1
      unfold pairV
      have EY := Lib.hid ey
      clear ey hy
      go_wp2_with fail
      refine (impl_FormatInt y _ y0 y1 V5.out.tab).mono ?_; rintro e w6 ⟨rfl, b6⟩
      have B6 := Lib.hid (B5.out.trans (b6.mono B5.out.size))
      rw [EY.out]
      clear b6
      go_wp2_with fail
      go_ret
      exact ⟨by simp, B6.out⟩
    · unfold pairV
      clear hn
      go_wp2_with fail
      go_ret
      exact ⟨rfl, B5.out⟩
  · have hk : ¬ (-1000000000000 < n ∧ n < 1000000000000) := fun h => hno n (GO.out h.1 h.2)
    clear hno
    unfold pairV
    by_cases k0 : -1000000000000 < n
    · have k1 : ¬ n < 1000000000000 := fun h => hk ⟨k0, h⟩
      clear hk
      go_wp2_with fail
      refine (drawParseInt_any _ _ _ _ C3.out).mono ?_; rintro e w4 ⟨t, rfl, ht, b4⟩
      have V4 := Lib.hid (V3.out.call b4)
      have B4 := Lib.hid (B3.out.trans (b4.mono B3.out.size))
      clear b4
      go_wp2_with fail
      refine (impl_ParseInt t _ (by omega) V4.out).mono ?_; rintro e w5 ⟨hq, b5⟩
      have V5 := Lib.hid (V4.out.call b5)
      have B5 := Lib.hid (B4.out.trans (b5.mono B4.out.size))
      clear b5
      rcases hq with ⟨y, hy, rfl⟩ | ⟨hn, rfl⟩
      · have y0 : -9223372036854775808 ≤ y := by have := hy.2; omega
        have y1 : y ≤ 9223372036854775807 := by have := hy.2; omega
        have ey := hy.1
        unfold pairV
        have EY := Lib.hid ey
        clear ey hy
        go_wp2_with fail
        refine (impl_FormatInt y _ y0 y1 V5.out.tab).mono ?_; rintro e w6 ⟨rfl, b6⟩
        have B6 := Lib.hid (B5.out.trans (b6.mono B5.out.size))
        rw [EY.out]
        clear b6
        go_wp2_with fail
        go_ret
        exact ⟨by simp, B6.out⟩
      · unfold pairV
        clear hn
        go_wp2_with fail
        go_ret
        exact ⟨rfl, B5.out⟩
    · clear hk
      go_wp2_with fail
      refine (drawParseInt_any _ _ _ _ C3.out).mono ?_; rintro e w4 ⟨t, rfl, ht, b4⟩
      have V4 := Lib.hid (V3.out.call b4)
      have B4 := Lib.hid (B3.out.trans (b4.mono B3.out.size))
      clear b4
      go_wp2_with fail
      refine (impl_ParseInt t _ (by omega) V4.out).mono ?_; rintro e w5 ⟨hq, b5⟩
      have V5 := Lib.hid (V4.out.call b5)
      have B5 := Lib.hid (B4.out.trans (b5.mono B4.out.size))
      clear b5
      rcases hq with ⟨y, hy, rfl⟩ | ⟨hn, rfl⟩
      · have y0 : -9223372036854775808 ≤ y := by have := hy.2; omega
        have y1 : y ≤ 9223372036854775807 := by have := hy.2; omega
        have ey := hy.1
        unfold pairV
        have EY := Lib.hid ey
        clear ey hy
        go_wp2_with fail
        refine (impl_FormatInt y _ y0 y1 V5.out.tab).mono ?_; rintro e w6 ⟨rfl, b6⟩
        have B6 := Lib.hid (B5.out.trans (b6.mono B5.out.size))
        rw [EY.out]
        clear b6
        go_wp2_with fail
        go_ret
        exact ⟨by simp, B6.out⟩
      · unfold pairV
        clear hn
        go_wp2_with fail
        go_ret
        exact ⟨rfl, B5.out⟩
end Go.Proofs.YtefofijdpacleaaDoor
