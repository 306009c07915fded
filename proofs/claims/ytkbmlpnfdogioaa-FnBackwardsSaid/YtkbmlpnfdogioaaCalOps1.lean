/-
  Contracts of HoursOn, HoursBetween and WorkdaysBetween, of the program and of the reference.
-/
import Derived.Test.YtkbmlpnfdogioaaCalH
import Derived.Lib.QuietBelow
import Derived.Deep.RegionWith
import Derived.BigQuiet
namespace Go.Proofs.Ytkbmlpnfdogioaa
open Go.RowKit cost Go.Sort
set_option linter.unusedVariables false
set_option linter.unusedSimpArgs false

theorem impl_HoursOn_no1 (w : World) (A : Option Addr) (n c : Nat) (f : Nat → Int) (B : Option Addr) (m c2 : Nat) (dy hr : Nat → Int) (h : CalF w A n c f B m c2 dy hr) (d : Int) (hc : calB n f m dy hr = false) :
    Calls Try.prog 19 #[.agg #[.slice A n c, .slice B m c2], .int .i64 d] w fun e w' => e = .returned (.int .i64 0) ∧ Below w.heap.size w w' := by
  have K0 := Lib.hid (cal_boxed w A n c B m c2 30)
  have H := Lib.hid h
  clear h
  go_enter Try.func19, Try.ntmps19
  go_wp2_with fail
  obtain ⟨a0, a1⟩ := K0.out.pair
  generalize w.alloc (.cells #[.slice A n c, .slice B m c2] 30) = W0 at *
  refine (impl_isCalendar _ A n c f B m c2 dy hr (H.out.call K0.out.below)).mono ?_
  rintro e w1 ⟨rfl, hb1⟩
  have K1 := Lib.hid (Kept.call hb1 K0.out)
  have H1 := Lib.hid (H.out.call K1.out.below)
  clear a0 a1 hb1
  obtain ⟨a0, a1⟩ := K1.out.pair
  rw [hc]
  go_wp2_with fail
  go_ret
  exact ⟨rfl, K1.out.below⟩

theorem impl_HoursOn_no2 (w : World) (A : Option Addr) (n c : Nat) (f : Nat → Int) (B : Option Addr) (m c2 : Nat) (dy hr : Nat → Int) (h : CalF w A n c f B m c2 dy hr) (d : Int) (hc : calB n f m dy hr = true) (hd : ¬ (0 ≤ d ∧ d ≤ 999)) :
    Calls Try.prog 19 #[.agg #[.slice A n c, .slice B m c2], .int .i64 d] w fun e w' => e = .returned (.int .i64 0) ∧ Below w.heap.size w w' := by
  have K0 := Lib.hid (cal_boxed w A n c B m c2 30)
  have H := Lib.hid h
  clear h
  go_enter Try.func19, Try.ntmps19
  go_wp2_with fail
  obtain ⟨a0, a1⟩ := K0.out.pair
  generalize w.alloc (.cells #[.slice A n c, .slice B m c2] 30) = W0 at *
  refine (impl_isCalendar _ A n c f B m c2 dy hr (H.out.call K0.out.below)).mono ?_
  rintro e w1 ⟨rfl, hb1⟩
  have K1 := Lib.hid (Kept.call hb1 K0.out)
  have H1 := Lib.hid (H.out.call K1.out.below)
  clear a0 a1 hb1
  obtain ⟨a0, a1⟩ := K1.out.pair
  rw [hc]
  go_wp2_with (first | (go_at_call 38; refine (in_yes _ _ _ _ (by omega)).mono ?_; rintro e w' ⟨rfl, hw'⟩; obtain rfl := hw'.symm) | (go_at_call 38; refine (in_no _ _ _ _ (by omega)).mono ?_; rintro e w' ⟨rfl, hw'⟩; obtain rfl := hw'.symm))
  go_ret
  exact ⟨rfl, K1.out.below⟩

theorem spec_HoursOn_no1 (w : World) (A : Option Addr) (n c : Nat) (f : Nat → Int) (B : Option Addr) (m c2 : Nat) (dy hr : Nat → Int) (h : CalF w A n c f B m c2 dy hr) (d : Int) (hc : calB n f m dy hr = false) :
    Calls Try.prog 18 #[.agg #[.slice A n c, .slice B m c2], .int .i64 d] w fun e w' => e = .returned (.int .i64 0) ∧ Below w.heap.size w w' := by
  have K0 := Lib.hid (cal_boxed w A n c B m c2 30)
  have H := Lib.hid h
  clear h
  go_enter Try.func18, Try.ntmps18
  go_wp2_with fail
  obtain ⟨a0, a1⟩ := K0.out.pair
  generalize w.alloc (.cells #[.slice A n c, .slice B m c2] 30) = W0 at *
  refine (spec_isCalendar _ A n c f B m c2 dy hr (H.out.call K0.out.below)).mono ?_
  rintro e w1 ⟨rfl, hb1⟩
  have K1 := Lib.hid (Kept.call hb1 K0.out)
  have H1 := Lib.hid (H.out.call K1.out.below)
  clear a0 a1 hb1
  obtain ⟨a0, a1⟩ := K1.out.pair
  rw [hc]
  go_wp2_with fail
  go_ret
  exact ⟨rfl, K1.out.below⟩

theorem spec_HoursOn_no2 (w : World) (A : Option Addr) (n c : Nat) (f : Nat → Int) (B : Option Addr) (m c2 : Nat) (dy hr : Nat → Int) (h : CalF w A n c f B m c2 dy hr) (d : Int) (hc : calB n f m dy hr = true) (hd : ¬ (0 ≤ d ∧ d ≤ 999)) :
    Calls Try.prog 18 #[.agg #[.slice A n c, .slice B m c2], .int .i64 d] w fun e w' => e = .returned (.int .i64 0) ∧ Below w.heap.size w w' := by
  have K0 := Lib.hid (cal_boxed w A n c B m c2 30)
  have H := Lib.hid h
  clear h
  go_enter Try.func18, Try.ntmps18
  go_wp2_with fail
  obtain ⟨a0, a1⟩ := K0.out.pair
  generalize w.alloc (.cells #[.slice A n c, .slice B m c2] 30) = W0 at *
  refine (spec_isCalendar _ A n c f B m c2 dy hr (H.out.call K0.out.below)).mono ?_
  rintro e w1 ⟨rfl, hb1⟩
  have K1 := Lib.hid (Kept.call hb1 K0.out)
  have H1 := Lib.hid (H.out.call K1.out.below)
  clear a0 a1 hb1
  obtain ⟨a0, a1⟩ := K1.out.pair
  rw [hc]
  go_wp2_with (first | (go_at_call 35; refine (l1In_yes _ _ _ _ (by omega)).mono ?_; rintro e w' ⟨rfl, hw'⟩; obtain rfl := hw'.symm) | (go_at_call 35; refine (l1In_no _ _ _ _ (by omega)).mono ?_; rintro e w' ⟨rfl, hw'⟩; obtain rfl := hw'.symm))
  go_ret
  exact ⟨rfl, K1.out.below⟩

set_option maxHeartbeats 1000000 in
theorem impl_HoursOn_yes (w : World) (A : Option Addr) (n c : Nat) (f : Nat → Int) (B : Option Addr) (m c2 : Nat) (dy hr : Nat → Int) (h : CalF w A n c f B m c2 dy hr) (d : Nat) (hc : calB n f m dy hr = true) (hd : d ≤ 999) :
    Calls Try.prog 19 #[.agg #[.slice A n c, .slice B m c2], .int .i64 (d : Int)] w fun e w' => e = .returned (.int .i64 ((over f dy hr m) d)) ∧ Below w.heap.size w w' := by
  have HC := Lib.hid hc
  have HG := Lib.hid (fun d => cal_over hc d)
  have K0 := Lib.hid (cal_boxed w A n c B m c2 30)
  have H := Lib.hid h
  clear h
  go_enter Try.func19, Try.ntmps19
  go_wp2_with fail
  obtain ⟨a0, a1⟩ := K0.out.pair
  generalize w.alloc (.cells #[.slice A n c, .slice B m c2] 30) = W0 at *
  refine (impl_isCalendar _ A n c f B m c2 dy hr (H.out.call K0.out.below)).mono ?_
  rintro e w1 ⟨rfl, hb1⟩
  have K1 := Lib.hid (Kept.call hb1 K0.out)
  have H1 := Lib.hid (H.out.call K1.out.below)
  clear a0 a1 hb1
  obtain ⟨a0, a1⟩ := K1.out.pair
  rw [hc]
  clear hc
  go_wp2_with (first | (go_at_call 38; refine (in_yes _ _ _ _ (by omega)).mono ?_; rintro e w' ⟨rfl, hw'⟩; obtain rfl := hw'.symm))
  refine (impl_hours _ A n c f B m c2 dy hr H1.out HC.out).mono ?_
  rintro e w2 ⟨b2, rfl, hrow, hb2⟩
  have R := Lib.hid hrow
  have K2 := Lib.hid (Kept.call hb2 K1.out)
  clear hrow hb2 a0 a1
  have hd' : (d : Int) < 1000 := by omega
  have hg := R.out.cell (i := d) (by omega)
  go_wp2_with fail
  go_ret
  exact ⟨rfl, K2.out.below⟩

set_option maxHeartbeats 1000000 in
theorem spec_HoursOn_yes (w : World) (A : Option Addr) (n c : Nat) (f : Nat → Int) (B : Option Addr) (m c2 : Nat) (dy hr : Nat → Int) (h : CalF w A n c f B m c2 dy hr) (d : Nat) (hc : calB n f m dy hr = true) (hd : d ≤ 999) :
    Calls Try.prog 18 #[.agg #[.slice A n c, .slice B m c2], .int .i64 (d : Int)] w fun e w' => e = .returned (.int .i64 ((over f dy hr m) d)) ∧ Below w.heap.size w w' := by
  have HC := Lib.hid hc
  have HG := Lib.hid (fun d => cal_over hc d)
  have K0 := Lib.hid (cal_boxed w A n c B m c2 30)
  have H := Lib.hid h
  clear h
  go_enter Try.func18, Try.ntmps18
  go_wp2_with fail
  obtain ⟨a0, a1⟩ := K0.out.pair
  generalize w.alloc (.cells #[.slice A n c, .slice B m c2] 30) = W0 at *
  refine (spec_isCalendar _ A n c f B m c2 dy hr (H.out.call K0.out.below)).mono ?_
  rintro e w1 ⟨rfl, hb1⟩
  have K1 := Lib.hid (Kept.call hb1 K0.out)
  have H1 := Lib.hid (H.out.call K1.out.below)
  clear a0 a1 hb1
  obtain ⟨a0, a1⟩ := K1.out.pair
  rw [hc]
  clear hc
  go_wp2_with (first | (go_at_call 35; refine (l1In_yes _ _ _ _ (by omega)).mono ?_; rintro e w' ⟨rfl, hw'⟩; obtain rfl := hw'.symm))
  refine (spec_hours _ A n c f B m c2 dy hr H1.out HC.out d hd).mono ?_
  rintro e w2 ⟨rfl, hb2⟩
  have K2 := Lib.hid (Kept.call hb2 K1.out)
  go_wp2_with fail
  go_ret
  exact ⟨rfl, K2.out.below⟩

set_option maxHeartbeats 1000000 in
theorem count_hours_neg (w : World) (A : Option Addr) (n c : Nat) (f : Nat → Int) (B : Option Addr) (m c2 : Nat) (dy hr : Nat → Int) (h : CalF w A n c f B m c2 dy hr) (hc : calB n f m dy hr = true) (a : Int) (ha : a < 0) (b : Int) :
    Calls Try.prog 44 #[.agg #[.slice A n c, .slice B m c2], .int .i64 a, .int .i64 b, .bool true] w fun e w' => e = .returned (.int .i64 (hb (over f dy hr m) a b)) ∧ Below w.heap.size w w' := by
  have K0 := Lib.hid (cal_boxed w A n c B m c2 30)
  have H := Lib.hid h
  have HC := Lib.hid hc
  have HG := Lib.hid (fun d => cal_over hc d)
  have HS := Lib.hid (fun k => sum_range (g := (over f dy hr m)) (M := 24) (fun d => by exact cal_over hc d) a b k)
  have h0 : ∀ x, x < 0 → btw (over f dy hr m) a b x = 0 := fun x hx => by unfold btw; rw [if_neg (by omega)]
  have HZ := Lib.hid h0
  clear h hc h0
  go_enter Try.func44, Try.ntmps44
  go_wp2_with fail
  have k0 := K0.out
  go_loopw [9, 10] (fun s i wr => ∃ k : Nat, 0 ≤ k ∧ (k ≤ 1000 ∨ k = 0) ∧ i = .int .i64 (k : Int) ∧ s = .int .i64 (sumTo (btw (over f dy hr m) a b) k) ∧ Kept w (calBox w A n c B m c2) wr) (fun _ i _ => 1000 - (intOf i).toNat)
  case atStart => exact ⟨0, Nat.le_refl _, .inr rfl, rfl, by rw [sum_zero HZ.out], k0⟩
  case round =>
    clear k0
    obtain ⟨k, hk0, hk1, rfl, rfl, hkept⟩ := hrel
    have KR := Lib.hid hkept
    clear hkept
    obtain ⟨a0, a1⟩ := KR.out.pair
    by_cases hb' : (k : Int) < b
    · by_cases h9 : (k : Int) ≤ 999
      · have s0 := HS.out k
        have s1 := HS.out (k + 1)
        go_wp2_with fail
        refine (spec_hours _ A n c f B m c2 dy hr (H.out.call KR.out.below) HC.out k (by omega)).mono ?_
        rintro e w2 ⟨rfl, hb2⟩
        have K2 := Lib.hid (Kept.call hb2 KR.out)
        have hg := HG.out k
        have es : sumTo (btw (over f dy hr m) a b) (k + 1) = sumTo (btw (over f dy hr m) a b) k + (over f dy hr m) k := by
          show _ + btw (over f dy hr m) a b k = _
          unfold btw; rw [if_pos (by omega)]
        have ES := Lib.hid es
        
        
        clear es a0 a1 hb2
        generalize (over f dy hr m) k = x at *
        go_wp2_with fail
        go_roundw
        case rel => exact ⟨k + 1, by omega, .inl (by omega), by go_num, by rw [ES.out], K2.out⟩
        case measure => simp [intOf]; omega
      · have es : sumTo (btw (over f dy hr m) a b) k = hb (over f dy hr m) a b := by
          rw [hb_def]
          rcases hk1 with h1 | h1
          · obtain rfl : k = 1000 := by omega
            rfl
          · subst h1
            rw [sum_zero HZ.out, sum_zero (fun i hi => HZ.out i (by omega))]
        go_wp2_with fail
        go_ret
        exact ⟨rfl, KR.out.below⟩
    · have es : sumTo (btw (over f dy hr m) a b) k = hb (over f dy hr m) a b := by
        rw [hb_def]
        by_cases h1 : k ≤ 1000
        · exact (sum_stop h1 (fun i h2 h3 => by unfold btw; rw [if_neg (by omega)])).symm
        · obtain rfl : k = 0 := by omega
          rw [sum_zero HZ.out, sum_zero (fun i hi => HZ.out i (by omega))]
      go_wp2_with fail
      go_ret
      exact ⟨rfl, KR.out.below⟩

set_option maxHeartbeats 1000000 in
theorem count_hours_pos (w : World) (A : Option Addr) (n c : Nat) (f : Nat → Int) (B : Option Addr) (m c2 : Nat) (dy hr : Nat → Int) (h : CalF w A n c f B m c2 dy hr) (hc : calB n f m dy hr = true) (a : Nat) (ha : (a : Int) ≤ 9223372036854775807) (b : Int) :
    Calls Try.prog 44 #[.agg #[.slice A n c, .slice B m c2], .int .i64 (a : Int), .int .i64 b, .bool true] w fun e w' => e = .returned (.int .i64 (hb (over f dy hr m) (a : Int) b)) ∧ Below w.heap.size w w' := by
  have K0 := Lib.hid (cal_boxed w A n c B m c2 30)
  have H := Lib.hid h
  have HC := Lib.hid hc
  have HG := Lib.hid (fun d => cal_over hc d)
  have HS := Lib.hid (fun k => sum_range (g := (over f dy hr m)) (M := 24) (fun d => by exact cal_over hc d) (a : Int) b k)
  have h0 : ∀ x, x < a → btw (over f dy hr m) (a : Int) b x = 0 := fun x hx => by unfold btw; rw [if_neg (by omega)]
  have HZ := Lib.hid h0
  clear h hc h0
  go_enter Try.func44, Try.ntmps44
  go_wp2_with fail
  have k0 := K0.out
  go_loopw [9, 10] (fun s i wr => ∃ k : Nat, a ≤ k ∧ (k ≤ 1000 ∨ k = a) ∧ i = .int .i64 (k : Int) ∧ s = .int .i64 (sumTo (btw (over f dy hr m) (a : Int) b) k) ∧ Kept w (calBox w A n c B m c2) wr) (fun _ i _ => 1000 - (intOf i).toNat)
  case atStart => exact ⟨a, Nat.le_refl _, .inr rfl, rfl, by rw [sum_zero HZ.out], k0⟩
  case round =>
    clear k0
    obtain ⟨k, hk0, hk1, rfl, rfl, hkept⟩ := hrel
    have KR := Lib.hid hkept
    clear hkept
    obtain ⟨a0, a1⟩ := KR.out.pair
    by_cases hb' : (k : Int) < b
    · by_cases h9 : (k : Int) ≤ 999
      · have s0 := HS.out k
        have s1 := HS.out (k + 1)
        go_wp2_with fail
        refine (spec_hours _ A n c f B m c2 dy hr (H.out.call KR.out.below) HC.out k (by omega)).mono ?_
        rintro e w2 ⟨rfl, hb2⟩
        have K2 := Lib.hid (Kept.call hb2 KR.out)
        have hg := HG.out k
        have es : sumTo (btw (over f dy hr m) (a : Int) b) (k + 1) = sumTo (btw (over f dy hr m) (a : Int) b) k + (over f dy hr m) k := by
          show _ + btw (over f dy hr m) (a : Int) b k = _
          unfold btw; rw [if_pos (by omega)]
        have ES := Lib.hid es
        
        
        clear es a0 a1 hb2
        generalize (over f dy hr m) k = x at *
        go_wp2_with fail
        go_roundw
        case rel => exact ⟨k + 1, by omega, .inl (by omega), by go_num, by rw [ES.out], K2.out⟩
        case measure => simp [intOf]; omega
      · have es : sumTo (btw (over f dy hr m) (a : Int) b) k = hb (over f dy hr m) (a : Int) b := by
          rw [hb_def]
          rcases hk1 with h1 | h1
          · obtain rfl : k = 1000 := by omega
            rfl
          · subst h1
            rw [sum_zero HZ.out, sum_zero (fun i hi => HZ.out i (by omega))]
        go_wp2_with fail
        go_ret
        exact ⟨rfl, KR.out.below⟩
    · have es : sumTo (btw (over f dy hr m) (a : Int) b) k = hb (over f dy hr m) (a : Int) b := by
        rw [hb_def]
        by_cases h1 : k ≤ 1000
        · exact (sum_stop h1 (fun i h2 h3 => by unfold btw; rw [if_neg (by omega)])).symm
        · obtain rfl : k = a := by omega
          rw [sum_zero HZ.out, sum_zero (fun i hi => HZ.out i (by omega))]
      go_wp2_with fail
      go_ret
      exact ⟨rfl, KR.out.below⟩

theorem count_hours (w : World) (A : Option Addr) (n c : Nat) (f : Nat → Int) (B : Option Addr) (m c2 : Nat) (dy hr : Nat → Int) (h : CalF w A n c f B m c2 dy hr) (hc : calB n f m dy hr = true) (a : Int) (ha : a ≤ 9223372036854775807) (b : Int) :
    Calls Try.prog 44 #[.agg #[.slice A n c, .slice B m c2], .int .i64 a, .int .i64 b, .bool true] w fun e w' => e = .returned (.int .i64 (hb (over f dy hr m) a b)) ∧ Below w.heap.size w w' := by
  by_cases h0 : a < 0
  · exact count_hours_neg w A n c f B m c2 dy hr h hc a h0 b
  · obtain ⟨a', rfl⟩ : ∃ a' : Nat, a = (a' : Int) := ⟨a.toNat, by omega⟩
    exact count_hours_pos w A n c f B m c2 dy hr h hc a' ha b

set_option maxHeartbeats 1000000 in
theorem count_days_neg (w : World) (A : Option Addr) (n c : Nat) (f : Nat → Int) (B : Option Addr) (m c2 : Nat) (dy hr : Nat → Int) (h : CalF w A n c f B m c2 dy hr) (hc : calB n f m dy hr = true) (a : Int) (ha : a < 0) (b : Int) :
    Calls Try.prog 44 #[.agg #[.slice A n c, .slice B m c2], .int .i64 a, .int .i64 b, .bool false] w fun e w' => e = .returned (.int .i64 (hb (one1 (over f dy hr m)) a b)) ∧ Below w.heap.size w w' := by
  have K0 := Lib.hid (cal_boxed w A n c B m c2 30)
  have H := Lib.hid h
  have HC := Lib.hid hc
  have HG := Lib.hid (fun d => cal_over hc d)
  have HS := Lib.hid (fun k => sum_range (g := (one1 (over f dy hr m))) (M := 24) (fun d => by have := cal_over hc d; unfold one1; omega) a b k)
  have h0 : ∀ x, x < 0 → btw (one1 (over f dy hr m)) a b x = 0 := fun x hx => by unfold btw; rw [if_neg (by omega)]
  have HZ := Lib.hid h0
  clear h hc h0
  go_enter Try.func44, Try.ntmps44
  go_wp2_with fail
  have k0 := K0.out
  go_loopw [9, 10] (fun s i wr => ∃ k : Nat, 0 ≤ k ∧ (k ≤ 1000 ∨ k = 0) ∧ i = .int .i64 (k : Int) ∧ s = .int .i64 (sumTo (btw (one1 (over f dy hr m)) a b) k) ∧ Kept w (calBox w A n c B m c2) wr) (fun _ i _ => 1000 - (intOf i).toNat)
  case atStart => exact ⟨0, Nat.le_refl _, .inr rfl, rfl, by rw [sum_zero HZ.out], k0⟩
  case round =>
    clear k0
    obtain ⟨k, hk0, hk1, rfl, rfl, hkept⟩ := hrel
    have KR := Lib.hid hkept
    clear hkept
    obtain ⟨a0, a1⟩ := KR.out.pair
    by_cases hb' : (k : Int) < b
    · by_cases h9 : (k : Int) ≤ 999
      · have s0 := HS.out k
        have s1 := HS.out (k + 1)
        go_wp2_with fail
        refine (spec_hours _ A n c f B m c2 dy hr (H.out.call KR.out.below) HC.out k (by omega)).mono ?_
        rintro e w2 ⟨rfl, hb2⟩
        have K2 := Lib.hid (Kept.call hb2 KR.out)
        have hg := HG.out k
        have es : sumTo (btw (one1 (over f dy hr m)) a b) (k + 1) = sumTo (btw (one1 (over f dy hr m)) a b) k + (one1 (over f dy hr m)) k := by
          show _ + btw (one1 (over f dy hr m)) a b k = _
          unfold btw; rw [if_pos (by omega)]
        have ES := Lib.hid es
        have e1 : (one1 (over f dy hr m)) k = min ((over f dy hr m) k) 1 := rfl
        have E1 := Lib.hid e1
        clear es e1 a0 a1 hb2
        generalize (over f dy hr m) k = x at *
        go_wp2_with fail
        go_roundw
        case rel => exact ⟨k + 1, by omega, .inl (by omega), by go_num, by rw [ES.out]; rw [E1.out]; exact congrArg (Value.int .i64) (by split <;> omega), K2.out⟩
        case measure => simp [intOf]; omega
      · have es : sumTo (btw (one1 (over f dy hr m)) a b) k = hb (one1 (over f dy hr m)) a b := by
          rw [hb_def]
          rcases hk1 with h1 | h1
          · obtain rfl : k = 1000 := by omega
            rfl
          · subst h1
            rw [sum_zero HZ.out, sum_zero (fun i hi => HZ.out i (by omega))]
        go_wp2_with fail
        go_ret
        exact ⟨rfl, KR.out.below⟩
    · have es : sumTo (btw (one1 (over f dy hr m)) a b) k = hb (one1 (over f dy hr m)) a b := by
        rw [hb_def]
        by_cases h1 : k ≤ 1000
        · exact (sum_stop h1 (fun i h2 h3 => by unfold btw; rw [if_neg (by omega)])).symm
        · obtain rfl : k = 0 := by omega
          rw [sum_zero HZ.out, sum_zero (fun i hi => HZ.out i (by omega))]
      go_wp2_with fail
      go_ret
      exact ⟨rfl, KR.out.below⟩

set_option maxHeartbeats 1000000 in
theorem count_days_pos (w : World) (A : Option Addr) (n c : Nat) (f : Nat → Int) (B : Option Addr) (m c2 : Nat) (dy hr : Nat → Int) (h : CalF w A n c f B m c2 dy hr) (hc : calB n f m dy hr = true) (a : Nat) (ha : (a : Int) ≤ 9223372036854775807) (b : Int) :
    Calls Try.prog 44 #[.agg #[.slice A n c, .slice B m c2], .int .i64 (a : Int), .int .i64 b, .bool false] w fun e w' => e = .returned (.int .i64 (hb (one1 (over f dy hr m)) (a : Int) b)) ∧ Below w.heap.size w w' := by
  have K0 := Lib.hid (cal_boxed w A n c B m c2 30)
  have H := Lib.hid h
  have HC := Lib.hid hc
  have HG := Lib.hid (fun d => cal_over hc d)
  have HS := Lib.hid (fun k => sum_range (g := (one1 (over f dy hr m))) (M := 24) (fun d => by have := cal_over hc d; unfold one1; omega) (a : Int) b k)
  have h0 : ∀ x, x < a → btw (one1 (over f dy hr m)) (a : Int) b x = 0 := fun x hx => by unfold btw; rw [if_neg (by omega)]
  have HZ := Lib.hid h0
  clear h hc h0
  go_enter Try.func44, Try.ntmps44
  go_wp2_with fail
  have k0 := K0.out
  go_loopw [9, 10] (fun s i wr => ∃ k : Nat, a ≤ k ∧ (k ≤ 1000 ∨ k = a) ∧ i = .int .i64 (k : Int) ∧ s = .int .i64 (sumTo (btw (one1 (over f dy hr m)) (a : Int) b) k) ∧ Kept w (calBox w A n c B m c2) wr) (fun _ i _ => 1000 - (intOf i).toNat)
  case atStart => exact ⟨a, Nat.le_refl _, .inr rfl, rfl, by rw [sum_zero HZ.out], k0⟩
  case round =>
    clear k0
    obtain ⟨k, hk0, hk1, rfl, rfl, hkept⟩ := hrel
    have KR := Lib.hid hkept
    clear hkept
    obtain ⟨a0, a1⟩ := KR.out.pair
    by_cases hb' : (k : Int) < b
    · by_cases h9 : (k : Int) ≤ 999
      · have s0 := HS.out k
        have s1 := HS.out (k + 1)
        go_wp2_with fail
        refine (spec_hours _ A n c f B m c2 dy hr (H.out.call KR.out.below) HC.out k (by omega)).mono ?_
        rintro e w2 ⟨rfl, hb2⟩
        have K2 := Lib.hid (Kept.call hb2 KR.out)
        have hg := HG.out k
        have es : sumTo (btw (one1 (over f dy hr m)) (a : Int) b) (k + 1) = sumTo (btw (one1 (over f dy hr m)) (a : Int) b) k + (one1 (over f dy hr m)) k := by
          show _ + btw (one1 (over f dy hr m)) (a : Int) b k = _
          unfold btw; rw [if_pos (by omega)]
        have ES := Lib.hid es
        have e1 : (one1 (over f dy hr m)) k = min ((over f dy hr m) k) 1 := rfl
        have E1 := Lib.hid e1
        clear es e1 a0 a1 hb2
        generalize (over f dy hr m) k = x at *
        go_wp2_with fail
        go_roundw
        case rel => exact ⟨k + 1, by omega, .inl (by omega), by go_num, by rw [ES.out]; rw [E1.out]; exact congrArg (Value.int .i64) (by split <;> omega), K2.out⟩
        case measure => simp [intOf]; omega
      · have es : sumTo (btw (one1 (over f dy hr m)) (a : Int) b) k = hb (one1 (over f dy hr m)) (a : Int) b := by
          rw [hb_def]
          rcases hk1 with h1 | h1
          · obtain rfl : k = 1000 := by omega
            rfl
          · subst h1
            rw [sum_zero HZ.out, sum_zero (fun i hi => HZ.out i (by omega))]
        go_wp2_with fail
        go_ret
        exact ⟨rfl, KR.out.below⟩
    · have es : sumTo (btw (one1 (over f dy hr m)) (a : Int) b) k = hb (one1 (over f dy hr m)) (a : Int) b := by
        rw [hb_def]
        by_cases h1 : k ≤ 1000
        · exact (sum_stop h1 (fun i h2 h3 => by unfold btw; rw [if_neg (by omega)])).symm
        · obtain rfl : k = a := by omega
          rw [sum_zero HZ.out, sum_zero (fun i hi => HZ.out i (by omega))]
      go_wp2_with fail
      go_ret
      exact ⟨rfl, KR.out.below⟩

theorem count_days (w : World) (A : Option Addr) (n c : Nat) (f : Nat → Int) (B : Option Addr) (m c2 : Nat) (dy hr : Nat → Int) (h : CalF w A n c f B m c2 dy hr) (hc : calB n f m dy hr = true) (a : Int) (ha : a ≤ 9223372036854775807) (b : Int) :
    Calls Try.prog 44 #[.agg #[.slice A n c, .slice B m c2], .int .i64 a, .int .i64 b, .bool false] w fun e w' => e = .returned (.int .i64 (hb (one1 (over f dy hr m)) a b)) ∧ Below w.heap.size w w' := by
  by_cases h0 : a < 0
  · exact count_days_neg w A n c f B m c2 dy hr h hc a h0 b
  · obtain ⟨a', rfl⟩ : ∃ a' : Nat, a = (a' : Int) := ⟨a.toNat, by omega⟩
    exact count_days_pos w A n c f B m c2 dy hr h hc a' ha b

theorem impl_HoursBetween_no1 (w : World) (A : Option Addr) (n c : Nat) (f : Nat → Int) (B : Option Addr) (m c2 : Nat) (dy hr : Nat → Int) (h : CalF w A n c f B m c2 dy hr) (a b : Int) (hc : calB n f m dy hr = false) :
    Calls Try.prog 23 #[.agg #[.slice A n c, .slice B m c2], .int .i64 a, .int .i64 b] w fun e w' => e = .returned (.int .i64 0) ∧ Below w.heap.size w w' := by
  have K0 := Lib.hid (cal_boxed w A n c B m c2 30)
  have H := Lib.hid h
  clear h
  go_enter Try.func23, Try.ntmps23
  go_wp2_with fail
  obtain ⟨a0, a1⟩ := K0.out.pair
  generalize w.alloc (.cells #[.slice A n c, .slice B m c2] 30) = W0 at *
  refine (impl_isCalendar _ A n c f B m c2 dy hr (H.out.call K0.out.below)).mono ?_
  rintro e w1 ⟨rfl, hb1⟩
  have K1 := Lib.hid (Kept.call hb1 K0.out)
  have H1 := Lib.hid (H.out.call K1.out.below)
  clear a0 a1 hb1
  obtain ⟨a0, a1⟩ := K1.out.pair
  rw [hc]
  go_wp2_with fail
  go_ret
  exact ⟨rfl, K1.out.below⟩

theorem impl_WorkdaysBetween_no1 (w : World) (A : Option Addr) (n c : Nat) (f : Nat → Int) (B : Option Addr) (m c2 : Nat) (dy hr : Nat → Int) (h : CalF w A n c f B m c2 dy hr) (a b : Int) (hc : calB n f m dy hr = false) :
    Calls Try.prog 25 #[.agg #[.slice A n c, .slice B m c2], .int .i64 a, .int .i64 b] w fun e w' => e = .returned (.int .i64 0) ∧ Below w.heap.size w w' := by
  have K0 := Lib.hid (cal_boxed w A n c B m c2 30)
  have H := Lib.hid h
  clear h
  go_enter Try.func25, Try.ntmps25
  go_wp2_with fail
  obtain ⟨a0, a1⟩ := K0.out.pair
  generalize w.alloc (.cells #[.slice A n c, .slice B m c2] 30) = W0 at *
  refine (impl_isCalendar _ A n c f B m c2 dy hr (H.out.call K0.out.below)).mono ?_
  rintro e w1 ⟨rfl, hb1⟩
  have K1 := Lib.hid (Kept.call hb1 K0.out)
  have H1 := Lib.hid (H.out.call K1.out.below)
  clear a0 a1 hb1
  obtain ⟨a0, a1⟩ := K1.out.pair
  rw [hc]
  go_wp2_with fail
  go_ret
  exact ⟨rfl, K1.out.below⟩

theorem spec_HoursBetween_no1 (w : World) (A : Option Addr) (n c : Nat) (f : Nat → Int) (B : Option Addr) (m c2 : Nat) (dy hr : Nat → Int) (h : CalF w A n c f B m c2 dy hr) (a b : Int) (hc : calB n f m dy hr = false) :
    Calls Try.prog 24 #[.agg #[.slice A n c, .slice B m c2], .int .i64 a, .int .i64 b] w fun e w' => e = .returned (.int .i64 0) ∧ Below w.heap.size w w' := by
  have K0 := Lib.hid (cal_boxed w A n c B m c2 30)
  have H := Lib.hid h
  clear h
  go_enter Try.func24, Try.ntmps24
  go_wp2_with fail
  obtain ⟨a0, a1⟩ := K0.out.pair
  generalize w.alloc (.cells #[.slice A n c, .slice B m c2] 30) = W0 at *
  refine (spec_isCalendar _ A n c f B m c2 dy hr (H.out.call K0.out.below)).mono ?_
  rintro e w1 ⟨rfl, hb1⟩
  have K1 := Lib.hid (Kept.call hb1 K0.out)
  have H1 := Lib.hid (H.out.call K1.out.below)
  clear a0 a1 hb1
  obtain ⟨a0, a1⟩ := K1.out.pair
  rw [hc]
  go_wp2_with fail
  go_ret
  exact ⟨rfl, K1.out.below⟩

theorem spec_WorkdaysBetween_no1 (w : World) (A : Option Addr) (n c : Nat) (f : Nat → Int) (B : Option Addr) (m c2 : Nat) (dy hr : Nat → Int) (h : CalF w A n c f B m c2 dy hr) (a b : Int) (hc : calB n f m dy hr = false) :
    Calls Try.prog 29 #[.agg #[.slice A n c, .slice B m c2], .int .i64 a, .int .i64 b] w fun e w' => e = .returned (.int .i64 0) ∧ Below w.heap.size w w' := by
  have K0 := Lib.hid (cal_boxed w A n c B m c2 30)
  have H := Lib.hid h
  clear h
  go_enter Try.func29, Try.ntmps29
  go_wp2_with fail
  obtain ⟨a0, a1⟩ := K0.out.pair
  generalize w.alloc (.cells #[.slice A n c, .slice B m c2] 30) = W0 at *
  refine (spec_isCalendar _ A n c f B m c2 dy hr (H.out.call K0.out.below)).mono ?_
  rintro e w1 ⟨rfl, hb1⟩
  have K1 := Lib.hid (Kept.call hb1 K0.out)
  have H1 := Lib.hid (H.out.call K1.out.below)
  clear a0 a1 hb1
  obtain ⟨a0, a1⟩ := K1.out.pair
  rw [hc]
  go_wp2_with fail
  go_ret
  exact ⟨rfl, K1.out.below⟩

set_option maxHeartbeats 1000000 in
theorem spec_HoursBetween_yes (w : World) (A : Option Addr) (n c : Nat) (f : Nat → Int) (B : Option Addr) (m c2 : Nat) (dy hr : Nat → Int) (h : CalF w A n c f B m c2 dy hr) (a b : Int) (hc : calB n f m dy hr = true) (ha : a ≤ 9223372036854775807) :
    Calls Try.prog 24 #[.agg #[.slice A n c, .slice B m c2], .int .i64 a, .int .i64 b] w fun e w' => e = .returned (.int .i64 (hb (over f dy hr m) a b)) ∧ Below w.heap.size w w' := by
  have HC := Lib.hid hc
  have HG := Lib.hid (fun d => cal_over hc d)
  have K0 := Lib.hid (cal_boxed w A n c B m c2 30)
  have H := Lib.hid h
  clear h
  go_enter Try.func24, Try.ntmps24
  go_wp2_with fail
  obtain ⟨a0, a1⟩ := K0.out.pair
  generalize w.alloc (.cells #[.slice A n c, .slice B m c2] 30) = W0 at *
  refine (spec_isCalendar _ A n c f B m c2 dy hr (H.out.call K0.out.below)).mono ?_
  rintro e w1 ⟨rfl, hb1⟩
  have K1 := Lib.hid (Kept.call hb1 K0.out)
  have H1 := Lib.hid (H.out.call K1.out.below)
  clear a0 a1 hb1
  obtain ⟨a0, a1⟩ := K1.out.pair
  rw [hc]
  clear hc
  go_wp2_with fail
  refine (count_hours _ A n c f B m c2 dy hr H1.out HC.out a ha b).mono ?_
  rintro e w2 ⟨rfl, hb2⟩
  have K2 := Lib.hid (Kept.call hb2 K1.out)
  go_wp2_with fail
  go_ret
  exact ⟨rfl, K2.out.below⟩

set_option maxHeartbeats 1000000 in
theorem impl_HoursBetween_yes (w : World) (A : Option Addr) (n c : Nat) (f : Nat → Int) (B : Option Addr) (m c2 : Nat) (dy hr : Nat → Int) (h : CalF w A n c f B m c2 dy hr) (a b : Int) (hc : calB n f m dy hr = true)  :
    Calls Try.prog 23 #[.agg #[.slice A n c, .slice B m c2], .int .i64 a, .int .i64 b] w fun e w' => e = .returned (.int .i64 (hb (over f dy hr m) a b)) ∧ Below w.heap.size w w' := by
  have HC := Lib.hid hc
  have HG := Lib.hid (fun d => cal_over hc d)
  have HS := Lib.hid (fun k => sum_range (g := (over f dy hr m)) (M := 24) (fun d => cal_over hc d) a b k)
  have K0 := Lib.hid (cal_boxed w A n c B m c2 30)
  have H := Lib.hid h
  clear h
  go_enter Try.func23, Try.ntmps23
  go_wp2_with fail
  obtain ⟨a0, a1⟩ := K0.out.pair
  generalize w.alloc (.cells #[.slice A n c, .slice B m c2] 30) = W0 at *
  refine (impl_isCalendar _ A n c f B m c2 dy hr (H.out.call K0.out.below)).mono ?_
  rintro e w1 ⟨rfl, hb1⟩
  have K1 := Lib.hid (Kept.call hb1 K0.out)
  have H1 := Lib.hid (H.out.call K1.out.below)
  clear a0 a1 hb1
  obtain ⟨a0, a1⟩ := K1.out.pair
  rw [hc]
  clear hc
  go_wp2_with fail
  refine (impl_hours _ A n c f B m c2 dy hr H1.out HC.out).mono ?_
  rintro e w2 ⟨b2, rfl, hrow, hb2⟩
  have R := Lib.hid hrow
  have K2 := Lib.hid (Kept.call hb2 K1.out)
  clear hrow hb2 a0 a1
  go_wp2_with fail
  go_loop [7, 16] (fun s i => ∃ k : Nat, k ≤ 1000 ∧ i = .int .i64 (k : Int) ∧ s = .int .i64 (sumTo (btw (over f dy hr m) a b) k)) (fun _ i => 1000 - (intOf i).toNat)
  case atStart => exact ⟨0, Nat.zero_le _, rfl, rfl⟩
  case round =>
    obtain ⟨k, hk, rfl, rfl⟩ := hrel
    by_cases hlt : k < 1000
    · have hlt' : (k : Int) < 1000 := by omega
      have hg : w2.cell? ⟨b2, k, none⟩ = some (.int .i64 ((over f dy hr m) k)) := R.out.cell hlt
      have s0 := HS.out k
      have hx := HG.out k
      have es : sumTo (btw (over f dy hr m) a b) (k + 1) = sumTo (btw (over f dy hr m) a b) k + if a ≤ (k : Int) ∧ (k : Int) < b then (over f dy hr m) k else 0 := rfl
      have ES := Lib.hid es
      clear es
      generalize (over f dy hr m) k = x at *
      by_cases ha' : a ≤ (k : Int)
      · by_cases hb' : (k : Int) < b
        · go_wp2_with fail
          go_round
          case rel => exact ⟨k + 1, by omega, by go_num, by rw [ES.out, if_pos ⟨ha', hb'⟩]⟩
          case measure => simp [intOf]; omega
        · go_wp2_with fail
          go_round
          case rel => exact ⟨k + 1, by omega, by go_num, by rw [ES.out, if_neg (fun h => by omega), Int.add_zero]⟩
          case measure => simp [intOf]; omega
      · go_wp2_with fail
        go_round
        case rel => exact ⟨k + 1, by omega, by go_num, by rw [ES.out, if_neg (fun h => by omega), Int.add_zero]⟩
        case measure => simp [intOf]; omega
    · obtain rfl : k = 1000 := by omega
      rw [← hb_def]
      go_wp2_with fail
      go_ret
      exact ⟨rfl, K2.out.below⟩

set_option maxHeartbeats 1000000 in
theorem impl_WorkdaysBetween_yes (w : World) (A : Option Addr) (n c : Nat) (f : Nat → Int) (B : Option Addr) (m c2 : Nat) (dy hr : Nat → Int) (h : CalF w A n c f B m c2 dy hr) (a b : Int) (hc : calB n f m dy hr = true)  :
    Calls Try.prog 25 #[.agg #[.slice A n c, .slice B m c2], .int .i64 a, .int .i64 b] w fun e w' => e = .returned (.int .i64 (hb (one1 (over f dy hr m)) a b - hb (one1 (over f dy hr m)) b a)) ∧ Below w.heap.size w w' := by
  have HC := Lib.hid hc
  have HG := Lib.hid (fun d => cal_over hc d)
  have HS := Lib.hid (fun k => sum_range (g := (one1 (over f dy hr m))) (M := 1) (fun d => by have := cal_over hc d; unfold one1; omega) a b k)
  have HT := Lib.hid (fun k => sum_range (g := (one1 (over f dy hr m))) (M := 1) (fun d => by have := cal_over hc d; unfold one1; omega) b a k)
  have K0 := Lib.hid (cal_boxed w A n c B m c2 30)
  have H := Lib.hid h
  clear h
  go_enter Try.func25, Try.ntmps25
  go_wp2_with fail
  obtain ⟨a0, a1⟩ := K0.out.pair
  generalize w.alloc (.cells #[.slice A n c, .slice B m c2] 30) = W0 at *
  refine (impl_isCalendar _ A n c f B m c2 dy hr (H.out.call K0.out.below)).mono ?_
  rintro e w1 ⟨rfl, hb1⟩
  have K1 := Lib.hid (Kept.call hb1 K0.out)
  have H1 := Lib.hid (H.out.call K1.out.below)
  clear a0 a1 hb1
  obtain ⟨a0, a1⟩ := K1.out.pair
  rw [hc]
  clear hc
  go_wp2_with fail
  refine (impl_hours _ A n c f B m c2 dy hr H1.out HC.out).mono ?_
  rintro e w2 ⟨b2, rfl, hrow, hb2⟩
  have R := Lib.hid hrow
  have K2 := Lib.hid (Kept.call hb2 K1.out)
  clear hrow hb2 a0 a1
  go_wp2_with fail
  go_loop [7, 16] (fun s i => ∃ k : Nat, k ≤ 1000 ∧ i = .int .i64 (k : Int) ∧ s = .int .i64 (sumTo (btw (one1 (over f dy hr m)) a b) k - sumTo (btw (one1 (over f dy hr m)) b a) k)) (fun _ i => 1000 - (intOf i).toNat)
  case atStart => exact ⟨0, Nat.zero_le _, rfl, rfl⟩
  case round =>
    obtain ⟨k, hk, rfl, rfl⟩ := hrel
    by_cases hlt : k < 1000
    · have hlt' : (k : Int) < 1000 := by omega
      have hg : w2.cell? ⟨b2, k, none⟩ = some (.int .i64 ((over f dy hr m) k)) := R.out.cell hlt
      have s0 := HS.out k
      have s1 := HT.out k
      have hx := HG.out k
      have es : sumTo (btw (one1 (over f dy hr m)) a b) (k + 1) = sumTo (btw (one1 (over f dy hr m)) a b) k + if a ≤ (k : Int) ∧ (k : Int) < b then min ((over f dy hr m) k) 1 else 0 := rfl
      have es' : sumTo (btw (one1 (over f dy hr m)) b a) (k + 1) = sumTo (btw (one1 (over f dy hr m)) b a) k + if b ≤ (k : Int) ∧ (k : Int) < a then min ((over f dy hr m) k) 1 else 0 := rfl
      have ES := Lib.hid es
      have ES' := Lib.hid es'
      clear es es'
      generalize (over f dy hr m) k = x at *
      generalize sumTo (btw (one1 (over f dy hr m)) a b) k = s at *
      generalize sumTo (btw (one1 (over f dy hr m)) b a) k = s' at *
      by_cases hx0 : 0 < x
      · by_cases ha' : a ≤ (k : Int)
        · by_cases hb' : (k : Int) < b
          · have nb : ¬ b ≤ (k : Int) := by omega
            go_wp2_with fail
            go_round
            case rel => exact ⟨k + 1, by omega, by go_num, by rw [ES.out, ES'.out, if_pos ⟨by omega, by omega⟩, if_neg (fun h => by omega)]; exact congrArg (Value.int .i64) (by omega)⟩
            case measure => simp [intOf]; omega
          · have nb : b ≤ (k : Int) := by omega
            have na : ¬ (k : Int) < a := by omega
            go_wp2_with fail
            go_round
            case rel => exact ⟨k + 1, by omega, by go_num, by rw [ES.out, ES'.out, if_neg (fun h => by omega), if_neg (fun h => by omega)]; exact congrArg (Value.int .i64) (by omega)⟩
            case measure => simp [intOf]; omega
        · by_cases hb' : b ≤ (k : Int)
          · have hka : (k : Int) < a := by omega
            go_wp2_with fail
            go_round
            case rel => exact ⟨k + 1, by omega, by go_num, by rw [ES.out, ES'.out, if_neg (fun h => by omega), if_pos ⟨by omega, by omega⟩]; exact congrArg (Value.int .i64) (by omega)⟩
            case measure => simp [intOf]; omega
          · go_wp2_with fail
            go_round
            case rel => exact ⟨k + 1, by omega, by go_num, by rw [ES.out, ES'.out, if_neg (fun h => by omega), if_neg (fun h => by omega)]; exact congrArg (Value.int .i64) (by omega)⟩
            case measure => simp [intOf]; omega
      · obtain rfl : x = 0 := by omega
        go_wp2_with fail
        go_round
        case rel => exact ⟨k + 1, by omega, by go_num, by rw [ES.out, ES'.out]; exact congrArg (Value.int .i64) (by split <;> split <;> omega)⟩
        case measure => simp [intOf]; omega
    · obtain rfl : k = 1000 := by omega
      rw [← hb_def, ← hb_def]
      go_wp2_with fail
      go_ret
      exact ⟨rfl, K2.out.below⟩

set_option maxHeartbeats 1000000 in
theorem spec_WorkdaysBetween_yes (w : World) (A : Option Addr) (n c : Nat) (f : Nat → Int) (B : Option Addr) (m c2 : Nat) (dy hr : Nat → Int) (h : CalF w A n c f B m c2 dy hr) (a b : Int) (hc : calB n f m dy hr = true) (ha : a ≤ 9223372036854775807) (hb0 : b ≤ 9223372036854775807) :
    Calls Try.prog 29 #[.agg #[.slice A n c, .slice B m c2], .int .i64 a, .int .i64 b] w fun e w' => e = .returned (.int .i64 (hb (one1 (over f dy hr m)) a b - hb (one1 (over f dy hr m)) b a)) ∧ Below w.heap.size w w' := by
  have HC := Lib.hid hc
  have HG := Lib.hid (fun d => cal_over hc d)
  have HS := Lib.hid (fun k => sum_range (g := (one1 (over f dy hr m))) (M := 1) (fun d => by have := cal_over hc d; unfold one1; omega) a b k)
  have HT := Lib.hid (fun k => sum_range (g := (one1 (over f dy hr m))) (M := 1) (fun d => by have := cal_over hc d; unfold one1; omega) b a k)
  have K0 := Lib.hid (cal_boxed w A n c B m c2 30)
  have H := Lib.hid h
  clear h
  go_enter Try.func29, Try.ntmps29
  go_wp2_with fail
  obtain ⟨a0, a1⟩ := K0.out.pair
  generalize w.alloc (.cells #[.slice A n c, .slice B m c2] 30) = W0 at *
  refine (spec_isCalendar _ A n c f B m c2 dy hr (H.out.call K0.out.below)).mono ?_
  rintro e w1 ⟨rfl, hb1⟩
  have K1 := Lib.hid (Kept.call hb1 K0.out)
  have H1 := Lib.hid (H.out.call K1.out.below)
  clear a0 a1 hb1
  obtain ⟨a0, a1⟩ := K1.out.pair
  rw [hc]
  clear hc
  go_wp2_with fail
  have s0 : 0 ≤ hb (one1 (over f dy hr m)) a b ∧ hb (one1 (over f dy hr m)) a b ≤ 1 * ((1000 : Nat) : Int) := by rw [hb_def]; exact HS.out 1000
  have s1 : 0 ≤ hb (one1 (over f dy hr m)) b a ∧ hb (one1 (over f dy hr m)) b a ≤ 1 * ((1000 : Nat) : Int) := by rw [hb_def]; exact HT.out 1000
  have u1 : IntKind.i64.wrap (hb (one1 (over f dy hr m)) a b - hb (one1 (over f dy hr m)) b a) = hb (one1 (over f dy hr m)) a b - hb (one1 (over f dy hr m)) b a := IntWalk.i64_in _ ⟨by omega, by omega⟩
  have ga0 := fun d os => cell_regrown a0 d os
  have ga1 := fun d os => cell_regrown a1 d os
  have hcal : ∀ d os, CalF (grow (redrawn w1 d) os) A n c f B m c2 dy hr := fun d os => H1.out.call (below_regrown w1 d os)
  have HCAL := Lib.hid hcal
  clear hcal s0 s1
  refine wp_region_quiet_below (by kernel_rfl) (by kernel_rfl) ?_
  repeat (first | go_big_quiet_step ((go_at_call 44; exact Calls.regrown_of (count_days _ A n c f B m c2 dy hr (HCAL.out _ _) HC.out _ (by assumption) _))) | quiet_step ((go_at_call 44; exact Calls.regrown_of (count_days _ A n c f B m c2 dy hr (HCAL.out _ _) HC.out _ (by assumption) _))))
  refine wpQuiet_nil ?_
  intro _ hw'
  obtain ⟨⟨dq, osq⟩, hw''⟩ := hw'
  subst hw''
  have K2 := Lib.hid (Kept.call (below_regrown w1 dq osq) K1.out)
  go_wp2_with fail
  go_ret
  exact ⟨rfl, K2.out.below⟩

end Go.Proofs.Ytkbmlpnfdogioaa
