/-
  Contracts of AddWorkdays and FinishDay, of the program and of the reference.
-/
import Derived.Test.YtkbmlpnfdogioaaCalOps1
namespace Go.Proofs.Ytkbmlpnfdogioaa
open Go.RowKit cost Go.Sort
set_option linter.unusedVariables false
set_option linter.unusedSimpArgs false

theorem fwd_step (g : Nat → Int) {k : Nat} (hk : k < 1000) (r : Int) : fwd g (1000 - k) k r = if r = 0 then some k else fwd g (1000 - (k + 1)) (k + 1) (r - g k) := by
  have e : 1000 - k = (1000 - (k + 1)) + 1 := by omega
  rw [e]; rfl
theorem fin_step (g : Nat → Int) {k : Nat} (hk : k < 1000) (r : Int) : fin g (1000 - k) k r = if r - g k ≤ 0 then some k else fin g (1000 - (k + 1)) (k + 1) (r - g k) := by
  have e : 1000 - k = (1000 - (k + 1)) + 1 := by omega
  rw [e]; rfl
theorem ret_p {a b : Int} {p q : Bool} (h1 : a = b) (h2 : p = q) : Ending.returned (.tuple #[.int .i64 a, .bool p]) = .returned (.tuple #[.int .i64 b, .bool q]) := by rw [h1, h2]
theorem ret_some {R : Option Nat} {d : Nat} (h : R = some d) : Ending.returned (.tuple #[.int .i64 (d : Int), .bool true]) = .returned (.tuple #[.int .i64 (resN R), .bool (resB R)]) := by rw [h]; rfl
theorem ret_none {R : Option Nat} (h : R = none) : Ending.returned (.tuple #[.int .i64 0, .bool false]) = .returned (.tuple #[.int .i64 (resN R), .bool (resB R)]) := by rw [h]; rfl

theorem impl_AddWorkdays_no1 (w : World) (A : Option Addr) (n c : Nat) (f : Nat → Int) (B : Option Addr) (m c2 : Nat) (dy hr : Nat → Int) (h : CalF w A n c f B m c2 dy hr) (d k : Int) (hc : calB n f m dy hr = false) :
    Calls Try.prog 31 #[.agg #[.slice A n c, .slice B m c2], .int .i64 d, .int .i64 k] w fun e w' => e = .returned (.tuple #[.int .i64 0, .bool false]) ∧ Below w.heap.size w w' := by
  have K0 := Lib.hid (cal_boxed w A n c B m c2 30)
  have H := Lib.hid h
  clear h
  go_enter Try.func31, Try.ntmps31
  go_wp2_with fail
  obtain ⟨a0, a1⟩ := K0.out.pair
  generalize w.alloc (.cells #[.slice A n c, .slice B m c2] 30) = W0 at *
  refine (impl_isCalendar _ A n c f B m c2 dy hr (H.out.call K0.out.below)).mono ?_
  rintro e w1 ⟨rfl, hb1⟩
  have K1 := Lib.hid (Kept.call hb1 K0.out)
  have H1 := Lib.hid (H.out.call K1.out.below)
  clear a0 a1 hb1
  obtain ⟨a0, a1⟩ := K1.out.pair
  rw [hc]
  go_wp2_with fail
  go_ret2
  exact ⟨rfl, K1.out.below⟩

theorem impl_AddWorkdays_no2 (w : World) (A : Option Addr) (n c : Nat) (f : Nat → Int) (B : Option Addr) (m c2 : Nat) (dy hr : Nat → Int) (h : CalF w A n c f B m c2 dy hr) (d k : Int) (hc : calB n f m dy hr = true) (hd : ¬ (0 ≤ d ∧ d ≤ 999)) :
    Calls Try.prog 31 #[.agg #[.slice A n c, .slice B m c2], .int .i64 d, .int .i64 k] w fun e w' => e = .returned (.tuple #[.int .i64 0, .bool false]) ∧ Below w.heap.size w w' := by
  have K0 := Lib.hid (cal_boxed w A n c B m c2 30)
  have H := Lib.hid h
  clear h
  go_enter Try.func31, Try.ntmps31
  go_wp2_with fail
  obtain ⟨a0, a1⟩ := K0.out.pair
  generalize w.alloc (.cells #[.slice A n c, .slice B m c2] 30) = W0 at *
  refine (impl_isCalendar _ A n c f B m c2 dy hr (H.out.call K0.out.below)).mono ?_
  rintro e w1 ⟨rfl, hb1⟩
  have K1 := Lib.hid (Kept.call hb1 K0.out)
  have H1 := Lib.hid (H.out.call K1.out.below)
  clear a0 a1 hb1
  obtain ⟨a0, a1⟩ := K1.out.pair
  rw [hc]
  go_wp2_with (first | (go_at_call 38; refine (in_yes _ _ _ _ (by omega)).mono ?_; rintro e w' ⟨rfl, hw'⟩; obtain rfl := hw'.symm) | (go_at_call 38; refine (in_no _ _ _ _ (by omega)).mono ?_; rintro e w' ⟨rfl, hw'⟩; obtain rfl := hw'.symm))
  go_ret2
  exact ⟨rfl, K1.out.below⟩

theorem impl_FinishDay_no1 (w : World) (A : Option Addr) (n c : Nat) (f : Nat → Int) (B : Option Addr) (m c2 : Nat) (dy hr : Nat → Int) (h : CalF w A n c f B m c2 dy hr) (d k : Int) (hc : calB n f m dy hr = false) :
    Calls Try.prog 27 #[.agg #[.slice A n c, .slice B m c2], .int .i64 d, .int .i64 k] w fun e w' => e = .returned (.tuple #[.int .i64 0, .bool false]) ∧ Below w.heap.size w w' := by
  have K0 := Lib.hid (cal_boxed w A n c B m c2 30)
  have H := Lib.hid h
  clear h
  go_enter Try.func27, Try.ntmps27
  go_wp2_with fail
  obtain ⟨a0, a1⟩ := K0.out.pair
  generalize w.alloc (.cells #[.slice A n c, .slice B m c2] 30) = W0 at *
  refine (impl_isCalendar _ A n c f B m c2 dy hr (H.out.call K0.out.below)).mono ?_
  rintro e w1 ⟨rfl, hb1⟩
  have K1 := Lib.hid (Kept.call hb1 K0.out)
  have H1 := Lib.hid (H.out.call K1.out.below)
  clear a0 a1 hb1
  obtain ⟨a0, a1⟩ := K1.out.pair
  rw [hc]
  go_wp2_with fail
  go_ret2
  exact ⟨rfl, K1.out.below⟩

theorem impl_FinishDay_no2 (w : World) (A : Option Addr) (n c : Nat) (f : Nat → Int) (B : Option Addr) (m c2 : Nat) (dy hr : Nat → Int) (h : CalF w A n c f B m c2 dy hr) (d k : Int) (hc : calB n f m dy hr = true) (hd : ¬ (0 ≤ d ∧ d ≤ 999)) :
    Calls Try.prog 27 #[.agg #[.slice A n c, .slice B m c2], .int .i64 d, .int .i64 k] w fun e w' => e = .returned (.tuple #[.int .i64 0, .bool false]) ∧ Below w.heap.size w w' := by
  have K0 := Lib.hid (cal_boxed w A n c B m c2 30)
  have H := Lib.hid h
  clear h
  go_enter Try.func27, Try.ntmps27
  go_wp2_with fail
  obtain ⟨a0, a1⟩ := K0.out.pair
  generalize w.alloc (.cells #[.slice A n c, .slice B m c2] 30) = W0 at *
  refine (impl_isCalendar _ A n c f B m c2 dy hr (H.out.call K0.out.below)).mono ?_
  rintro e w1 ⟨rfl, hb1⟩
  have K1 := Lib.hid (Kept.call hb1 K0.out)
  have H1 := Lib.hid (H.out.call K1.out.below)
  clear a0 a1 hb1
  obtain ⟨a0, a1⟩ := K1.out.pair
  rw [hc]
  go_wp2_with (first | (go_at_call 38; refine (in_yes _ _ _ _ (by omega)).mono ?_; rintro e w' ⟨rfl, hw'⟩; obtain rfl := hw'.symm) | (go_at_call 38; refine (in_no _ _ _ _ (by omega)).mono ?_; rintro e w' ⟨rfl, hw'⟩; obtain rfl := hw'.symm))
  go_ret2
  exact ⟨rfl, K1.out.below⟩

theorem impl_FinishDay_no3 (w : World) (A : Option Addr) (n c : Nat) (f : Nat → Int) (B : Option Addr) (m c2 : Nat) (dy hr : Nat → Int) (h : CalF w A n c f B m c2 dy hr) (d k : Int) (hc : calB n f m dy hr = true) (hd : 0 ≤ d ∧ d ≤ 999) (hk : k < 1) :
    Calls Try.prog 27 #[.agg #[.slice A n c, .slice B m c2], .int .i64 d, .int .i64 k] w fun e w' => e = .returned (.tuple #[.int .i64 0, .bool false]) ∧ Below w.heap.size w w' := by
  have K0 := Lib.hid (cal_boxed w A n c B m c2 30)
  have H := Lib.hid h
  clear h
  go_enter Try.func27, Try.ntmps27
  go_wp2_with fail
  obtain ⟨a0, a1⟩ := K0.out.pair
  generalize w.alloc (.cells #[.slice A n c, .slice B m c2] 30) = W0 at *
  refine (impl_isCalendar _ A n c f B m c2 dy hr (H.out.call K0.out.below)).mono ?_
  rintro e w1 ⟨rfl, hb1⟩
  have K1 := Lib.hid (Kept.call hb1 K0.out)
  have H1 := Lib.hid (H.out.call K1.out.below)
  clear a0 a1 hb1
  obtain ⟨a0, a1⟩ := K1.out.pair
  rw [hc]
  go_wp2_with (first | (go_at_call 38; refine (in_yes _ _ _ _ (by omega)).mono ?_; rintro e w' ⟨rfl, hw'⟩; obtain rfl := hw'.symm) | (go_at_call 38; refine (in_no _ _ _ _ (by omega)).mono ?_; rintro e w' ⟨rfl, hw'⟩; obtain rfl := hw'.symm))
  go_ret2
  exact ⟨rfl, K1.out.below⟩

theorem spec_AddWorkdays_no1 (w : World) (A : Option Addr) (n c : Nat) (f : Nat → Int) (B : Option Addr) (m c2 : Nat) (dy hr : Nat → Int) (h : CalF w A n c f B m c2 dy hr) (d k : Int) (hc : calB n f m dy hr = false) :
    Calls Try.prog 32 #[.agg #[.slice A n c, .slice B m c2], .int .i64 d, .int .i64 k] w fun e w' => e = .returned (.tuple #[.int .i64 0, .bool false]) ∧ Below w.heap.size w w' := by
  have K0 := Lib.hid (cal_boxed w A n c B m c2 30)
  have H := Lib.hid h
  clear h
  go_enter Try.func32, Try.ntmps32
  go_wp2_with fail
  obtain ⟨a0, a1⟩ := K0.out.pair
  generalize w.alloc (.cells #[.slice A n c, .slice B m c2] 30) = W0 at *
  refine (spec_isCalendar _ A n c f B m c2 dy hr (H.out.call K0.out.below)).mono ?_
  rintro e w1 ⟨rfl, hb1⟩
  have K1 := Lib.hid (Kept.call hb1 K0.out)
  have H1 := Lib.hid (H.out.call K1.out.below)
  clear a0 a1 hb1
  obtain ⟨a0, a1⟩ := K1.out.pair
  rw [hc]
  go_wp2_with fail
  go_ret2
  exact ⟨rfl, K1.out.below⟩

theorem spec_AddWorkdays_no2 (w : World) (A : Option Addr) (n c : Nat) (f : Nat → Int) (B : Option Addr) (m c2 : Nat) (dy hr : Nat → Int) (h : CalF w A n c f B m c2 dy hr) (d k : Int) (hc : calB n f m dy hr = true) (hd : ¬ (0 ≤ d ∧ d ≤ 999)) :
    Calls Try.prog 32 #[.agg #[.slice A n c, .slice B m c2], .int .i64 d, .int .i64 k] w fun e w' => e = .returned (.tuple #[.int .i64 0, .bool false]) ∧ Below w.heap.size w w' := by
  have K0 := Lib.hid (cal_boxed w A n c B m c2 30)
  have H := Lib.hid h
  clear h
  go_enter Try.func32, Try.ntmps32
  go_wp2_with fail
  obtain ⟨a0, a1⟩ := K0.out.pair
  generalize w.alloc (.cells #[.slice A n c, .slice B m c2] 30) = W0 at *
  refine (spec_isCalendar _ A n c f B m c2 dy hr (H.out.call K0.out.below)).mono ?_
  rintro e w1 ⟨rfl, hb1⟩
  have K1 := Lib.hid (Kept.call hb1 K0.out)
  have H1 := Lib.hid (H.out.call K1.out.below)
  clear a0 a1 hb1
  obtain ⟨a0, a1⟩ := K1.out.pair
  rw [hc]
  go_wp2_with (first | (go_at_call 35; refine (l1In_yes _ _ _ _ (by omega)).mono ?_; rintro e w' ⟨rfl, hw'⟩; obtain rfl := hw'.symm) | (go_at_call 35; refine (l1In_no _ _ _ _ (by omega)).mono ?_; rintro e w' ⟨rfl, hw'⟩; obtain rfl := hw'.symm))
  go_ret2
  exact ⟨rfl, K1.out.below⟩

theorem spec_FinishDay_no1 (w : World) (A : Option Addr) (n c : Nat) (f : Nat → Int) (B : Option Addr) (m c2 : Nat) (dy hr : Nat → Int) (h : CalF w A n c f B m c2 dy hr) (d k : Int) (hc : calB n f m dy hr = false) :
    Calls Try.prog 28 #[.agg #[.slice A n c, .slice B m c2], .int .i64 d, .int .i64 k] w fun e w' => e = .returned (.tuple #[.int .i64 0, .bool false]) ∧ Below w.heap.size w w' := by
  have K0 := Lib.hid (cal_boxed w A n c B m c2 30)
  have H := Lib.hid h
  clear h
  go_enter Try.func28, Try.ntmps28
  go_wp2_with fail
  obtain ⟨a0, a1⟩ := K0.out.pair
  generalize w.alloc (.cells #[.slice A n c, .slice B m c2] 30) = W0 at *
  refine (spec_isCalendar _ A n c f B m c2 dy hr (H.out.call K0.out.below)).mono ?_
  rintro e w1 ⟨rfl, hb1⟩
  have K1 := Lib.hid (Kept.call hb1 K0.out)
  have H1 := Lib.hid (H.out.call K1.out.below)
  clear a0 a1 hb1
  obtain ⟨a0, a1⟩ := K1.out.pair
  rw [hc]
  go_wp2_with fail
  go_ret2
  exact ⟨rfl, K1.out.below⟩

theorem spec_FinishDay_no2 (w : World) (A : Option Addr) (n c : Nat) (f : Nat → Int) (B : Option Addr) (m c2 : Nat) (dy hr : Nat → Int) (h : CalF w A n c f B m c2 dy hr) (d k : Int) (hc : calB n f m dy hr = true) (hd : ¬ (0 ≤ d ∧ d ≤ 999)) :
    Calls Try.prog 28 #[.agg #[.slice A n c, .slice B m c2], .int .i64 d, .int .i64 k] w fun e w' => e = .returned (.tuple #[.int .i64 0, .bool false]) ∧ Below w.heap.size w w' := by
  have K0 := Lib.hid (cal_boxed w A n c B m c2 30)
  have H := Lib.hid h
  clear h
  go_enter Try.func28, Try.ntmps28
  go_wp2_with fail
  obtain ⟨a0, a1⟩ := K0.out.pair
  generalize w.alloc (.cells #[.slice A n c, .slice B m c2] 30) = W0 at *
  refine (spec_isCalendar _ A n c f B m c2 dy hr (H.out.call K0.out.below)).mono ?_
  rintro e w1 ⟨rfl, hb1⟩
  have K1 := Lib.hid (Kept.call hb1 K0.out)
  have H1 := Lib.hid (H.out.call K1.out.below)
  clear a0 a1 hb1
  obtain ⟨a0, a1⟩ := K1.out.pair
  rw [hc]
  go_wp2_with (first | (go_at_call 35; refine (l1In_yes _ _ _ _ (by omega)).mono ?_; rintro e w' ⟨rfl, hw'⟩; obtain rfl := hw'.symm) | (go_at_call 35; refine (l1In_no _ _ _ _ (by omega)).mono ?_; rintro e w' ⟨rfl, hw'⟩; obtain rfl := hw'.symm))
  go_ret2
  exact ⟨rfl, K1.out.below⟩

theorem spec_FinishDay_no3 (w : World) (A : Option Addr) (n c : Nat) (f : Nat → Int) (B : Option Addr) (m c2 : Nat) (dy hr : Nat → Int) (h : CalF w A n c f B m c2 dy hr) (d k : Int) (hc : calB n f m dy hr = true) (hd : 0 ≤ d ∧ d ≤ 999) (hk : k < 1) :
    Calls Try.prog 28 #[.agg #[.slice A n c, .slice B m c2], .int .i64 d, .int .i64 k] w fun e w' => e = .returned (.tuple #[.int .i64 0, .bool false]) ∧ Below w.heap.size w w' := by
  have K0 := Lib.hid (cal_boxed w A n c B m c2 30)
  have H := Lib.hid h
  clear h
  go_enter Try.func28, Try.ntmps28
  go_wp2_with fail
  obtain ⟨a0, a1⟩ := K0.out.pair
  generalize w.alloc (.cells #[.slice A n c, .slice B m c2] 30) = W0 at *
  refine (spec_isCalendar _ A n c f B m c2 dy hr (H.out.call K0.out.below)).mono ?_
  rintro e w1 ⟨rfl, hb1⟩
  have K1 := Lib.hid (Kept.call hb1 K0.out)
  have H1 := Lib.hid (H.out.call K1.out.below)
  clear a0 a1 hb1
  obtain ⟨a0, a1⟩ := K1.out.pair
  rw [hc]
  go_wp2_with (first | (go_at_call 35; refine (l1In_yes _ _ _ _ (by omega)).mono ?_; rintro e w' ⟨rfl, hw'⟩; obtain rfl := hw'.symm) | (go_at_call 35; refine (l1In_no _ _ _ _ (by omega)).mono ?_; rintro e w' ⟨rfl, hw'⟩; obtain rfl := hw'.symm))
  go_ret2
  exact ⟨rfl, K1.out.below⟩

set_option maxRecDepth 20000 in
set_option maxHeartbeats 1000000 in
theorem impl_FinishDay_yes (w : World) (A : Option Addr) (n c : Nat) (f : Nat → Int) (B : Option Addr) (m c2 : Nat) (dy hr : Nat → Int) (h : CalF w A n c f B m c2 dy hr) (d : Nat) (t : Int) (R : Option Nat) (hc : calB n f m dy hr = true) (hd : d ≤ 999) (ht : 1 ≤ t) (ht2 : t ≤ 9223372036854775807) (hR : R = fin (over f dy hr m) (1000 - d) d t) :
    Calls Try.prog 27 #[.agg #[.slice A n c, .slice B m c2], .int .i64 (d : Int), .int .i64 t] w fun e w' => e = .returned (.tuple #[.int .i64 (resN R), .bool (resB R)]) ∧ Below w.heap.size w w' := by
  have HC := Lib.hid hc
  have HG := Lib.hid (fun d => cal_over hc d)
  have HR := Lib.hid hR
  clear hR
  have K0 := Lib.hid (cal_boxed w A n c B m c2 30)
  have H := Lib.hid h
  clear h
  go_enter Try.func27, Try.ntmps27
  go_wp2_with fail
  obtain ⟨a0, a1⟩ := K0.out.pair
  generalize w.alloc (.cells #[.slice A n c, .slice B m c2] 30) = W0 at *
  refine (impl_isCalendar _ A n c f B m c2 dy hr (H.out.call K0.out.below)).mono ?_
  rintro e w1 ⟨rfl, hb1⟩
  have K1 := Lib.hid (Kept.call hb1 K0.out)
  have H1 := Lib.hid (H.out.call K1.out.below)
  clear a0 a1 hb1
  obtain ⟨a0, a1⟩ := K1.out.pair
  rw [hc]
  clear hc
  go_wp2_with (first | (go_at_call 38; refine (in_yes _ _ _ _ (by omega)).mono ?_; rintro e w' ⟨rfl, hw'⟩; obtain rfl := hw'.symm))
  refine (impl_hours _ A n c f B m c2 dy hr H1.out HC.out).mono ?_
  rintro e w2 ⟨b2, rfl, hrow, hb2⟩
  have RR := Lib.hid hrow
  have K2 := Lib.hid (Kept.call hb2 K1.out)
  clear hrow hb2 a0 a1
  go_wp2_with fail
  go_loop [9, 10] (fun s i => ∃ (k : Nat) (x : Int), k ≤ 1000 ∧ 0 ≤ x ∧ x ≤ 24 * (k : Int) ∧ i = .int .i64 (k : Int) ∧ s = .int .i64 x ∧ Hid (R = fin (over f dy hr m) (1000 - k) k (t - x))) (fun _ i => 1000 - (intOf i).toNat)
  case atStart => exact ⟨d, 0, by omega, by omega, by omega, rfl, rfl, by rw [Int.sub_zero]; exact HR.out⟩
  case round =>
    clear HR
    obtain ⟨k, x, hk, hx0, hx1, rfl, rfl, HR⟩ := hrel
    by_cases hlt : k < 1000
    · have hlt' : (k : Int) ≤ 999 := by omega
      have hl2 : (k : Int) < 1000 := by omega
      have hg : w2.cell? ⟨b2, k, none⟩ = some (.int .i64 ((over f dy hr m) k)) := RR.out.cell hlt
      have hh := HG.out k
      have hst := fin_step (over f dy hr m) hlt (t - x)
      have HST := Lib.hid hst
      clear hst
      generalize (over f dy hr m) k = y at *
      by_cases hge : t ≤ x + y
      · go_wp2_with fail
        go_ret2
        exact ⟨ret_some (by rw [HR.out, HST.out, if_pos (by omega)]), K2.out.below⟩
      · go_wp2_with fail
        go_round
        case rel => exact ⟨k + 1, x + y, by omega, by omega, by omega, by go_num, by go_num, Lib.hid (by rw [HR.out, HST.out, if_neg (by omega)]; congr 1; omega)⟩
        case measure => simp [intOf]; omega
    · obtain rfl : k = 1000 := by omega
      go_wp2_with fail
      go_ret2
      exact ⟨ret_none HR.out, K2.out.below⟩

set_option maxRecDepth 20000 in
set_option maxHeartbeats 1000000 in
theorem spec_FinishDay_yes (w : World) (A : Option Addr) (n c : Nat) (f : Nat → Int) (B : Option Addr) (m c2 : Nat) (dy hr : Nat → Int) (h : CalF w A n c f B m c2 dy hr) (d : Nat) (t : Int) (R : Option Nat) (hc : calB n f m dy hr = true) (hd : d ≤ 999) (ht : 1 ≤ t) (ht2 : t ≤ 9223372036854775807) (hR : R = fin (over f dy hr m) (1000 - d) d t) :
    Calls Try.prog 28 #[.agg #[.slice A n c, .slice B m c2], .int .i64 (d : Int), .int .i64 t] w fun e w' => e = .returned (.tuple #[.int .i64 (resN R), .bool (resB R)]) ∧ Below w.heap.size w w' := by
  have HC := Lib.hid hc
  have HG := Lib.hid (fun d => cal_over hc d)
  have HR := Lib.hid hR
  clear hR
  have K0 := Lib.hid (cal_boxed w A n c B m c2 30)
  have H := Lib.hid h
  clear h
  go_enter Try.func28, Try.ntmps28
  go_wp2_with fail
  obtain ⟨a0, a1⟩ := K0.out.pair
  generalize w.alloc (.cells #[.slice A n c, .slice B m c2] 30) = W0 at *
  refine (spec_isCalendar _ A n c f B m c2 dy hr (H.out.call K0.out.below)).mono ?_
  rintro e w1 ⟨rfl, hb1⟩
  have K1 := Lib.hid (Kept.call hb1 K0.out)
  have H1 := Lib.hid (H.out.call K1.out.below)
  clear a0 a1 hb1
  obtain ⟨a0, a1⟩ := K1.out.pair
  rw [hc]
  clear hc
  go_wp2_with (first | (go_at_call 35; refine (l1In_yes _ _ _ _ (by omega)).mono ?_; rintro e w' ⟨rfl, hw'⟩; obtain rfl := hw'.symm))
  have k1 := K1.out
  clear a0 a1
  go_loopw [8, 9] (fun s i wr => ∃ (k : Nat) (x : Int), k ≤ 1000 ∧ -24 ≤ x ∧ x ≤ t ∧ i = .int .i64 (k : Int) ∧ s = .int .i64 x ∧ Hid (R = fin (over f dy hr m) (1000 - k) k x) ∧ Kept w (calBox w A n c B m c2) wr) (fun _ i _ => 1000 - (intOf i).toNat)
  case atStart => exact ⟨d, t, by omega, by omega, by omega, rfl, rfl, HR, k1⟩
  case round =>
    clear HR k1
    obtain ⟨k, x, hk, hx0, hx1, rfl, rfl, HR, hkept⟩ := hrel
    have KR := Lib.hid hkept
    clear hkept
    obtain ⟨a0, a1⟩ := KR.out.pair
    by_cases hlt : k < 1000
    · have hlt' : (k : Int) ≤ 999 := by omega
      have hh := HG.out k
      go_wp2_with fail
      refine (spec_hours _ A n c f B m c2 dy hr (H.out.call KR.out.below) HC.out k (by omega)).mono ?_
      rintro e w2 ⟨rfl, hb2⟩
      have K2 := Lib.hid (Kept.call hb2 KR.out)
      clear hb2 a0 a1
      have hst := fin_step (over f dy hr m) hlt x
      have HST := Lib.hid hst
      clear hst
      generalize (over f dy hr m) k = y at *
      by_cases hge : x - y ≤ 0
      · go_wp2_with fail
        go_ret2
        exact ⟨ret_some (by rw [HR.out, HST.out, if_pos hge]), K2.out.below⟩
      · go_wp2_with fail
        go_roundw
        case rel => exact ⟨k + 1, x - y, by omega, by omega, by omega, by go_num, by go_num, Lib.hid (by rw [HR.out, HST.out, if_neg (by omega)]), K2.out⟩
        case measure => simp [intOf]; omega
    · obtain rfl : k = 1000 := by omega
      go_wp2_with fail
      go_ret2
      exact ⟨ret_none HR.out, KR.out.below⟩

set_option maxRecDepth 20000 in
set_option maxHeartbeats 1000000 in
theorem impl_AddWorkdays_yesF (w : World) (A : Option Addr) (n c : Nat) (f : Nat → Int) (B : Option Addr) (m c2 : Nat) (dy hr : Nat → Int) (h : CalF w A n c f B m c2 dy hr) (d : Nat) (t : Int) (R : Option Nat) (hc : calB n f m dy hr = true) (hd : d ≤ 999) (ht : 0 ≤ t) (hR : R = fwd (one1 (over f dy hr m)) (1000 - d) d t) :
    Calls Try.prog 31 #[.agg #[.slice A n c, .slice B m c2], .int .i64 (d : Int), .int .i64 t] w fun e w' => e = .returned (.tuple #[.int .i64 (resN R), .bool (resB R)]) ∧ Below w.heap.size w w' := by
  have HC := Lib.hid hc
  have HG := Lib.hid (fun d => cal_over hc d)
  have HR := Lib.hid hR
  clear hR
  have K0 := Lib.hid (cal_boxed w A n c B m c2 30)
  have H := Lib.hid h
  clear h
  go_enter Try.func31, Try.ntmps31
  go_wp2_with fail
  obtain ⟨a0, a1⟩ := K0.out.pair
  generalize w.alloc (.cells #[.slice A n c, .slice B m c2] 30) = W0 at *
  refine (impl_isCalendar _ A n c f B m c2 dy hr (H.out.call K0.out.below)).mono ?_
  rintro e w1 ⟨rfl, hb1⟩
  have K1 := Lib.hid (Kept.call hb1 K0.out)
  have H1 := Lib.hid (H.out.call K1.out.below)
  clear a0 a1 hb1
  obtain ⟨a0, a1⟩ := K1.out.pair
  rw [hc]
  clear hc
  go_wp2_with (first | (go_at_call 38; refine (in_yes _ _ _ _ (by omega)).mono ?_; rintro e w' ⟨rfl, hw'⟩; obtain rfl := hw'.symm))
  refine (impl_hours _ A n c f B m c2 dy hr H1.out HC.out).mono ?_
  rintro e w2 ⟨b2, rfl, hrow, hb2⟩
  have RR := Lib.hid hrow
  have K2 := Lib.hid (Kept.call hb2 K1.out)
  clear hrow hb2 a0 a1
  go_wp2_with fail
  go_loop [9, 10] (fun s i => ∃ (k : Nat) (x : Int), k ≤ 1000 ∧ 0 ≤ x ∧ x ≤ (k : Int) ∧ i = .int .i64 (k : Int) ∧ s = .int .i64 x ∧ Hid (R = fwd (one1 (over f dy hr m)) (1000 - k) k (t - x))) (fun _ i => 1000 - (intOf i).toNat)
  case atStart => exact ⟨d, 0, by omega, by omega, by omega, rfl, rfl, by rw [Int.sub_zero]; exact HR.out⟩
  case round =>
    clear HR
    obtain ⟨k, x, hk, hx0, hx1, rfl, rfl, HR⟩ := hrel
    by_cases hlt : k < 1000
    · have hlt' : (k : Int) ≤ 999 := by omega
      have hl2 : (k : Int) < 1000 := by omega
      have hg : w2.cell? ⟨b2, k, none⟩ = some (.int .i64 ((over f dy hr m) k)) := RR.out.cell hlt
      have hh := HG.out k
      have hst := fwd_step (one1 (over f dy hr m)) hlt (t - x)
      have e1 : (one1 (over f dy hr m)) k = min ((over f dy hr m) k) 1 := rfl
      rw [e1] at hst
      have HST := Lib.hid hst
      clear hst e1
      generalize (over f dy hr m) k = y at *
      by_cases he : x = t
      · subst he
        go_wp2_with fail
        go_ret2
        exact ⟨ret_some (by rw [HR.out, HST.out, if_pos (by omega)]), K2.out.below⟩
      · by_cases hy : 0 < y
        · go_wp2_with fail
          go_round
          case rel => exact ⟨k + 1, x + 1, by omega, by omega, by omega, by go_num, by go_num, Lib.hid (by rw [HR.out, HST.out, if_neg (by omega)]; congr 1; omega)⟩
          case measure => simp [intOf]; omega
        · go_wp2_with fail
          go_round
          case rel => exact ⟨k + 1, x, by omega, by omega, by omega, by go_num, by go_num, Lib.hid (by rw [HR.out, HST.out, if_neg (by omega)]; congr 1; omega)⟩
          case measure => simp [intOf]; omega
    · obtain rfl : k = 1000 := by omega
      go_wp2_with fail
      go_ret2
      exact ⟨ret_none HR.out, K2.out.below⟩

set_option maxRecDepth 20000 in
set_option maxHeartbeats 1000000 in
theorem impl_AddWorkdays_yesB (w : World) (A : Option Addr) (n c : Nat) (f : Nat → Int) (B : Option Addr) (m c2 : Nat) (dy hr : Nat → Int) (h : CalF w A n c f B m c2 dy hr) (d : Nat) (t : Int) (R : Option Nat) (hc : calB n f m dy hr = true) (hd : d ≤ 999) (ht : t < 0) (ht2 : -9223372036854775808 ≤ t) (hR : R = bwd (one1 (over f dy hr m)) d t) :
    Calls Try.prog 31 #[.agg #[.slice A n c, .slice B m c2], .int .i64 (d : Int), .int .i64 t] w fun e w' => e = .returned (.tuple #[.int .i64 (resN R), .bool (resB R)]) ∧ Below w.heap.size w w' := by
  have HC := Lib.hid hc
  have HG := Lib.hid (fun d => cal_over hc d)
  have HR := Lib.hid hR
  clear hR
  have K0 := Lib.hid (cal_boxed w A n c B m c2 30)
  have H := Lib.hid h
  clear h
  go_enter Try.func31, Try.ntmps31
  go_wp2_with fail
  obtain ⟨a0, a1⟩ := K0.out.pair
  generalize w.alloc (.cells #[.slice A n c, .slice B m c2] 30) = W0 at *
  refine (impl_isCalendar _ A n c f B m c2 dy hr (H.out.call K0.out.below)).mono ?_
  rintro e w1 ⟨rfl, hb1⟩
  have K1 := Lib.hid (Kept.call hb1 K0.out)
  have H1 := Lib.hid (H.out.call K1.out.below)
  clear a0 a1 hb1
  obtain ⟨a0, a1⟩ := K1.out.pair
  rw [hc]
  clear hc
  go_wp2_with (first | (go_at_call 38; refine (in_yes _ _ _ _ (by omega)).mono ?_; rintro e w' ⟨rfl, hw'⟩; obtain rfl := hw'.symm))
  refine (impl_hours _ A n c f B m c2 dy hr H1.out HC.out).mono ?_
  rintro e w2 ⟨b2, rfl, hrow, hb2⟩
  have RR := Lib.hid hrow
  have K2 := Lib.hid (Kept.call hb2 K1.out)
  clear hrow hb2 a0 a1
  go_wp2_with fail
  go_loop [9, 11] (fun s i => ∃ (k : Nat) (x y : Int), k ≤ 999 ∧ x ≤ 0 ∧ -1000 + (k : Int) ≤ x ∧ t - x < 0 ∧ y = (k : Int) - 1 ∧ i = .int .i64 y ∧ s = .int .i64 x ∧ Hid (R = bwd (one1 (over f dy hr m)) k (t - x))) (fun _ i => (intOf i + 1).toNat)
  case atStart => exact ⟨d, 0, _, by omega, by omega, by omega, by omega, rfl, rfl, rfl, by rw [Int.sub_zero]; exact HR.out⟩
  case round =>
    clear HR
    obtain ⟨k, x, y, hk, hx0, hx1, htx, hy, rfl, rfl, HR⟩ := hrel
    subst hy
    rcases (by by_cases h : k = 0; exact .inl h; exact .inr ⟨k - 1, by omega⟩ : k = 0 ∨ ∃ k', k = k' + 1) with rfl | ⟨k, rfl⟩
    · rw [show ((0 : Nat) : Int) - 1 = -1 from rfl]
      go_wp2_with fail
      go_ret2
      exact ⟨ret_none HR.out, K2.out.below⟩
    · rw [show ((k + 1 : Nat) : Int) - 1 = (k : Int) by omega]
      have hl2 : (k : Int) < 1000 := by omega
      have hg : w2.cell? ⟨b2, k, none⟩ = some (.int .i64 ((over f dy hr m) k)) := RR.out.cell (by omega)
      have hh := HG.out k
      have hst : bwd (one1 (over f dy hr m)) (k + 1) (t - x) = if t - x + min ((over f dy hr m) k) 1 = 0 then some k else bwd (one1 (over f dy hr m)) k (t - x + min ((over f dy hr m) k) 1) := rfl
      have HST := Lib.hid hst
      clear hst
      generalize (over f dy hr m) k = z at *
      by_cases hz : 0 < z
      · by_cases he : x - 1 = t
        · go_wp2_with fail
          go_ret2
          exact ⟨ret_some (by rw [HR.out, HST.out, if_pos (by omega)]), K2.out.below⟩
        · go_wp2_with fail
          go_round
          case rel => exact ⟨k, x - 1, (k : Int) - 1, by omega, by omega, by omega, by omega, rfl, by first | rfl | go_num, by first | rfl | go_num, Lib.hid (by rw [HR.out, HST.out, if_neg (by omega)]; congr 1; omega)⟩
          case measure => simp [intOf] <;> omega
      · have he : ¬ x = t := by omega
        go_wp2_with fail
        go_round
        case rel => exact ⟨k, x, (k : Int) - 1, by omega, by omega, by omega, by omega, rfl, by first | rfl | go_num, by first | rfl | go_num, Lib.hid (by rw [HR.out, HST.out, if_neg (by omega)]; congr 1; omega)⟩
        case measure => simp [intOf] <;> omega

set_option maxRecDepth 20000 in
set_option maxHeartbeats 1000000 in
theorem spec_AddWorkdays_yesF (w : World) (A : Option Addr) (n c : Nat) (f : Nat → Int) (B : Option Addr) (m c2 : Nat) (dy hr : Nat → Int) (h : CalF w A n c f B m c2 dy hr) (d : Nat) (t : Int) (R : Option Nat) (hc : calB n f m dy hr = true) (hd : d ≤ 999) (ht : 0 ≤ t) (ht2 : t ≤ 9223372036854775807) (hR : R = fwd (one1 (over f dy hr m)) (1000 - d) d t) :
    Calls Try.prog 32 #[.agg #[.slice A n c, .slice B m c2], .int .i64 (d : Int), .int .i64 t] w fun e w' => e = .returned (.tuple #[.int .i64 (resN R), .bool (resB R)]) ∧ Below w.heap.size w w' := by
  have HC := Lib.hid hc
  have HG := Lib.hid (fun d => cal_over hc d)
  have HR := Lib.hid hR
  clear hR
  have K0 := Lib.hid (cal_boxed w A n c B m c2 30)
  have H := Lib.hid h
  clear h
  go_enter Try.func32, Try.ntmps32
  go_wp2_with fail
  obtain ⟨a0, a1⟩ := K0.out.pair
  generalize w.alloc (.cells #[.slice A n c, .slice B m c2] 30) = W0 at *
  refine (spec_isCalendar _ A n c f B m c2 dy hr (H.out.call K0.out.below)).mono ?_
  rintro e w1 ⟨rfl, hb1⟩
  have K1 := Lib.hid (Kept.call hb1 K0.out)
  have H1 := Lib.hid (H.out.call K1.out.below)
  clear a0 a1 hb1
  obtain ⟨a0, a1⟩ := K1.out.pair
  rw [hc]
  clear hc
  go_wp2_with (first | (go_at_call 35; refine (l1In_yes _ _ _ _ (by omega)).mono ?_; rintro e w' ⟨rfl, hw'⟩; obtain rfl := hw'.symm))
  have k1 := K1.out
  clear a0 a1
  go_loopw [8, 9] (fun i s wr => ∃ (k : Nat) (x : Int), k ≤ 1000 ∧ 0 ≤ x ∧ x ≤ t ∧ i = .int .i64 (k : Int) ∧ s = .int .i64 x ∧ Hid (R = fwd (one1 (over f dy hr m)) (1000 - k) k x) ∧ Kept w (calBox w A n c B m c2) wr) (fun i _ _ => 1000 - (intOf i).toNat)
  case atStart => exact ⟨d, t, by omega, by omega, by omega, rfl, rfl, HR, k1⟩
  case round =>
    clear HR k1
    obtain ⟨k, x, hk, hx0, hx1, rfl, rfl, HR, hkept⟩ := hrel
    have KR := Lib.hid hkept
    clear hkept
    obtain ⟨a0, a1⟩ := KR.out.pair
    by_cases hgo : 0 < x ∧ k < 1000
    · obtain ⟨hx, hlt⟩ := hgo
      have hlt' : (k : Int) ≤ 999 := by omega
      have hh := HG.out k
      go_wp2_with fail
      refine (spec_hours _ A n c f B m c2 dy hr (H.out.call KR.out.below) HC.out k (by omega)).mono ?_
      rintro e w2 ⟨rfl, hb2⟩
      have K2 := Lib.hid (Kept.call hb2 KR.out)
      clear hb2 a0 a1
      have hst := fwd_step (one1 (over f dy hr m)) hlt x
      have e1 : (one1 (over f dy hr m)) k = min ((over f dy hr m) k) 1 := rfl
      rw [e1] at hst
      have HST := Lib.hid hst
      clear hst e1
      generalize (over f dy hr m) k = y at *
      go_wp2_with fail
      go_roundw
      case rel => exact ⟨k + 1, x - min y 1, by omega, by omega, by omega, by go_num, by first | (exact congrArg (Value.int .i64) (by split <;> omega)) | (exact congrArg (Value.int .i64) (by omega)), Lib.hid (by rw [HR.out, HST.out, if_neg (by omega)]), K2.out⟩
      case measure => simp [intOf]; omega
    · have k2 := KR.out
      by_cases hx : x = 0
      · subst hx
        clear a0 a1
        go_wp2_with fail
        go_loopw [8, 9] (fun i s wr => i = .int .i64 (k : Int) ∧ s = .int .i64 0 ∧ Kept w (calBox w A n c B m c2) wr) (fun _ _ _ => 0)
        case atStart => exact ⟨rfl, rfl, k2⟩
        case round =>
          obtain ⟨rfl, rfl, hkept⟩ := hrel
          by_cases h9 : k < 1000
          · have h9' : ¬ (999 : Int) < (k : Int) := by omega
            go_wp2_with fail
            go_ret2
            exact ⟨ret_some (by rw [HR.out, fwd_step _ h9, if_pos rfl]), hkept.below⟩
          · have h9' : (999 : Int) < (k : Int) := by omega
            obtain rfl : k = 1000 := by omega
            go_wp2_with fail
            go_ret2
            exact ⟨ret_none HR.out, hkept.below⟩
      · obtain rfl : k = 1000 := by omega
        have hxp : 0 < x := by omega
        have hxn : ¬ x < 0 := by omega
        clear a0 a1 hgo
        go_wp2_with fail
        go_loopw [8, 9] (fun i s wr => i = .int .i64 1000 ∧ s = .int .i64 x ∧ Kept w (calBox w A n c B m c2) wr) (fun _ _ _ => 0)
        case atStart => exact ⟨rfl, rfl, k2⟩
        case round =>
          obtain ⟨rfl, rfl, hkept⟩ := hrel
          go_wp2_with fail
          go_ret2
          exact ⟨ret_none HR.out, hkept.below⟩

set_option maxRecDepth 20000 in
set_option maxHeartbeats 1000000 in
theorem spec_AddWorkdays_yesB (w : World) (A : Option Addr) (n c : Nat) (f : Nat → Int) (B : Option Addr) (m c2 : Nat) (dy hr : Nat → Int) (h : CalF w A n c f B m c2 dy hr) (d : Nat) (t : Int) (R : Option Nat) (hc : calB n f m dy hr = true) (hd : d ≤ 999) (ht : t < 0) (ht2 : -9223372036854775808 ≤ t) (hR : R = bwd (one1 (over f dy hr m)) d t) :
    Calls Try.prog 32 #[.agg #[.slice A n c, .slice B m c2], .int .i64 (d : Int), .int .i64 t] w fun e w' => e = .returned (.tuple #[.int .i64 (resN R), .bool (resB R)]) ∧ Below w.heap.size w w' := by
  have HC := Lib.hid hc
  have HG := Lib.hid (fun d => cal_over hc d)
  have HR := Lib.hid hR
  clear hR
  have K0 := Lib.hid (cal_boxed w A n c B m c2 30)
  have H := Lib.hid h
  clear h
  go_enter Try.func32, Try.ntmps32
  go_wp2_with fail
  obtain ⟨a0, a1⟩ := K0.out.pair
  generalize w.alloc (.cells #[.slice A n c, .slice B m c2] 30) = W0 at *
  refine (spec_isCalendar _ A n c f B m c2 dy hr (H.out.call K0.out.below)).mono ?_
  rintro e w1 ⟨rfl, hb1⟩
  have K1 := Lib.hid (Kept.call hb1 K0.out)
  have H1 := Lib.hid (H.out.call K1.out.below)
  clear a0 a1 hb1
  obtain ⟨a0, a1⟩ := K1.out.pair
  rw [hc]
  clear hc
  go_wp2_with (first | (go_at_call 35; refine (l1In_yes _ _ _ _ (by omega)).mono ?_; rintro e w' ⟨rfl, hw'⟩; obtain rfl := hw'.symm))
  have k1 := K1.out
  clear a0 a1
  go_loopw [8, 9] (fun i s wr => i = .int .i64 (d : Int) ∧ s = .int .i64 t ∧ Kept w (calBox w A n c B m c2) wr) (fun _ _ _ => 0)
  case atStart => exact ⟨rfl, rfl, k1⟩
  case round =>
    clear k1
    obtain ⟨rfl, rfl, k2⟩ := hrel
    have htn : ¬ 0 < t := by omega
    go_wp2_with fail
    go_loopw [8, 9] (fun i s wr => ∃ (k : Nat) (x : Int), k ≤ 999 ∧ t ≤ x ∧ x ≤ 0 ∧ i = .int .i64 (k : Int) ∧ s = .int .i64 x ∧ Hid ((x < 0 ∧ R = bwd (one1 (over f dy hr m)) k x) ∨ (x = 0 ∧ R = some k)) ∧ Kept w (calBox w A n c B m c2) wr) (fun i _ _ => (intOf i).toNat)
    case atStart => exact ⟨d, t, hd, by omega, by omega, rfl, rfl, Lib.hid (.inl ⟨ht, HR.out⟩), k2⟩
    case round =>
      clear HR k2
      obtain ⟨k, x, hk, hx0, hx1, rfl, rfl, HR, hkept⟩ := hrel
      have KR := Lib.hid hkept
      clear hkept
      obtain ⟨a0, a1⟩ := KR.out.pair
      by_cases hx : x = 0
      · subst hx
        have hR : R = some k := by rcases HR.out with h | h; exact absurd h.1 (by omega); exact h.2
        have HR2 := Lib.hid hR
        clear hR
        have h9' : ¬ (999 : Int) < (k : Int) := by omega
        go_wp2_with fail
        go_ret2
        exact ⟨ret_some HR2.out, KR.out.below⟩
      · have hR : R = bwd (one1 (over f dy hr m)) k x := by rcases HR.out with h | h; exact h.2; exact absurd h.1 hx
        have HR2 := Lib.hid hR
        clear hR
        have hxn : x < 0 := by omega
        rcases (by by_cases h : k = 0; exact .inl h; exact .inr ⟨k - 1, by omega⟩ : k = 0 ∨ ∃ k', k = k' + 1) with rfl | ⟨k, rfl⟩
        · go_wp2_with fail
          go_ret2
          exact ⟨ret_none HR2.out, KR.out.below⟩
        · have hkp : (0 : Int) < ((k + 1 : Nat) : Int) := by omega
          have ek : ((k : Int) + 1 - 1) = (k : Int) := by omega
          have hh := HG.out k
          go_wp2_with fail
          refine (spec_hours _ A n c f B m c2 dy hr (H.out.call KR.out.below) HC.out k (by omega)).mono ?_
          rintro e w2 ⟨rfl, hb2⟩
          have K2 := Lib.hid (Kept.call hb2 KR.out)
          clear hb2 a0 a1
          have hst : bwd (one1 (over f dy hr m)) (k + 1) x = if x + min ((over f dy hr m) k) 1 = 0 then some k else bwd (one1 (over f dy hr m)) k (x + min ((over f dy hr m) k) 1) := rfl
          have HST := Lib.hid hst
          clear hst
          generalize (over f dy hr m) k = y at *
          go_wp2_with fail
          go_roundw
          case rel =>
            refine ⟨k, x + min y 1, by omega, by omega, by omega, by go_num, by first | (exact congrArg (Value.int .i64) (by split <;> omega)) | (exact congrArg (Value.int .i64) (by omega)), Lib.hid ?_, K2.out⟩
            by_cases e : x + min y 1 = 0
            · exact .inr ⟨e, by rw [HR2.out, HST.out, if_pos e]⟩
            · exact .inl ⟨by omega, by rw [HR2.out, HST.out, if_neg e]⟩
          case measure => simp [intOf] <;> omega

end Go.Proofs.Ytkbmlpnfdogioaa
