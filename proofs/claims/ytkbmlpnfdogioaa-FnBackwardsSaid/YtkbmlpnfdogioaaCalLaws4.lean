/-
  Walks of the laws FnHours, FnFinish, FnWorkdays, FnBackwards.
-/
import Derived.Test.YtkbmlpnfdogioaaCalAny
import Derived.Test.YtkbmlpnfdogioaaDrawCal4
import Derived.Lib.QuietBelow
import Derived.Deep.RegionWith
namespace Go.Proofs.Ytkbmlpnfdogioaa
open Go.RowKit Go.Sort cost
set_option linter.unusedVariables false
set_option linter.unusedSimpArgs false
theorem below_drewN {B : Nat} {a w : World} (h : Below B a w) (n : Nat) : Below B a (w.drewN n) := ⟨h.os, h.tape, h.output, h.size, h.block⟩
theorem below_then {B C : Nat} {w X Y : World} (h : Below C X Y) (hC : B ≤ C) (k : Below B w X) : Below B w Y := k.trans (h.mono hC)
theorem tmod_bd (d : Int) : -50 < d.tmod 50 ∧ d.tmod 50 < 50 := by
  have h1 := Int.lt_tmod_of_pos d (show (0 : Int) < 50 by omega)
  have h2 := Int.tmod_lt_of_pos d (show (0 : Int) < 50 by omega)
  exact ⟨h1, h2⟩
theorem calB_bool (b : Bool) : b = true ∨ b = false := by cases b <;> simp

theorem impl_FD_some (w : World) (A : Option Addr) (n c : Nat) (f : Nat → Int) (B : Option Addr) (m c2 : Nat) (dy hr : Nat → Int) (h : CalF w A n c f B m c2 dy hr) (k l : Int) (hl : -9223372036854775808 ≤ l ∧ l ≤ 9223372036854775807) (d : Nat) (hR : finR n f m dy hr k l = some d) :
    Calls Try.prog 27 #[.agg #[.slice A n c, .slice B m c2], .int .i64 k, .int .i64 l] w fun e w' => e = .returned (.tuple #[.int .i64 (d : Int), .bool true]) ∧ Below w.heap.size w w' := impl_FD w A n c f B m c2 dy hr h k l hl (some d) hR
theorem impl_FD_none (w : World) (A : Option Addr) (n c : Nat) (f : Nat → Int) (B : Option Addr) (m c2 : Nat) (dy hr : Nat → Int) (h : CalF w A n c f B m c2 dy hr) (k l : Int) (hl : -9223372036854775808 ≤ l ∧ l ≤ 9223372036854775807) (hR : finR n f m dy hr k l = none) :
    Calls Try.prog 27 #[.agg #[.slice A n c, .slice B m c2], .int .i64 k, .int .i64 l] w fun e w' => e = .returned (.tuple #[.int .i64 0, .bool false]) ∧ Below w.heap.size w w' := impl_FD w A n c f B m c2 dy hr h k l hl (none) hR
theorem impl_AW_some (w : World) (A : Option Addr) (n c : Nat) (f : Nat → Int) (B : Option Addr) (m c2 : Nat) (dy hr : Nat → Int) (h : CalF w A n c f B m c2 dy hr) (k l : Int) (hl : -9223372036854775808 ≤ l ∧ l ≤ 9223372036854775807) (d : Nat) (hR : addWR n f m dy hr k l = some d) :
    Calls Try.prog 31 #[.agg #[.slice A n c, .slice B m c2], .int .i64 k, .int .i64 l] w fun e w' => e = .returned (.tuple #[.int .i64 (d : Int), .bool true]) ∧ Below w.heap.size w w' := impl_AW w A n c f B m c2 dy hr h k l hl (some d) hR
theorem impl_AW_none (w : World) (A : Option Addr) (n c : Nat) (f : Nat → Int) (B : Option Addr) (m c2 : Nat) (dy hr : Nat → Int) (h : CalF w A n c f B m c2 dy hr) (k l : Int) (hl : -9223372036854775808 ≤ l ∧ l ≤ 9223372036854775807) (hR : addWR n f m dy hr k l = none) :
    Calls Try.prog 31 #[.agg #[.slice A n c, .slice B m c2], .int .i64 k, .int .i64 l] w fun e w' => e = .returned (.tuple #[.int .i64 0, .bool false]) ∧ Below w.heap.size w w' := impl_AW w A n c f B m c2 dy hr h k l hl (none) hR
theorem spec_FD_some (w : World) (A : Option Addr) (n c : Nat) (f : Nat → Int) (B : Option Addr) (m c2 : Nat) (dy hr : Nat → Int) (h : CalF w A n c f B m c2 dy hr) (k l : Int) (hl : -9223372036854775808 ≤ l ∧ l ≤ 9223372036854775807) (d : Nat) (hR : finR n f m dy hr k l = some d) :
    Calls Try.prog 28 #[.agg #[.slice A n c, .slice B m c2], .int .i64 k, .int .i64 l] w fun e w' => e = .returned (.tuple #[.int .i64 (d : Int), .bool true]) ∧ Below w.heap.size w w' := spec_FD w A n c f B m c2 dy hr h k l hl (some d) hR
theorem spec_FD_none (w : World) (A : Option Addr) (n c : Nat) (f : Nat → Int) (B : Option Addr) (m c2 : Nat) (dy hr : Nat → Int) (h : CalF w A n c f B m c2 dy hr) (k l : Int) (hl : -9223372036854775808 ≤ l ∧ l ≤ 9223372036854775807) (hR : finR n f m dy hr k l = none) :
    Calls Try.prog 28 #[.agg #[.slice A n c, .slice B m c2], .int .i64 k, .int .i64 l] w fun e w' => e = .returned (.tuple #[.int .i64 0, .bool false]) ∧ Below w.heap.size w w' := spec_FD w A n c f B m c2 dy hr h k l hl (none) hR
theorem spec_AW_some (w : World) (A : Option Addr) (n c : Nat) (f : Nat → Int) (B : Option Addr) (m c2 : Nat) (dy hr : Nat → Int) (h : CalF w A n c f B m c2 dy hr) (k l : Int) (hl : -9223372036854775808 ≤ l ∧ l ≤ 9223372036854775807) (d : Nat) (hR : addWR n f m dy hr k l = some d) :
    Calls Try.prog 32 #[.agg #[.slice A n c, .slice B m c2], .int .i64 k, .int .i64 l] w fun e w' => e = .returned (.tuple #[.int .i64 (d : Int), .bool true]) ∧ Below w.heap.size w w' := spec_AW w A n c f B m c2 dy hr h k l hl (some d) hR
theorem spec_AW_none (w : World) (A : Option Addr) (n c : Nat) (f : Nat → Int) (B : Option Addr) (m c2 : Nat) (dy hr : Nat → Int) (h : CalF w A n c f B m c2 dy hr) (k l : Int) (hl : -9223372036854775808 ≤ l ∧ l ≤ 9223372036854775807) (hR : addWR n f m dy hr k l = none) :
    Calls Try.prog 32 #[.agg #[.slice A n c, .slice B m c2], .int .i64 k, .int .i64 l] w fun e w' => e = .returned (.tuple #[.int .i64 0, .bool false]) ∧ Below w.heap.size w w' := spec_AW w A n c f B m c2 dy hr h k l hl (none) hR
set_option maxRecDepth 20000 in
set_option maxHeartbeats 4000000 in
theorem law_Hours (w : World) (A : Option Addr) (len cap : Nat) (hb : Bytes w A len) :
    Calls Try.prog 5 #[.slice A len cap] w fun e w' => e = .returned (.bool true) ∧ Below w.heap.size w w' := by
  have hm := hb.1
  have HB := Lib.hid hb
  clear hb
  by_cases hbig : 1048576 < len
  · have hd : decide (1048576 < len) = true := by simpa using hbig
    go_enter Try.func5, Try.ntmps5
    go_wp2_with fail
    refine (big_any _ _ _ _ hm).mono ?_; rintro e w1 ⟨rfl, hw⟩; obtain rfl := hw.symm
    rw [hd]
    clear hd
    go_wp2_with fail
    go_ret
    exact ⟨rfl, Below.refl _ _⟩
  have hd : decide (1048576 < len) = false := by simpa using hbig
  go_enter Try.func5, Try.ntmps5
  go_wp2_with fail
  refine (big_any _ _ _ _ hm).mono ?_; rintro e w1 ⟨rfl, hw⟩; obtain rfl := hw.symm
  rw [hd]
  clear hd
  go_wp2_with fail
  refine (DrawHoursBetween_any _ _ _ _ HB.out).mono ?_
  rintro e w1 ⟨A2, n, c, f, A3, m, c', dy, hr, a, b, rfl, hC, ha, hb, _, _, hb1⟩
  have C1 := Lib.hid hC
  have B1 := Lib.hid hb1
  have HA := Lib.hid ha
  have HBB := Lib.hid hb
  obtain ⟨a1, a2⟩ := ha
  obtain ⟨b1, b2⟩ := hb
  clear hC hb1
  go_wp2_with fail
  have B1' := Lib.hid (B1.out.alloc B1.out.size (.cells #[.slice A2 n c, .slice A3 m c'] 30))
  have C1' := Lib.hid (C1.out.call ((Below.refl _ _).alloc (Nat.le_refl _) (.cells #[.slice A2 n c, .slice A3 m c'] 30)))
  have K1 := Lib.hid (cal_boxed w1 A2 n c A3 m c' 30)
  unfold calBox at K1
  have zz1 : w1.heap.size < (w1.alloc (.cells #[.slice A2 n c, .slice A3 m c'] 30)).heap.size := by simp
  generalize hgx : w1.heap.size = gx at *
  clear hgx
  generalize w1.alloc (.cells #[.slice A2 n c, .slice A3 m c'] 30) = V1 at *
  refine (DrawWorkdaysBetween_any _ _ _ _ (bytes_call HB.out B1'.out)).mono ?_
  rintro e w2 ⟨X2, xn, xc, xf, X3, xm, xc', xdy, xhr, d, e', rfl, _, hd, he, _, _, hb2⟩
  obtain ⟨d1, d2⟩ := hd
  obtain ⟨e1, e2⟩ := he
  have B2 := Lib.hid (B1'.out.trans (hb2.mono B1'.out.size))
  have C2 := Lib.hid (C1'.out.call hb2)
  have a0 : w2.cell? ⟨gx, 0, none⟩ = some (.slice A2 n c) := (hb2.cell (p := ⟨gx, 0, none⟩) zz1).trans K1.out.pair.1
  have a1' : w2.cell? ⟨gx, 1, none⟩ = some (.slice A3 m c') := (hb2.cell (p := ⟨gx, 1, none⟩) zz1).trans K1.out.pair.2
  have zz2 : gx < w2.heap.size := Nat.lt_of_lt_of_le zz1 hb2.size
  clear hb2
  obtain ⟨p, hp⟩ : ∃ p, d.tmod 50 = p := ⟨_, rfl⟩
  obtain ⟨q, hq⟩ : ∃ q, e'.tmod 50 = q := ⟨_, rfl⟩
  have p1 : -50 < p ∧ p < 50 := by rw [← hp]; exact tmod_bd d
  have q1 : -50 < q ∧ q < 50 := by rw [← hq]; exact tmod_bd e'
  obtain ⟨p1, p2⟩ := p1
  obtain ⟨q1, q2⟩ := q1
  go_wp2_with fail
  have BX := Lib.hid ((B2.out.alloc B2.out.size (.cells #[.slice X2 xn xc, .slice X3 xm xc'] 30)))
  have CX := Lib.hid (C2.out.call ((Below.refl _ _).alloc (Nat.le_refl _) (.cells #[.slice X2 xn xc, .slice X3 xm xc'] 30)))
  have ax0 : (w2.alloc (.cells #[.slice X2 xn xc, .slice X3 xm xc'] 30)).cell? ⟨gx, 0, none⟩ = some (.slice A2 n c) := (World.cell?_alloc_lt _ _ _ zz2).trans a0
  have ax1 : (w2.alloc (.cells #[.slice X2 xn xc, .slice X3 xm xc'] 30)).cell? ⟨gx, 1, none⟩ = some (.slice A3 m c') := (World.cell?_alloc_lt _ _ _ zz2).trans a1'
  have mb : 0 ≤ (p + q + 100) % 60 ∧ (p + q + 100) % 60 ≤ 59 := by omega
  generalize (p + q + 100) % 60 = M at *
  obtain ⟨m1, m2⟩ := mb
  clear hp hq a0 a1' p1 p2 q1 q2
  generalize w2.alloc (.cells #[.slice X2 xn xc, .slice X3 xm xc'] 30) = VX at *
  have v1 := wbv_bd n f m dy hr a M
  have v2 := wbv_bd n f m dy hr M b
  have v3 := wbv_bd n f m dy hr a b
  have v4 := wbv_bd n f m dy hr b a
  have v5 := hbv_bd n f m dy hr a M
  have v6 := hbv_bd n f m dy hr M b
  have k1 : IntKind.i64.wrap (wbv n f m dy hr a M + wbv n f m dy hr M b) = wbv n f m dy hr a b := (IntWalk.i64_in _ ⟨by omega, by omega⟩).trans (wbv_add n f m dy hr a M b)
  have k2 : IntKind.i64.wrap (-wbv n f m dy hr b a) = wbv n f m dy hr a b := (IntWalk.i64_in _ ⟨by omega, by omega⟩).trans (wbv_neg n f m dy hr a b).symm
  have k3 : (wbv n f m dy hr a b != wbv n f m dy hr a b) = false := by simp
  have k4 : (hbv n f m dy hr a b != hbv n f m dy hr a b) = false := by simp
  have K5 : a ≤ M → M ≤ b → Hid (IntKind.i64.wrap (hbv n f m dy hr a M + hbv n f m dy hr M b) = hbv n f m dy hr a b) := fun h1 h2 => Lib.hid ((IntWalk.i64_in _ ⟨by omega, by omega⟩).trans (hbv_add n f m dy hr h1 h2))
  clear v1 v2 v3 v4 v5 v6
  have K5 := Lib.hid K5
  have ga0 := fun d os => cell_regrown ax0 d os
  have ga1 := fun d os => cell_regrown ax1 d os
  have HCAL := Lib.hid (fun d os => CX.out.call (below_regrown VX d os))
  refine wp_region_quiet_below (by kernel_rfl) (by kernel_rfl) ?_
  repeat (first | go_big_quiet_step ((first | (go_at_call 23; exact Calls.regrown_of (impl_HB _ A2 n c f A3 m c' dy hr (HCAL.out _ _) _ _ (by first | exact HA.out | exact ⟨by omega, by omega⟩))) | (go_at_call 24; exact Calls.regrown_of (spec_HB _ A2 n c f A3 m c' dy hr (HCAL.out _ _) _ _ HA.out)) | (go_at_call 25; exact Calls.regrown_of (impl_WB _ A2 n c f A3 m c' dy hr (HCAL.out _ _) _ _)))) | quiet_step ((first | (go_at_call 23; exact Calls.regrown_of (impl_HB _ A2 n c f A3 m c' dy hr (HCAL.out _ _) _ _ (by first | exact HA.out | exact ⟨by omega, by omega⟩))) | (go_at_call 24; exact Calls.regrown_of (spec_HB _ A2 n c f A3 m c' dy hr (HCAL.out _ _) _ _ HA.out)) | (go_at_call 25; exact Calls.regrown_of (impl_WB _ A2 n c f A3 m c' dy hr (HCAL.out _ _) _ _)))))
  refine wpQuiet_nil ?_
  intro _ hw'
  obtain ⟨⟨dq, osq⟩, hw''⟩ := hw'
  subst hw''
  have B3 := Lib.hid (BX.out.trans ((below_regrown VX dq osq).mono BX.out.size))
  have C3 := Lib.hid (CX.out.call (below_regrown VX dq osq))
  have ay0 := ga0 dq osq
  have ay1 := ga1 dq osq
  clear ga0 ga1 HCAL ax0 ax1
  generalize grow (redrawn VX dq) osq = VY at *
  go_wp2_with fail
  have ga0 := fun d os => cell_regrown ay0 d os
  have ga1 := fun d os => cell_regrown ay1 d os
  by_cases h1 : M < a
  · have HCAL := Lib.hid (fun d os => C3.out.call (below_regrown VY d os))
    refine wp_region_quiet_below (by kernel_rfl) (by kernel_rfl) ?_
    repeat (first | go_big_quiet_step ((first | (go_at_call 23; exact Calls.regrown_of (impl_HB _ A2 n c f A3 m c' dy hr (HCAL.out _ _) _ _ (by first | exact HA.out | exact ⟨by omega, by omega⟩))) | (go_at_call 24; exact Calls.regrown_of (spec_HB _ A2 n c f A3 m c' dy hr (HCAL.out _ _) _ _ HA.out)) | (go_at_call 25; exact Calls.regrown_of (impl_WB _ A2 n c f A3 m c' dy hr (HCAL.out _ _) _ _)))) | quiet_step ((first | (go_at_call 23; exact Calls.regrown_of (impl_HB _ A2 n c f A3 m c' dy hr (HCAL.out _ _) _ _ (by first | exact HA.out | exact ⟨by omega, by omega⟩))) | (go_at_call 24; exact Calls.regrown_of (spec_HB _ A2 n c f A3 m c' dy hr (HCAL.out _ _) _ _ HA.out)) | (go_at_call 25; exact Calls.regrown_of (impl_WB _ A2 n c f A3 m c' dy hr (HCAL.out _ _) _ _)))))
    refine wpQuiet_nil ?_
    intro _ hw'
    obtain ⟨⟨dq2, osq2⟩, hw''⟩ := hw'
    subst hw''
    have B4 := Lib.hid (B3.out.trans ((below_regrown VY dq2 osq2).mono B3.out.size))
    go_wp2_with fail
    go_ret
    exact ⟨rfl, B4.out⟩
  by_cases h2 : b < M
  · have HCAL := Lib.hid (fun d os => C3.out.call (below_regrown VY d os))
    refine wp_region_quiet_below (by kernel_rfl) (by kernel_rfl) ?_
    repeat (first | go_big_quiet_step ((first | (go_at_call 23; exact Calls.regrown_of (impl_HB _ A2 n c f A3 m c' dy hr (HCAL.out _ _) _ _ (by first | exact HA.out | exact ⟨by omega, by omega⟩))) | (go_at_call 24; exact Calls.regrown_of (spec_HB _ A2 n c f A3 m c' dy hr (HCAL.out _ _) _ _ HA.out)) | (go_at_call 25; exact Calls.regrown_of (impl_WB _ A2 n c f A3 m c' dy hr (HCAL.out _ _) _ _)))) | quiet_step ((first | (go_at_call 23; exact Calls.regrown_of (impl_HB _ A2 n c f A3 m c' dy hr (HCAL.out _ _) _ _ (by first | exact HA.out | exact ⟨by omega, by omega⟩))) | (go_at_call 24; exact Calls.regrown_of (spec_HB _ A2 n c f A3 m c' dy hr (HCAL.out _ _) _ _ HA.out)) | (go_at_call 25; exact Calls.regrown_of (impl_WB _ A2 n c f A3 m c' dy hr (HCAL.out _ _) _ _)))))
    refine wpQuiet_nil ?_
    intro _ hw'
    obtain ⟨⟨dq2, osq2⟩, hw''⟩ := hw'
    subst hw''
    have B4 := Lib.hid (B3.out.trans ((below_regrown VY dq2 osq2).mono B3.out.size))
    go_wp2_with fail
    go_ret
    exact ⟨rfl, B4.out⟩
  · have h1' : a ≤ M := by omega
    have h2' : M ≤ b := by omega
    have k5 := (K5.out h1' h2').out
    have k6 : (hbv n f m dy hr a b == hbv n f m dy hr a b) = true := by simp
    clear K5
    have HCAL := Lib.hid (fun d os => C3.out.call (below_regrown VY d os))
    refine wp_region_quiet_below (by kernel_rfl) (by kernel_rfl) ?_
    repeat (first | go_big_quiet_step ((first | (go_at_call 23; exact Calls.regrown_of (impl_HB _ A2 n c f A3 m c' dy hr (HCAL.out _ _) _ _ (by first | exact HA.out | exact ⟨by omega, by omega⟩))) | (go_at_call 24; exact Calls.regrown_of (spec_HB _ A2 n c f A3 m c' dy hr (HCAL.out _ _) _ _ HA.out)) | (go_at_call 25; exact Calls.regrown_of (impl_WB _ A2 n c f A3 m c' dy hr (HCAL.out _ _) _ _)))) | quiet_step ((first | (go_at_call 23; exact Calls.regrown_of (impl_HB _ A2 n c f A3 m c' dy hr (HCAL.out _ _) _ _ (by first | exact HA.out | exact ⟨by omega, by omega⟩))) | (go_at_call 24; exact Calls.regrown_of (spec_HB _ A2 n c f A3 m c' dy hr (HCAL.out _ _) _ _ HA.out)) | (go_at_call 25; exact Calls.regrown_of (impl_WB _ A2 n c f A3 m c' dy hr (HCAL.out _ _) _ _)))))
    refine wpQuiet_nil ?_
    intro _ hw'
    obtain ⟨⟨dq2, osq2⟩, hw''⟩ := hw'
    subst hw''
    have B4 := Lib.hid (B3.out.trans ((below_regrown VY dq2 osq2).mono B3.out.size))
    go_wp2_with fail
    go_ret
    exact ⟨rfl, B4.out⟩

set_option maxRecDepth 20000 in
set_option maxHeartbeats 4000000 in
theorem law_Finish (w : World) (A : Option Addr) (len cap : Nat) (hb : Bytes w A len) :
    Calls Try.prog 6 #[.slice A len cap] w fun e w' => e = .returned (.bool true) ∧ Below w.heap.size w w' := by
  have hm := hb.1
  have HB := Lib.hid hb
  clear hb
  by_cases hbig : 1048576 < len
  · have hd : decide (1048576 < len) = true := by simpa using hbig
    go_enter Try.func6, Try.ntmps6
    go_wp2_with fail
    refine (big_any _ _ _ _ hm).mono ?_; rintro e w1 ⟨rfl, hw⟩; obtain rfl := hw.symm
    rw [hd]
    clear hd
    go_wp2_with fail
    go_ret
    exact ⟨rfl, Below.refl _ _⟩
  have hd : decide (1048576 < len) = false := by simpa using hbig
  go_enter Try.func6, Try.ntmps6
  go_wp2_with fail
  refine (big_any _ _ _ _ hm).mono ?_; rintro e w1 ⟨rfl, hw⟩; obtain rfl := hw.symm
  rw [hd]
  clear hd
  go_wp2_with fail
  refine (DrawFinishDay_any _ _ _ _ HB.out).mono ?_
  rintro e w1 ⟨A2, n, c, f, A3, m, c', dy, hr, a, b, rfl, hC, ha, hb, _, _, hb1⟩
  have C1 := Lib.hid hC
  have B1 := Lib.hid hb1
  have HA := Lib.hid ha
  have HBB := Lib.hid hb
  obtain ⟨a1, a2⟩ := ha
  obtain ⟨b1, b2⟩ := hb
  clear hC hb1
  go_wp2_with fail
  have B2 := Lib.hid (B1.out.alloc B1.out.size (.cells #[.slice A2 n c, .slice A3 m c'] 30))
  have C2 := Lib.hid (C1.out.call ((Below.refl _ _).alloc (Nat.le_refl _) (.cells #[.slice A2 n c, .slice A3 m c'] 30)))
  have K2 := Lib.hid (cal_boxed w1 A2 n c A3 m c' 30)
  unfold calBox at K2
  have zw := B1.out.size
  generalize w1.alloc (.cells #[.slice A2 n c, .slice A3 m c'] 30) = V2 at *
  clear B1 C1 HB
  cases hR : finR n f m dy hr a b with
  | none =>
    have HR := Lib.hid hR
    clear hR
    go_wp2_with fail
    refine (impl_FD_none _ A2 n c f A3 m c' dy hr C2.out _ _ HBB.out HR.out).mono ?_; rintro e V3 ⟨rfl, hb3⟩
    have B3 := Lib.hid (B2.out.trans (hb3.mono B2.out.size))
    have C3 := Lib.hid (C2.out.call hb3)
    have K3 := Lib.hid (Kept.call hb3 K2.out)
    obtain ⟨c30, c31⟩ := K3.out.pair
    clear hb3
    go_wp2_with fail
    refine (spec_FD_none _ A2 n c f A3 m c' dy hr C3.out _ _ HBB.out HR.out).mono ?_; rintro e V4 ⟨rfl, hb4⟩
    have B4 := Lib.hid (B3.out.trans (hb4.mono B3.out.size))
    have C4 := Lib.hid (C3.out.call hb4)
    have K4 := Lib.hid (Kept.call hb4 K3.out)
    obtain ⟨c40, c41⟩ := K4.out.pair
    clear hb4
    go_wp2_with fail
    go_ret
    exact ⟨rfl, B4.out⟩
  | some d =>
    have HR := Lib.hid hR
    clear hR
    obtain ⟨⟨r1, r2⟩, r3, r4, r5⟩ := fin_facts n f m dy hr HR.out
    have v1 := hbv_bd n f m dy hr a ((d : Int) + 1)
    have v2 := hbv_bd n f m dy hr a (d : Int)
    go_wp2_with fail
    refine (impl_FD_some _ A2 n c f A3 m c' dy hr C2.out _ _ HBB.out d HR.out).mono ?_; rintro e V3 ⟨rfl, hb3⟩
    have B3 := Lib.hid (B2.out.trans (hb3.mono B2.out.size))
    have C3 := Lib.hid (C2.out.call hb3)
    have K3 := Lib.hid (Kept.call hb3 K2.out)
    obtain ⟨c30, c31⟩ := K3.out.pair
    clear hb3
    go_wp2_with fail
    refine (spec_FD_some _ A2 n c f A3 m c' dy hr C3.out _ _ HBB.out d HR.out).mono ?_; rintro e V4 ⟨rfl, hb4⟩
    have B4 := Lib.hid (B3.out.trans (hb4.mono B3.out.size))
    have C4 := Lib.hid (C3.out.call hb4)
    have K4 := Lib.hid (Kept.call hb4 K3.out)
    obtain ⟨c40, c41⟩ := K4.out.pair
    clear hb4
    go_wp2_with fail
    refine (impl_HB _ A2 n c f A3 m c' dy hr C4.out _ _ HA.out).mono ?_; rintro e V5 ⟨rfl, hb5⟩
    have B5 := Lib.hid (B4.out.trans (hb5.mono B4.out.size))
    have C5 := Lib.hid (C4.out.call hb5)
    have K5 := Lib.hid (Kept.call hb5 K4.out)
    obtain ⟨c50, c51⟩ := K5.out.pair
    clear hb5
    go_wp2_with fail
    refine (impl_HB _ A2 n c f A3 m c' dy hr C5.out _ _ HA.out).mono ?_; rintro e V6 ⟨rfl, hb6⟩
    have B6 := Lib.hid (B5.out.trans (hb6.mono B5.out.size))
    have C6 := Lib.hid (C5.out.call hb6)
    have K6 := Lib.hid (Kept.call hb6 K5.out)
    obtain ⟨c60, c61⟩ := K6.out.pair
    clear hb6
    go_wp2_with fail
    go_ret
    exact ⟨rfl, B6.out⟩
set_option maxRecDepth 20000 in
set_option maxHeartbeats 4000000 in
theorem law_Workdays (w : World) (A : Option Addr) (len cap : Nat) (hb : Bytes w A len) :
    Calls Try.prog 10 #[.slice A len cap] w fun e w' => e = .returned (.bool true) ∧ Below w.heap.size w w' := by
  have hm := hb.1
  have HB := Lib.hid hb
  clear hb
  by_cases hbig : 1048576 < len
  · have hd : decide (1048576 < len) = true := by simpa using hbig
    go_enter Try.func10, Try.ntmps10
    go_wp2_with fail
    refine (big_any _ _ _ _ hm).mono ?_; rintro e w1 ⟨rfl, hw⟩; obtain rfl := hw.symm
    rw [hd]
    clear hd
    go_wp2_with fail
    go_ret
    exact ⟨rfl, Below.refl _ _⟩
  have hd : decide (1048576 < len) = false := by simpa using hbig
  go_enter Try.func10, Try.ntmps10
  go_wp2_with fail
  refine (big_any _ _ _ _ hm).mono ?_; rintro e w1 ⟨rfl, hw⟩; obtain rfl := hw.symm
  rw [hd]
  clear hd
  go_wp2_with fail
  refine (DrawAddWorkdays_any _ _ _ _ HB.out).mono ?_
  rintro e w1 ⟨A2, n, c, f, A3, m, c', dy, hr, a, b, rfl, hC, ha, hb, _, _, hb1⟩
  have C1 := Lib.hid hC
  have B1 := Lib.hid hb1
  have HA := Lib.hid ha
  have HBB := Lib.hid hb
  obtain ⟨a1, a2⟩ := ha
  obtain ⟨b1, b2⟩ := hb
  clear hC hb1
  go_wp2_with fail
  have B2 := Lib.hid (B1.out.alloc B1.out.size (.cells #[.slice A2 n c, .slice A3 m c'] 30))
  have C2 := Lib.hid (C1.out.call ((Below.refl _ _).alloc (Nat.le_refl _) (.cells #[.slice A2 n c, .slice A3 m c'] 30)))
  have K2 := Lib.hid (cal_boxed w1 A2 n c A3 m c' 30)
  unfold calBox at K2
  have zw := B1.out.size
  generalize w1.alloc (.cells #[.slice A2 n c, .slice A3 m c'] 30) = V2 at *
  clear B1 C1 HB
  cases hR : addWR n f m dy hr a b with
  | none =>
    have HR := Lib.hid hR
    clear hR
    go_wp2_with fail
    refine (impl_AW_none _ A2 n c f A3 m c' dy hr C2.out _ _ HBB.out HR.out).mono ?_; rintro e V3 ⟨rfl, hb3⟩
    have B3 := Lib.hid (B2.out.trans (hb3.mono B2.out.size))
    have C3 := Lib.hid (C2.out.call hb3)
    have K3 := Lib.hid (Kept.call hb3 K2.out)
    obtain ⟨c30, c31⟩ := K3.out.pair
    clear hb3
    go_wp2_with fail
    refine (spec_AW_none _ A2 n c f A3 m c' dy hr C3.out _ _ HBB.out HR.out).mono ?_; rintro e V4 ⟨rfl, hb4⟩
    have B4 := Lib.hid (B3.out.trans (hb4.mono B3.out.size))
    have C4 := Lib.hid (C3.out.call hb4)
    have K4 := Lib.hid (Kept.call hb4 K3.out)
    obtain ⟨c40, c41⟩ := K4.out.pair
    clear hb4
    go_wp2_with fail
    go_ret
    exact ⟨rfl, B4.out⟩
  | some d =>
    have HR := Lib.hid hR
    clear hR
    obtain ⟨r1, ⟨r2, r3⟩, r4, r5, r6, r7, _⟩ := addW_facts n f m dy hr HR.out
    have R5 := Lib.hid r5
    have R1 := Lib.hid r1
    have R7 := Lib.hid r7
    clear r1 r5 r7
    by_cases b0 : b = 0
    · have e1 : a = (d : Int) := r6 b0
      have E1 := Lib.hid e1
      have E0 := Lib.hid b0
      have t1 : (b == 0) = true := by simp [b0]
      have t2 : (a != (d : Int)) = false := by simp [e1]
      have t3 : b ≤ 0 := by omega
      have t4 : (wbv n f m dy hr a (d : Int) != b) = false := by rw [R5.out]; simp
      have t5 : calB n f m dy hr = true := R1.out
      clear e1 b0 r6
      go_wp2_with fail
      refine (impl_AW_some _ A2 n c f A3 m c' dy hr C2.out _ _ HBB.out d HR.out).mono ?_; rintro e V3 ⟨rfl, hb3⟩
      have B3 := Lib.hid (B2.out.trans (hb3.mono B2.out.size))
      have C3 := Lib.hid (C2.out.call hb3)
      have K3 := Lib.hid (Kept.call hb3 K2.out)
      obtain ⟨c30, c31⟩ := K3.out.pair
      clear hb3
      go_wp2_with fail
      refine (spec_AW_some _ A2 n c f A3 m c' dy hr C3.out _ _ HBB.out d HR.out).mono ?_; rintro e V4 ⟨rfl, hb4⟩
      have B4 := Lib.hid (B3.out.trans (hb4.mono B3.out.size))
      have C4 := Lib.hid (C3.out.call hb4)
      have K4 := Lib.hid (Kept.call hb4 K3.out)
      obtain ⟨c40, c41⟩ := K4.out.pair
      clear hb4
      go_wp2_with fail
      refine (impl_WB _ A2 n c f A3 m c' dy hr C4.out _ _).mono ?_; rintro e V5 ⟨rfl, hb5⟩
      have B5 := Lib.hid (B4.out.trans (hb5.mono B4.out.size))
      have C5 := Lib.hid (C4.out.call hb5)
      have K5 := Lib.hid (Kept.call hb5 K4.out)
      obtain ⟨c50, c51⟩ := K5.out.pair
      clear hb5
      go_wp2_with fail
      refine (spec_isCalendar _ A2 n c f A3 m c' dy hr C5.out).mono ?_; rintro e V6 ⟨rfl, hb6⟩
      have B6 := Lib.hid (B5.out.trans (hb6.mono B5.out.size))
      have C6 := Lib.hid (C5.out.call hb6)
      have K6 := Lib.hid (Kept.call hb6 K5.out)
      obtain ⟨c60, c61⟩ := K6.out.pair
      clear hb6
      go_wp2_with fail
      go_ret
      exact ⟨rfl, B6.out⟩
    have t1 : (b == 0) = false := by simp [b0]
    have t4 : (wbv n f m dy hr a (d : Int) != b) = false := by rw [R5.out]; simp
    have t5 : calB n f m dy hr = true := R1.out
    clear b0 r6
    by_cases b1 : 0 < b
    · obtain ⟨s1, s2⟩ := R7.out b1
      have t6 : ¬ b ≤ 0 := by omega
      have t7 : (wbv n f m dy hr a ((d : Int) - 1) == b - 1) = true := by rw [s2]; simp
      clear s2
      go_wp2_with fail
      refine (impl_AW_some _ A2 n c f A3 m c' dy hr C2.out _ _ HBB.out d HR.out).mono ?_; rintro e V3 ⟨rfl, hb3⟩
      have B3 := Lib.hid (B2.out.trans (hb3.mono B2.out.size))
      have C3 := Lib.hid (C2.out.call hb3)
      have K3 := Lib.hid (Kept.call hb3 K2.out)
      obtain ⟨c30, c31⟩ := K3.out.pair
      clear hb3
      go_wp2_with fail
      refine (spec_AW_some _ A2 n c f A3 m c' dy hr C3.out _ _ HBB.out d HR.out).mono ?_; rintro e V4 ⟨rfl, hb4⟩
      have B4 := Lib.hid (B3.out.trans (hb4.mono B3.out.size))
      have C4 := Lib.hid (C3.out.call hb4)
      have K4 := Lib.hid (Kept.call hb4 K3.out)
      obtain ⟨c40, c41⟩ := K4.out.pair
      clear hb4
      go_wp2_with fail
      refine (impl_WB _ A2 n c f A3 m c' dy hr C4.out _ _).mono ?_; rintro e V5 ⟨rfl, hb5⟩
      have B5 := Lib.hid (B4.out.trans (hb5.mono B4.out.size))
      have C5 := Lib.hid (C4.out.call hb5)
      have K5 := Lib.hid (Kept.call hb5 K4.out)
      obtain ⟨c50, c51⟩ := K5.out.pair
      clear hb5
      go_wp2_with fail
      refine (spec_isCalendar _ A2 n c f A3 m c' dy hr C5.out).mono ?_; rintro e V6 ⟨rfl, hb6⟩
      have B6 := Lib.hid (B5.out.trans (hb6.mono B5.out.size))
      have C6 := Lib.hid (C5.out.call hb6)
      have K6 := Lib.hid (Kept.call hb6 K5.out)
      obtain ⟨c60, c61⟩ := K6.out.pair
      clear hb6
      go_wp2_with fail
      refine (impl_WB _ A2 n c f A3 m c' dy hr C6.out _ _).mono ?_; rintro e V7 ⟨rfl, hb7⟩
      have B7 := Lib.hid (B6.out.trans (hb7.mono B6.out.size))
      have C7 := Lib.hid (C6.out.call hb7)
      have K7 := Lib.hid (Kept.call hb7 K6.out)
      obtain ⟨c70, c71⟩ := K7.out.pair
      clear hb7
      go_wp2_with fail
      go_ret
      exact ⟨rfl, B7.out⟩
    · have t6 : b ≤ 0 := by omega
      go_wp2_with fail
      refine (impl_AW_some _ A2 n c f A3 m c' dy hr C2.out _ _ HBB.out d HR.out).mono ?_; rintro e V3 ⟨rfl, hb3⟩
      have B3 := Lib.hid (B2.out.trans (hb3.mono B2.out.size))
      have C3 := Lib.hid (C2.out.call hb3)
      have K3 := Lib.hid (Kept.call hb3 K2.out)
      obtain ⟨c30, c31⟩ := K3.out.pair
      clear hb3
      go_wp2_with fail
      refine (spec_AW_some _ A2 n c f A3 m c' dy hr C3.out _ _ HBB.out d HR.out).mono ?_; rintro e V4 ⟨rfl, hb4⟩
      have B4 := Lib.hid (B3.out.trans (hb4.mono B3.out.size))
      have C4 := Lib.hid (C3.out.call hb4)
      have K4 := Lib.hid (Kept.call hb4 K3.out)
      obtain ⟨c40, c41⟩ := K4.out.pair
      clear hb4
      go_wp2_with fail
      refine (impl_WB _ A2 n c f A3 m c' dy hr C4.out _ _).mono ?_; rintro e V5 ⟨rfl, hb5⟩
      have B5 := Lib.hid (B4.out.trans (hb5.mono B4.out.size))
      have C5 := Lib.hid (C4.out.call hb5)
      have K5 := Lib.hid (Kept.call hb5 K4.out)
      obtain ⟨c50, c51⟩ := K5.out.pair
      clear hb5
      go_wp2_with fail
      refine (spec_isCalendar _ A2 n c f A3 m c' dy hr C5.out).mono ?_; rintro e V6 ⟨rfl, hb6⟩
      have B6 := Lib.hid (B5.out.trans (hb6.mono B5.out.size))
      have C6 := Lib.hid (C5.out.call hb6)
      have K6 := Lib.hid (Kept.call hb6 K5.out)
      obtain ⟨c60, c61⟩ := K6.out.pair
      clear hb6
      go_wp2_with fail
      go_ret
      exact ⟨rfl, B6.out⟩
set_option maxRecDepth 20000 in
set_option maxHeartbeats 4000000 in
theorem law_Backwards (w : World) (A : Option Addr) (len cap : Nat) (hb : Bytes w A len) :
    Calls Try.prog 12 #[.slice A len cap] w fun e w' => e = .returned (.bool true) ∧ Below w.heap.size w w' := by
  have hm := hb.1
  have HB := Lib.hid hb
  clear hb
  by_cases hbig : 1048576 < len
  · have hd : decide (1048576 < len) = true := by simpa using hbig
    go_enter Try.func12, Try.ntmps12
    go_wp2_with fail
    refine (big_any _ _ _ _ hm).mono ?_; rintro e w1 ⟨rfl, hw⟩; obtain rfl := hw.symm
    rw [hd]
    clear hd
    go_wp2_with fail
    go_ret
    exact ⟨rfl, Below.refl _ _⟩
  have hd : decide (1048576 < len) = false := by simpa using hbig
  go_enter Try.func12, Try.ntmps12
  go_wp2_with fail
  refine (big_any _ _ _ _ hm).mono ?_; rintro e w1 ⟨rfl, hw⟩; obtain rfl := hw.symm
  rw [hd]
  clear hd
  go_wp2_with fail
  refine (DrawAddWorkdays_any _ _ _ _ HB.out).mono ?_
  rintro e w1 ⟨A2, n, c, f, A3, m, c', dy, hr, a, b, rfl, hC, ha, hb, _, _, hb1⟩
  have C1 := Lib.hid hC
  have B1 := Lib.hid hb1
  have HA := Lib.hid ha
  have HBB := Lib.hid hb
  obtain ⟨a1, a2⟩ := ha
  obtain ⟨b1, b2⟩ := hb
  clear hC hb1
  go_wp2_with fail
  have B2 := Lib.hid (B1.out.alloc B1.out.size (.cells #[.slice A2 n c, .slice A3 m c'] 30))
  have C2 := Lib.hid (C1.out.call ((Below.refl _ _).alloc (Nat.le_refl _) (.cells #[.slice A2 n c, .slice A3 m c'] 30)))
  have K2 := Lib.hid (cal_boxed w1 A2 n c A3 m c' 30)
  unfold calBox at K2
  have zw := B1.out.size
  generalize w1.alloc (.cells #[.slice A2 n c, .slice A3 m c'] 30) = V2 at *
  clear B1 C1 HB
  cases hR : addWR n f m dy hr a b with
  | none =>
    have HR := Lib.hid hR
    clear hR
    go_wp2_with fail
    refine (impl_AW_none _ A2 n c f A3 m c' dy hr C2.out _ _ HBB.out HR.out).mono ?_; rintro e V3 ⟨rfl, hb3⟩
    have B3 := Lib.hid (B2.out.trans (hb3.mono B2.out.size))
    have C3 := Lib.hid (C2.out.call hb3)
    have K3 := Lib.hid (Kept.call hb3 K2.out)
    obtain ⟨c30, c31⟩ := K3.out.pair
    clear hb3
    go_wp2_with fail
    refine (spec_AW_none _ A2 n c f A3 m c' dy hr C3.out _ _ HBB.out HR.out).mono ?_; rintro e V4 ⟨rfl, hb4⟩
    have B4 := Lib.hid (B3.out.trans (hb4.mono B3.out.size))
    have C4 := Lib.hid (C3.out.call hb4)
    have K4 := Lib.hid (Kept.call hb4 K3.out)
    obtain ⟨c40, c41⟩ := K4.out.pair
    clear hb4
    go_wp2_with fail
    go_ret
    exact ⟨rfl, B4.out⟩
  | some d =>
    have HR := Lib.hid hR
    clear hR
    obtain ⟨r1, ⟨r2, r3⟩, r4, r5, r6, _, r8⟩ := addW_facts n f m dy hr HR.out
    have R8 := Lib.hid r8
    clear r1 r5 r6 r8
    by_cases b0 : 0 ≤ b
    · have t1 : (0 : Int) ≤ b := b0
      go_wp2_with fail
      refine (impl_AW_some _ A2 n c f A3 m c' dy hr C2.out _ _ HBB.out d HR.out).mono ?_; rintro e V3 ⟨rfl, hb3⟩
      have B3 := Lib.hid (B2.out.trans (hb3.mono B2.out.size))
      have C3 := Lib.hid (C2.out.call hb3)
      have K3 := Lib.hid (Kept.call hb3 K2.out)
      obtain ⟨c30, c31⟩ := K3.out.pair
      clear hb3
      go_wp2_with fail
      refine (spec_AW_some _ A2 n c f A3 m c' dy hr C3.out _ _ HBB.out d HR.out).mono ?_; rintro e V4 ⟨rfl, hb4⟩
      have B4 := Lib.hid (B3.out.trans (hb4.mono B3.out.size))
      have C4 := Lib.hid (C3.out.call hb4)
      have K4 := Lib.hid (Kept.call hb4 K3.out)
      obtain ⟨c40, c41⟩ := K4.out.pair
      clear hb4
      go_wp2_with fail
      go_ret
      exact ⟨rfl, B4.out⟩
    · obtain ⟨s1, s2, s3⟩ := R8.out (by omega)
      have t1 : ¬ (0 : Int) ≤ b := b0
      have u1 := wbv_bd n f m dy hr (d : Int) a
      have t2 : IntKind.i64.wrap (-b) = -b := IntWalk.i64_in _ ⟨by omega, by omega⟩
      have t3 : (wbv n f m dy hr (d : Int) a == -b) = true := by rw [s3]; simp
      clear s3
      go_wp2_with fail
      refine (impl_AW_some _ A2 n c f A3 m c' dy hr C2.out _ _ HBB.out d HR.out).mono ?_; rintro e V3 ⟨rfl, hb3⟩
      have B3 := Lib.hid (B2.out.trans (hb3.mono B2.out.size))
      have C3 := Lib.hid (C2.out.call hb3)
      have K3 := Lib.hid (Kept.call hb3 K2.out)
      obtain ⟨c30, c31⟩ := K3.out.pair
      clear hb3
      go_wp2_with fail
      refine (spec_AW_some _ A2 n c f A3 m c' dy hr C3.out _ _ HBB.out d HR.out).mono ?_; rintro e V4 ⟨rfl, hb4⟩
      have B4 := Lib.hid (B3.out.trans (hb4.mono B3.out.size))
      have C4 := Lib.hid (C3.out.call hb4)
      have K4 := Lib.hid (Kept.call hb4 K3.out)
      obtain ⟨c40, c41⟩ := K4.out.pair
      clear hb4
      go_wp2_with fail
      refine (impl_HO _ A2 n c f A3 m c' dy hr C4.out _).mono ?_; rintro e V5 ⟨rfl, hb5⟩
      have B5 := Lib.hid (B4.out.trans (hb5.mono B4.out.size))
      have C5 := Lib.hid (C4.out.call hb5)
      have K5 := Lib.hid (Kept.call hb5 K4.out)
      obtain ⟨c50, c51⟩ := K5.out.pair
      clear hb5
      go_wp2_with fail
      refine (impl_WB _ A2 n c f A3 m c' dy hr C5.out _ _).mono ?_; rintro e V6 ⟨rfl, hb6⟩
      have B6 := Lib.hid (B5.out.trans (hb6.mono B5.out.size))
      have C6 := Lib.hid (C5.out.call hb6)
      have K6 := Lib.hid (Kept.call hb6 K5.out)
      obtain ⟨c60, c61⟩ := K6.out.pair
      clear hb6
      go_wp2_with fail
      go_ret
      exact ⟨rfl, B6.out⟩
end Go.Proofs.Ytkbmlpnfdogioaa
