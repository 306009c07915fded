/-
  Walks of the laws FnRounding and FnRatios.
-/
import Derived.Test.YtekjenbgdllghaaDrawRatio
import Derived.Test.YtekjenbgdllghaaOps
import Derived.Deep.RegionHeld3
import Derived.Deep.RegionWith
import Derived.Lib.QuietBelow
import Derived.Deep.DeepCutAuto
import Derived.Deep.DrawnRows
namespace Go.Proofs.Ytekjenbgdllghaa
open Go.RowKit num Go.Sort
set_option linter.unusedVariables false
set_option linter.unusedSimpArgs false
attribute [local go_sem ↓] Go.wp_at_zero Go.wp_at_succ

def NewRatio (w : World) (e : Ending) (w' : World) : Prop := ∃ a b : Int, e = .returned (.agg #[.int .i64 a, .int .i64 b]) ∧ (-9223372036854775808 ≤ a ∧ a ≤ 9223372036854775807 ∧ -9223372036854775808 ≤ b ∧ b ≤ 9223372036854775807) ∧ Below w.heap.size w w'
def NewTwo (w : World) (e : Ending) (w' : World) : Prop := ∃ a b c d : Int, e = .returned (.tuple #[.agg #[.int .i64 a, .int .i64 b], .agg #[.int .i64 c, .int .i64 d]]) ∧ Below w.heap.size w w'

theorem drawFloor_any (w : World) (A : Option Addr) (len cap : Nat) (hb : Bytes w A len) :
    Calls Try.prog 36 #[.slice A len cap] w (NewRatio w) := by
  have hb2 : Bytes (w.alloc (.cells #[.int .i64 0, .int .i64 0] 26)) A len :=
    ⟨hb.1, fun j hj => by obtain ⟨b, o, x, e, hB, h0, h1, hc⟩ := hb.2 j hj; exact ⟨b, o, x, e, by simp; omega, h0, h1, (World.cell?_alloc_lt _ _ _ hB).trans hc⟩⟩
  have HB := Lib.hid hb2
  clear hb hb2
  go_enter Try.func36, Try.ntmps36
  go_wp2_with fail
  refine (l1New_any _ _ _ _ HB.out).mono ?_
  rintro e w1 ⟨g, rfl, c1, hb1⟩
  have hg := c1.base
  have hlt := c1.lt
  simp at hg
  have z1 : w.heap.size < w1.heap.size := by have := hb1.size; simp at this; omega
  go_wp2_with fail
  refine (l2Any_any _ g _ c1).mono ?_
  rintro e w2 ⟨v, rfl, ⟨a, b, rfl, ha0, ha1, hb0', hb1'⟩, c2, hg2⟩
  have z2 : w.heap.size < w2.heap.size := by have := hg2.size; omega
  have r0 : w2.cell? ⟨w.heap.size, 0, none⟩ = some (.int .i64 0) := by rw [grown_cell hg2 (by assumption) (by simp; omega), hb1.cell (p := ⟨w.heap.size, 0, none⟩) (by simp)]; simp [go_sem]
  have r1 : w2.cell? ⟨w.heap.size, 1, none⟩ = some (.int .i64 0) := by rw [grown_cell hg2 (by assumption) (by simp; omega), hb1.cell (p := ⟨w.heap.size, 1, none⟩) (by simp)]; simp [go_sem]
  have s0 : w2.frozen? ⟨w.heap.size, 0, none⟩ = false := by rw [grown_frozen hg2 (by assumption) (by simp; omega), hb1.frozen (p := ⟨w.heap.size, 0, none⟩) (by simp)]; simp [go_sem]
  have s1 : w2.frozen? ⟨w.heap.size, 1, none⟩ = false := by rw [grown_frozen hg2 (by assumption) (by simp; omega), hb1.frozen (p := ⟨w.heap.size, 1, none⟩) (by simp)]; simp [go_sem]
  have hbel : Below w.heap.size w w2 := (((Below.refl _ _).alloc (Nat.le_refl _) _).trans (hb1.mono (by simp))).trans (grown_below hg2 (by omega) (by omega))
  go_wp2_with fail
  refine bodyPost_ret (by simp [results, Try.results36, go_sem, *]; try rfl) rfl ?_
  exact ⟨a, b, rfl, ⟨ha0, ha1, hb0', hb1'⟩, (hbel.setCell (by simp) _).setCell (by simp) _⟩
theorem whole_any (n : Int) (w : World) (hn : -1000000000 ≤ n ∧ n ≤ 1000000000) :
    Calls Try.prog 37 #[.int .i64 n] w fun e w' => e = .returned (.agg #[.int .i64 n, .int .i64 1]) ∧ Below w.heap.size w w' := by
  have e1 := num.whole n hn
  go_enter Try.func37, Try.ntmps37
  go_wp2_with fail
  refine (spec_mk_any _ _ _).mono ?_; rintro e w1 ⟨rfl, hb1⟩
  rw [e1]
  have z1 : w.heap.size < w1.heap.size := by have := hb1.size; simp at this; omega
  have r0 : w1.cell? ⟨w.heap.size, 0, none⟩ = some (.int .i64 0) := by rw [hb1.cell (p := ⟨w.heap.size, 0, none⟩) (by simp)]; simp [go_sem]
  have r1 : w1.cell? ⟨w.heap.size, 1, none⟩ = some (.int .i64 0) := by rw [hb1.cell (p := ⟨w.heap.size, 1, none⟩) (by simp)]; simp [go_sem]
  have s0 : w1.frozen? ⟨w.heap.size, 0, none⟩ = false := by rw [hb1.frozen (p := ⟨w.heap.size, 0, none⟩) (by simp)]; simp [go_sem]
  have s1 : w1.frozen? ⟨w.heap.size, 1, none⟩ = false := by rw [hb1.frozen (p := ⟨w.heap.size, 1, none⟩) (by simp)]; simp [go_sem]
  go_wp2_with fail
  refine bodyPost_ret (by simp [results, Try.results37, go_sem, *]; try rfl) rfl ?_
  exact ⟨rfl, by repeat' (first | (with_reducible exact Below.refl _ _) | assumption | (with_reducible refine below_then (by assumption) ?_ ?_) | (with_reducible refine Below.alloc ?_ ?_ _) | (with_reducible refine below_drewN ?_ _) | (with_reducible refine Below.drew ?_) | (with_reducible refine Below.setCell ?_ ?_ _) | omega | (simp; done) | (simp; omega))⟩
theorem negR_yes {a b : Int} (h : isR a b = true) : negR a b = (-a, b) := by unfold negR; rw [if_pos h]
theorem flo_no {a b : Int} (h : isR a b = false) : floR a b = 0 := by unfold floR; rw [if_neg (by simp [h])]
theorem cei_no {a b : Int} (h : isR a b = false) : ceiR a b = 0 := by unfold ceiR; rw [if_neg (by simp [h])]

theorem Kept.two {w W : World} {a0 a1 : Addr} {v0 v1 : Value} (h : Kept w [(a0, v0), (a1, v1)] W) : W.cell? a0 = some v0 ∧ W.cell? a1 = some v1 ∧ Kept w [(a0, v0), (a1, v1)] W :=
  ⟨h.cell (a0, v0) (by simp), h.cell (a1, v1) (by simp), h⟩
theorem ret_true {b : Bool} (h : b = true) : Ending.returned (.bool b) = .returned (.bool true) := by rw [h]
set_option maxHeartbeats 1000000 in
theorem law_Rounding (w : World) (A : Option Addr) (len cap : Nat) (hb : Bytes w A len) :
    Calls Try.prog 13 #[.slice A len cap] w fun e w' => e = .returned (.bool true) ∧ Below w.heap.size w w' := by
  have hm := hb.1
  have HB := Lib.hid hb
  clear hb
  by_cases hbig : 1048576 < len
  · have hd : decide (1048576 < len) = true := by simpa using hbig
    go_enter Try.func13, Try.ntmps13
    go_wp2_with fail
    refine (big_any _ _ _ _ hm).mono ?_; rintro e w0 ⟨rfl, rfl⟩
    go_wp2_with fail
    go_ret
    exact ⟨rfl, Below.refl _ _⟩
  · have hd : decide (1048576 < len) = false := by simpa using hbig
    go_enter Try.func13, Try.ntmps13
    go_wp2_with fail
    refine (big_any _ _ _ _ hm).mono ?_; rintro e w0 ⟨rfl, rfl⟩
    go_wp2_with fail
    refine (drawFloor_any _ _ _ _ HB.out).mono ?_; rintro e w1 ⟨a, b, rfl, hab, hb1⟩
    have k1 : Kept w0 [(⟨w1.heap.size, 0, none⟩, .int .i64 a), (⟨w1.heap.size, 1, none⟩, .int .i64 b)] (w1.alloc (.cells #[.int .i64 a, .int .i64 b] 26)) :=
      ⟨by simp, by simp [World.cell?_alloc_new], hb1.alloc hb1.size _⟩
    clear hab
    go_wp2_with fail
    refine (impl_FloorRatio _ _ _).mono ?_; rintro e w2 ⟨rfl, hb2⟩
    have k2 := Kept.call hb2 k1
    obtain ⟨q20, q21, _⟩ := k2.two
    go_wp2_with fail
    refine (impl_CeilRatio _ _ _).mono ?_; rintro e w3 ⟨rfl, hb3⟩
    have k3 := Kept.call hb3 k2
    obtain ⟨q30, q31, _⟩ := k3.two
    clear q20 q21
    go_wp2_with fail
    refine (spec_isRatio _ _ _).mono ?_; rintro e w4 ⟨rfl, hb4⟩
    have k4 := Kept.call hb4 k3
    obtain ⟨q40, q41, _⟩ := k4.two
    clear q30 q31
    cases hr : isR a b
    · have e1 := flo_no hr
      have e2 := cei_no hr
      go_wp2_with fail
      go_ret
      exact ⟨rfl, k4.below⟩
    · obtain ⟨m1, m2, m3, m4, ⟨m5, m6⟩, m7, m8⟩ := rounding hr
      have e1 := negR_yes hr
      have rg0 := fun d os => cell_regrown q40 d os
      have rg1 := fun d os => cell_regrown q41 d os
      have u1 : IntKind.i64.wrap (floR a b + 1) = floR a b + 1 := IntWalk.i64_in _ ⟨by omega, by omega⟩
      have u2 : IntKind.i64.wrap (-ceiR a b) = -ceiR a b := IntWalk.i64_in _ ⟨by omega, by omega⟩
      have t2 : (floR (-a) b == -ceiR a b) = true := by simp [m4]
      clear m4
      rcases m3 with m3 | ⟨m3, m3'⟩
      · have t1 : (ceiR a b == floR a b + 1) = true := by simp [m3]
        clear m3
        go_wp2_with fail
        refine wp_region_quiet_below (by kernel_rfl) (by kernel_rfl) ?_
        repeat (first | go_big_quiet_step ((first | (go_at_call 37; exact Calls.regrown_of (whole_any _ _ ⟨by omega, by omega⟩)) | (go_at_call 23; exact Calls.regrown_of (spec_CompareRatios _ _ _ _ _)) | (go_at_call 19; exact Calls.regrown_of (impl_NegateRatio _ _ _)) | (go_at_call 22; exact Calls.regrown_of (impl_FloorRatio _ _ _)))) | quiet_step ((first | (go_at_call 37; exact Calls.regrown_of (whole_any _ _ ⟨by omega, by omega⟩)) | (go_at_call 23; exact Calls.regrown_of (spec_CompareRatios _ _ _ _ _)) | (go_at_call 19; exact Calls.regrown_of (impl_NegateRatio _ _ _)) | (go_at_call 22; exact Calls.regrown_of (impl_FloorRatio _ _ _)))))
        refine wpQuiet_nil ?_
        intro _ hw'
        obtain ⟨⟨dq, osq⟩, hw''⟩ := hw'
        subst hw''
        go_wp2_with fail
        go_ret
        exact ⟨rfl, k4.below.trans ((below_regrown w4 dq osq).mono k4.below.size)⟩
      · have t1 : (ceiR a b == floR a b + 1) = false := by simp; omega
        have t3 : (ceiR a b == floR a b) = true := by simp [m3]
        subst m3'
        clear m3
        go_wp2_with fail
        refine wp_region_quiet_below (by kernel_rfl) (by kernel_rfl) ?_
        repeat (first | go_big_quiet_step ((first | (go_at_call 37; exact Calls.regrown_of (whole_any _ _ ⟨by omega, by omega⟩)) | (go_at_call 23; exact Calls.regrown_of (spec_CompareRatios _ _ _ _ _)) | (go_at_call 19; exact Calls.regrown_of (impl_NegateRatio _ _ _)) | (go_at_call 22; exact Calls.regrown_of (impl_FloorRatio _ _ _)))) | quiet_step ((first | (go_at_call 37; exact Calls.regrown_of (whole_any _ _ ⟨by omega, by omega⟩)) | (go_at_call 23; exact Calls.regrown_of (spec_CompareRatios _ _ _ _ _)) | (go_at_call 19; exact Calls.regrown_of (impl_NegateRatio _ _ _)) | (go_at_call 22; exact Calls.regrown_of (impl_FloorRatio _ _ _)))))
        refine wpQuiet_nil ?_
        intro _ hw'
        obtain ⟨⟨dq, osq⟩, hw''⟩ := hw'
        subst hw''
        go_wp2_with fail
        go_ret
        exact ⟨rfl, k4.below.trans ((below_regrown w4 dq osq).mono k4.below.size)⟩
end Go.Proofs.Ytekjenbgdllghaa
