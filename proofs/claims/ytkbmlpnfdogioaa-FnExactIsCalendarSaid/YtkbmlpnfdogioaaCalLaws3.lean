/-
  The law FnExactIsCalendar.
-/
import Derived.Test.YtkbmlpnfdogioaaCalLaws2
namespace Go.Proofs.Ytkbmlpnfdogioaa
open Go.RowKit Go.Sort cost
set_option linter.unusedVariables false
set_option linter.unusedSimpArgs false

set_option maxHeartbeats 2000000 in
theorem shape_IsCalendar (w : World) (A : Option Addr) (n c : Nat) (f : Nat → Int) (B : Option Addr) (m c2 : Nat) (dy hr : Nat → Int) (h : CalF w A n c f B m c2 dy hr) (v : Bool) (hs : n + m ≤ 1048576) 
    (hsp : ∀ (W : World) (X Y : Option Addr) (d e : Nat), CalF W X n d f Y m e dy hr → Calls Try.prog 14 #[.agg #[.slice X n d, .slice Y m e]] W fun e W' => e = .returned (.bool v) ∧ Below W.heap.size W W')
    (him : ∀ (W : World) (X Y : Option Addr) (d e : Nat), CalF W X n d f Y m e dy hr → Calls Try.prog 16 #[.agg #[.slice X n d, .slice Y m e]] W fun e W' => e = .returned (.bool v) ∧ Below W.heap.size W W') :
    Calls Try.prog 3 #[.agg #[.slice A n c, .slice B m c2]] w fun e w' => e = .returned (.bool true) ∧ Below w.heap.size w w' := by
  have q1 : ¬ (1048576 : Int) - (n : Int) - (m : Int) < 0 := by omega
  have K0 := Lib.hid (cal_boxed w A n c B m c2 25)
  have H := Lib.hid h
  have HS := Lib.hid hsp
  have HI := Lib.hid him
  clear h hsp him
  go_enter Try.func3, Try.ntmps3
  go_wp2_with fail
  obtain ⟨a0, a1⟩ := K0.out.pair
  generalize w.alloc (.cells #[.slice A n c, .slice B m c2] 25) = W0 at *
  refine (szCalendar_yes _ A n c f B m c2 dy hr (H.out.call K0.out.below) hs).mono ?_; rintro e w1 ⟨rfl, hb1⟩
  have K1 := Lib.hid (Kept.call hb1 K0.out)
  clear hb1 a0 a1
  obtain ⟨a0, a1⟩ := K1.out.pair
  go_wp2_with fail
  refine (toCalendar_any _ A n c f B m c2 dy hr (H.out.call K1.out.below) (by omega) (by omega)).mono ?_; rintro e w2 ⟨g1, g2, rfl, hc2, hb2⟩
  have K2 := Lib.hid (Kept.call hb2 K1.out)
  have C2 := Lib.hid hc2
  clear hb2 hc2 a0 a1
  obtain ⟨a0, a1⟩ := K2.out.pair
  go_wp2_with fail
  refine (HS.out _ _ _ _ _ C2.out).mono ?_; rintro e w3 ⟨rfl, hb3⟩
  have K3 := Lib.hid (Kept.call hb3 K2.out)
  clear hb3 a0 a1
  obtain ⟨a0, a1⟩ := K3.out.pair
  go_wp2_with fail
  refine (toCalendar_any _ A n c f B m c2 dy hr (H.out.call K3.out.below) (by omega) (by omega)).mono ?_; rintro e w4 ⟨g3, g4, rfl, hc4, hb4⟩
  have K4 := Lib.hid (Kept.call hb4 K3.out)
  have C4 := Lib.hid hc4
  clear hb4 hc4 a0 a1
  go_wp2_with fail
  have C5 := Lib.hid (C4.out.call ((Below.refl w4.heap.size w4).alloc (Nat.le_refl _) (.cells #[.slice (some ⟨g3, 0, none⟩) n n, .slice (some ⟨g4, 0, none⟩) m m] 30)))
  have K5 : Hid (Kept w [(⟨w4.heap.size, 0, none⟩, .slice (some ⟨g3, 0, none⟩) n n), (⟨w4.heap.size, 1, none⟩, .slice (some ⟨g4, 0, none⟩) m m), (⟨w.heap.size, 0, none⟩, .slice A n c), (⟨w.heap.size, 1, none⟩, .slice B m c2)] (w4.alloc (.cells #[.slice (some ⟨g3, 0, none⟩) n n, .slice (some ⟨g4, 0, none⟩) m m] 30))) :=
    Lib.hid (Kept.cons (Kept.cons (K4.out.alloc _) (by simp) (by simp [World.cell?_alloc_new])) (by simp) (by simp [World.cell?_alloc_new]))
  generalize w4.alloc (.cells #[.slice (some ⟨g3, 0, none⟩) n n, .slice (some ⟨g4, 0, none⟩) m m] 30) = X4 at *
  generalize w4.heap.size = gx at *
  refine (HI.out _ _ _ _ _ C5.out).mono ?_; rintro e w6 ⟨rfl, hb6⟩
  have K6 := Lib.hid (Kept.call hb6 K5.out)
  have C6 := Lib.hid (C5.out.call hb6)
  clear hb6
  obtain ⟨b0, b1, a0, a1, _⟩ := K6.out.four
  go_wp2_with fail
  have HCAL : Hid (∀ W, Below w6.heap.size w6 W → CalF W A n c f B m c2 dy hr) := Lib.hid (fun W hb => H.out.call (K6.out.below.trans (hb.mono K6.out.below.size)))
  have HX0 : Hid (∀ W, Below w6.heap.size w6 W → CalF W (some ⟨g3, 0, none⟩) n n f (some ⟨g4, 0, none⟩) m m dy hr) := Lib.hid (fun W hb => C6.out.call hb)
  have lx : gx < w6.heap.size := K6.out.lt (⟨gx, 0, none⟩, .slice (some ⟨g3, 0, none⟩) n n) (by simp)
  go_region_with (first | (go_at_call 15; refine (toCalendar_any _ A n c f B m c2 dy hr (HCAL.out _ (by repeat' (first | (with_reducible exact Below.refl _ _) | assumption | (with_reducible refine below_then (by assumption) ?_ ?_) | (with_reducible refine Below.alloc ?_ ?_ _) | (with_reducible refine below_drewN ?_ _) | (with_reducible refine Below.drew ?_) | (with_reducible refine Below.setCell ?_ ?_ _) | omega | (simp; done) | (simp; omega)))) (by omega) (by omega)).mono ?_; rintro e w7 ⟨g5, g6, rfl, hc7, hb7⟩; have r0 := (hb7.cell (p := ⟨gx, 0, none⟩) lx).trans b0; have r1 := (hb7.cell (p := ⟨gx, 1, none⟩) lx).trans b1; have z7 : w6.heap.size ≤ w7.heap.size := hb7.size) | (go_at_call 17; refine (eqCalendar_same _ _ _ _ _ n _ _ m _ _ f dy hr (HX0.out _ (by repeat' (first | (with_reducible exact Below.refl _ _) | assumption | (with_reducible refine below_then (by assumption) ?_ ?_) | (with_reducible refine Below.alloc ?_ ?_ _) | (with_reducible refine below_drewN ?_ _) | (with_reducible refine Below.drew ?_) | (with_reducible refine Below.setCell ?_ ?_ _) | omega | (simp; done) | (simp; omega)))) (CalF.call (by assumption) (by repeat' (first | (with_reducible exact Below.refl _ _) | assumption | (with_reducible refine below_then (by assumption) ?_ ?_) | (with_reducible refine Below.alloc ?_ ?_ _) | (with_reducible refine below_drewN ?_ _) | (with_reducible refine Below.drew ?_) | (with_reducible refine Below.setCell ?_ ?_ _) | omega | (simp; done) | (simp; omega))))).mono ?_; rintro e w8 ⟨rfl, hb8⟩))
  all_goals (go_wp2_with fail; go_ret; exact ⟨rfl, K6.out.below.trans (Below.mono (by repeat' (first | (with_reducible exact Below.refl _ _) | assumption | (with_reducible refine below_then (by assumption) ?_ ?_) | (with_reducible refine Below.alloc ?_ ?_ _) | (with_reducible refine below_drewN ?_ _) | (with_reducible refine Below.drew ?_) | (with_reducible refine Below.setCell ?_ ?_ _) | omega | (simp; done) | (simp; omega)) : Below w6.heap.size w6 _) K6.out.below.size)⟩)

theorem big_IsCalendar (w : World) (A : Option Addr) (n c : Nat) (f : Nat → Int) (B : Option Addr) (m c2 : Nat) (dy hr : Nat → Int) (h : CalF w A n c f B m c2 dy hr) (hs : ¬ n + m ≤ 1048576) :
    Calls Try.prog 3 #[.agg #[.slice A n c, .slice B m c2]] w fun e w' => e = .returned (.bool true) ∧ Below w.heap.size w w' := by
  have K0 := Lib.hid (cal_boxed w A n c B m c2 25)
  have H := Lib.hid h
  clear h
  go_enter Try.func3, Try.ntmps3
  go_wp2_with fail
  refine (szCalendar_no _ A n c f B m c2 dy hr (H.out.call K0.out.below) hs).mono ?_; rintro e w1 ⟨rfl, hb1⟩
  have K1 := Lib.hid (Kept.call hb1 K0.out)
  go_wp2_with fail
  go_ret
  exact ⟨rfl, K1.out.below⟩
theorem law_IsCalendar (w : World) (A : Option Addr) (n c : Nat) (f : Nat → Int) (B : Option Addr) (m c2 : Nat) (dy hr : Nat → Int) (h : CalF w A n c f B m c2 dy hr) :
    Calls Try.prog 3 #[.agg #[.slice A n c, .slice B m c2]] w fun e w' => e = .returned (.bool true) ∧ Below w.heap.size w w' := by
  by_cases hs : n + m ≤ 1048576
  case neg => exact big_IsCalendar w A n c f B m c2 dy hr h hs
  exact shape_IsCalendar w A n c f B m c2 dy hr h _ hs (fun W X Y d e hx => spec_isCalendar W X n d f Y m e dy hr hx) (fun W X Y d e hx => impl_isCalendar W X n d f Y m e dy hr hx)
end Go.Proofs.Ytkbmlpnfdogioaa
