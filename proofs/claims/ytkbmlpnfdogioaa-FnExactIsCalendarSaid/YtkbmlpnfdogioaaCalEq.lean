/-
  Contracts of eqCalendar and szCalendar.
-/
import Derived.Test.YtkbmlpnfdogioaaCalConv
namespace Go.Proofs.Ytkbmlpnfdogioaa
open Go.RowKit Go.Sort
set_option linter.unusedVariables false
set_option linter.unusedSimpArgs false

theorem eqCalendar_same (w : World) (A B A' B' : Option Addr) (n c c' m c2 c2' : Nat) (f dy hr : Nat → Int) (h : CalF w A n c f B m c2 dy hr) (h' : CalF w A' n c' f B' m c2' dy hr) :
    Calls Try.prog 17 #[.agg #[.slice A n c, .slice B m c2], .agg #[.slice A' n c', .slice B' m c2']] w fun e w' => e = .returned (.bool true) ∧ Below w.heap.size w w' := by
  have H := Lib.hid h
  have H' := Lib.hid h'
  clear h h'
  go_enter Try.func17, Try.ntmps17
  go_wp2_with fail
  refine (eqIntS_same _ _ _ _ _ _ _ _ ((H.out.week.alloc _).alloc _) ((H'.out.week.alloc _).alloc _) (fun i hi => rfl)).mono ?_
  rintro e w1 ⟨rfl, m1, rfl⟩
  go_wp2_with fail
  refine (eqExceptionS_same _ _ _ _ _ _ _ _ (((H.out.exc.alloc _).alloc _).drewN _) (((H'.out.exc.alloc _).alloc _).drewN _)).mono ?_
  rintro e w2 ⟨rfl, hb2⟩
  go_wp2_with fail
  go_ret
  exact ⟨rfl, by repeat' (first | (with_reducible exact Below.refl _ _) | assumption | (with_reducible refine below_then (by assumption) ?_ ?_) | (with_reducible refine Below.alloc ?_ ?_ _) | (with_reducible refine below_drewN ?_ _) | (with_reducible refine Below.drew ?_) | (with_reducible refine Below.setCell ?_ ?_ _) | omega | (simp; done) | (simp; omega))⟩
theorem szIntS_yes (w : World) (A : Option Addr) (n c : Nat) (k : Int) (hk : k ≤ 1048576) (hn : (n : Int) ≤ k) :
    Calls Try.prog 33 #[.slice A n c, .int .i64 k] w fun e w' => e = .returned (.int .i64 (k - n)) ∧ w' = w := by
  have h1 : ¬ k - (n : Int) < 0 := by omega
  go_enter Try.func33, Try.ntmps33
  go_wp2_with fail
  go_ret
  exact ⟨rfl, rfl⟩
theorem szIntS_no (w : World) (A : Option Addr) (n c : Nat) (k : Int) (hk : k ≤ 1048576) (hk0 : 0 ≤ k) (hm : n ≤ 9223372036854775807) (hn : ¬ (n : Int) ≤ k) :
    Calls Try.prog 33 #[.slice A n c, .int .i64 k] w fun e w' => e = .returned (.int .i64 (-1)) ∧ w' = w := by
  have h1 : k - (n : Int) < 0 := by omega
  go_enter Try.func33, Try.ntmps33
  go_wp2_with fail
  go_ret
  exact ⟨rfl, rfl⟩
theorem szExceptionS_yes (w : World) (A : Option Addr) (n c : Nat) (k : Int) (hk : k ≤ 1048576) (hn : (n : Int) ≤ k) :
    Calls Try.prog 34 #[.slice A n c, .int .i64 k] w fun e w' => e = .returned (.int .i64 (k - n)) ∧ w' = w := by
  have h1 : ¬ k - (n : Int) < 0 := by omega
  go_enter Try.func34, Try.ntmps34
  go_wp2_with fail
  go_ret
  exact ⟨rfl, rfl⟩
theorem szExceptionS_no (w : World) (A : Option Addr) (n c : Nat) (k : Int) (hk : k ≤ 1048576) (hk0 : 0 ≤ k) (hm : n ≤ 9223372036854775807) (hn : ¬ (n : Int) ≤ k) :
    Calls Try.prog 34 #[.slice A n c, .int .i64 k] w fun e w' => e = .returned (.int .i64 (-1)) ∧ w' = w := by
  have h1 : k - (n : Int) < 0 := by omega
  go_enter Try.func34, Try.ntmps34
  go_wp2_with fail
  go_ret
  exact ⟨rfl, rfl⟩
theorem szCalendar_yes (w : World) (A : Option Addr) (n c : Nat) (f : Nat → Int) (B : Option Addr) (m c2 : Nat) (dy hr : Nat → Int) (h : CalF w A n c f B m c2 dy hr) (hs : n + m ≤ 1048576) :
    Calls Try.prog 13 #[.agg #[.slice A n c, .slice B m c2], .int .i64 1048576] w fun e w' => e = .returned (.int .i64 (1048576 - n - m)) ∧ Below w.heap.size w w' := by
  have h1 : ¬ (1048576 : Int) - (n : Int) < 0 := by omega
  have h2 : ¬ (1048576 : Int) - (n : Int) - (m : Int) < 0 := by omega
  clear h
  go_enter Try.func13, Try.ntmps13
  go_wp2_with fail
  refine (szIntS_yes _ _ _ _ _ (by omega) (by omega)).mono ?_; rintro e w' ⟨rfl, hw'⟩; obtain rfl := hw'.symm
  go_wp2_with fail
  refine (szExceptionS_yes _ _ _ _ _ (by omega) (by omega)).mono ?_; rintro e w' ⟨rfl, hw'⟩; obtain rfl := hw'.symm
  go_wp2_with fail
  go_ret
  exact ⟨rfl, (Below.refl _ _).alloc (Nat.le_refl _) _⟩
theorem szCalendar_no (w : World) (A : Option Addr) (n c : Nat) (f : Nat → Int) (B : Option Addr) (m c2 : Nat) (dy hr : Nat → Int) (h : CalF w A n c f B m c2 dy hr) (hs : ¬ n + m ≤ 1048576) :
    Calls Try.prog 13 #[.agg #[.slice A n c, .slice B m c2], .int .i64 1048576] w fun e w' => e = .returned (.int .i64 (-1)) ∧ Below w.heap.size w w' := by
  have hn : n ≤ 9223372036854775807 := by have := h.week.max; have := h.week.le; omega
  have hm : m ≤ 9223372036854775807 := by have := h.exc.max; have := h.exc.le; omega
  clear h
  by_cases hnn : n ≤ 1048576
  · have h1 : ¬ (1048576 : Int) - (n : Int) < 0 := by omega
    go_enter Try.func13, Try.ntmps13
    go_wp2_with fail
    refine (szIntS_yes _ _ _ _ _ (by omega) (by omega)).mono ?_; rintro e w' ⟨rfl, hw'⟩; obtain rfl := hw'.symm
    go_wp2_with fail
    refine (szExceptionS_no _ _ _ _ _ (by omega) (by omega) hm (by omega)).mono ?_; rintro e w' ⟨rfl, hw'⟩; obtain rfl := hw'.symm
    go_wp2_with fail
    go_ret
    exact ⟨rfl, (Below.refl _ _).alloc (Nat.le_refl _) _⟩
  · go_enter Try.func13, Try.ntmps13
    go_wp2_with fail
    refine (szIntS_no _ _ _ _ _ (by omega) (by omega) hn (by omega)).mono ?_; rintro e w' ⟨rfl, hw'⟩; obtain rfl := hw'.symm
    go_wp2_with fail
    go_ret
    exact ⟨rfl, (Below.refl _ _).alloc (Nat.le_refl _) _⟩
end Go.Proofs.Ytkbmlpnfdogioaa
