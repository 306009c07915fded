/-
  Equality of models' copies: eqOption, eqOptionS, eqCondNodeSS, eqModel. (Printed by gen/model5.py.)
-/
import Derived.Test.YtkkhaamklbolmaaModel2
namespace Go.Proofs.Ytkkhaamklbolmaa
open Go.RowKit Go.Sort
set_option linter.unusedVariables false
set_option linter.unusedSimpArgs false

set_option maxHeartbeats 1000000 in
theorem eqOption_same (s : ByteArray) (A A' : Option Addr) (n c c' : Nat) (f : Nat → ByteArray) (w : World) (h : StrsF w A n c f) (h' : StrsF w A' n c' f) :
    Calls Try.prog 102 #[.agg #[.string s, .slice A n c], .agg #[.string s, .slice A' n c']] w fun e w' => e = .returned (.bool true) ∧ Below w.heap.size w w' := by
  have e_s : (s.toList != s.toList) = false := by simp
  have H := Lib.hid h
  have H' := Lib.hid h'
  clear h h'
  go_enter Try.func102, Try.ntmps102
  go_wp2_with fail
  refine (eqStringS_same _ A A' n c c' f (H.out.call (by repeat' (first | (with_reducible exact Below.refl _ _) | assumption | (with_reducible refine below_then (by assumption) ?_ ?_) | (with_reducible refine Below.alloc ?_ ?_ _) | (with_reducible refine below_drewN ?_ _) | (with_reducible refine Below.drew ?_) | (with_reducible refine Below.setCell ?_ ?_ _) | omega | (simp; done) | (simp; omega)))) (H'.out.call (by repeat' (first | (with_reducible exact Below.refl _ _) | assumption | (with_reducible refine below_then (by assumption) ?_ ?_) | (with_reducible refine Below.alloc ?_ ?_ _) | (with_reducible refine below_drewN ?_ _) | (with_reducible refine Below.drew ?_) | (with_reducible refine Below.setCell ?_ ?_ _) | omega | (simp; done) | (simp; omega))))).mono ?_; rintro e w1 ⟨rfl, m, rfl⟩
  go_wp2_with fail
  go_ret
  exact ⟨rfl, by repeat' (first | (with_reducible exact Below.refl _ _) | assumption | (with_reducible refine below_then (by assumption) ?_ ?_) | (with_reducible refine Below.alloc ?_ ?_ _) | (with_reducible refine below_drewN ?_ _) | (with_reducible refine Below.drew ?_) | (with_reducible refine Below.setCell ?_ ?_ _) | omega | (simp; done) | (simp; omega))⟩
set_option maxHeartbeats 1000000 in
theorem eqOptionS_same (w : World) (A A' : Option Addr) (n c c' : Nat) (D : OptD) (P P' : Loc) (h : OptsF w A n c D P) (h' : OptsF w A' n c' D P') :
    Calls Try.prog 85 #[.slice A n c, .slice A' n c'] w fun e w' => e = .returned (.bool true) ∧ Below w.heap.size w w' := by
  have hm := h.le
  have H := Lib.hid h
  have H' := Lib.hid h'
  clear h h'
  go_enter Try.func85, Try.ntmps85
  go_wp2_with fail
  go_loopw [5] (fun i wr => ∃ k : Nat, k ≤ n ∧ i = .int .i64 (k : Int) ∧ Below w.heap.size w wr) (fun i _ => n - (intOf i).toNat)
  case atStart => exact ⟨0, Nat.zero_le _, rfl, Below.refl _ _⟩
  case round =>
    obtain ⟨k, hk, rfl, hbel⟩ := hrel
    have BE := Lib.hid hbel
    clear hbel
    by_cases hlt : k < n
    · have hlt' : (k : Int) < (n : Int) := by omega
      have HW := Lib.hid (H.out.call BE.out)
      have HW' := Lib.hid (H'.out.call BE.out)
      obtain ⟨b, o, rfl, hB, c0, c1⟩ := HW.out.cells hlt
      obtain ⟨b', o', rfl, hB', d0, d1⟩ := HW'.out.cells hlt
      have gc0 := fun d os => cell_regrown c0 d os
      have gd0 := fun d os => cell_regrown d0 d os
      have gc1 := fun d os => cell_regrown c1 d os
      have gd1 := fun d os => cell_regrown d1 d os
      have EQ := Lib.hid (fun (d : Nat) (os : Array Obj) => eqOption_same (D.nm k) (P.A k) (P'.A k) (D.n k) (P.c k) (P'.c k) (D.vs k) (grow (redrawn wr d) os) ((HW.out.vals k hlt).call (below_regrown wr d os)) ((HW'.out.vals k hlt).call (below_regrown wr d os)))
      go_wp2_with fail
      refine wp_region_quiet_below (by kernel_rfl) (by kernel_rfl) ?_
      repeat (first | go_big_quiet_step ((go_at_call 102; exact Calls.regrown_of (EQ.out _ _))) | quiet_step ((go_at_call 102; exact Calls.regrown_of (EQ.out _ _))))
      refine wpQuiet_nil ?_
      intro _ hw'
      obtain ⟨⟨dq, osq⟩, hw''⟩ := hw'
      subst hw''
      have BE2 := Lib.hid (BE.out.trans ((below_regrown wr dq osq).mono BE.out.size))
      go_wp2_with fail
      go_roundw
      case rel => exact ⟨k + 1, by omega, by go_num, BE2.out⟩
      case measure => simp [intOf]; omega
    · obtain rfl : k = n := by omega
      have hlt' : ¬ (k : Int) < (k : Int) := by omega
      go_wp2_with fail
      go_ret
      exact ⟨rfl, BE.out⟩
set_option maxHeartbeats 1000000 in
theorem eqCondNodeSS_same (w : World) (A A' : Option Addr) (n c c' : Nat) (D : RulD) (P P' : Loc) (h : RulsF w A n c D P) (h' : RulsF w A' n c' D P') :
    Calls Try.prog 86 #[.slice A n c, .slice A' n c'] w fun e w' => e = .returned (.bool true) ∧ Below w.heap.size w w' := by
  have hm := h.le
  have H := Lib.hid h
  have H' := Lib.hid h'
  clear h h'
  go_enter Try.func86, Try.ntmps86
  go_wp2_with fail
  go_loopw [5] (fun i wr => ∃ k : Nat, k ≤ n ∧ i = .int .i64 (k : Int) ∧ Below w.heap.size w wr) (fun i _ => n - (intOf i).toNat)
  case atStart => exact ⟨0, Nat.zero_le _, rfl, Below.refl _ _⟩
  case round =>
    obtain ⟨k, hk, rfl, hbel⟩ := hrel
    have BE := Lib.hid hbel
    clear hbel
    by_cases hlt : k < n
    · have hlt' : (k : Int) < (n : Int) := by omega
      have HW := Lib.hid (H.out.call BE.out)
      have HW' := Lib.hid (H'.out.call BE.out)
      obtain ⟨b, o, rfl, hB, c0⟩ := HW.out.cell hlt
      obtain ⟨b', o', rfl, hB', d0⟩ := HW'.out.cell hlt
      have gc0 := fun d os => cell_regrown c0 d os
      have gd0 := fun d os => cell_regrown d0 d os
      have EQ := Lib.hid (fun (d : Nat) (os : Array Obj) => eqCondNodeS_same (grow (redrawn wr d) os) (P.A k) (P'.A k) (D.n k) (P.c k) (P'.c k) (D.kd k) (D.op k) (D.vl k) ((HW.out.conds k hlt).call (below_regrown wr d os)) ((HW'.out.conds k hlt).call (below_regrown wr d os)))
      go_wp2_with fail
      refine wp_region_quiet_below (by kernel_rfl) (by kernel_rfl) ?_
      repeat (first | go_big_quiet_step ((go_at_call 17; exact Calls.regrown_of (EQ.out _ _))) | quiet_step ((go_at_call 17; exact Calls.regrown_of (EQ.out _ _))))
      refine wpQuiet_nil ?_
      intro _ hw'
      obtain ⟨⟨dq, osq⟩, hw''⟩ := hw'
      subst hw''
      have BE2 := Lib.hid (BE.out.trans ((below_regrown wr dq osq).mono BE.out.size))
      go_wp2_with fail
      go_roundw
      case rel => exact ⟨k + 1, by omega, by go_num, BE2.out⟩
      case measure => simp [intOf]; omega
    · obtain rfl : k = n := by omega
      have hlt' : ¬ (k : Int) < (k : Int) := by omega
      go_wp2_with fail
      go_ret
      exact ⟨rfl, BE.out⟩
set_option maxHeartbeats 1000000 in
theorem eqModel_same (w : World) (A A' : Option Addr) (n c c' : Nat) (D : OptD) (P P' : Loc) (A2 A2' : Option Addr) (m d d' : Nat) (E : RulD) (Q Q' : Loc) (h : OptsF w A n c D P) (h' : OptsF w A' n c' D P') (h2 : RulsF w A2 m d E Q) (h2' : RulsF w A2' m d' E Q') :
    Calls Try.prog 46 #[.agg #[.slice A n c, .slice A2 m d], .agg #[.slice A' n c', .slice A2' m d']] w fun e w' => e = .returned (.bool true) ∧ Below w.heap.size w w' := by
  have H := Lib.hid h
  have H' := Lib.hid h'
  have H2 := Lib.hid h2
  have H2' := Lib.hid h2'
  clear h h' h2 h2'
  go_enter Try.func46, Try.ntmps46
  go_wp2_with fail
  refine (eqOptionS_same _ A A' n c c' D P P' (H.out.call (by repeat' (first | (with_reducible exact Below.refl _ _) | assumption | (with_reducible refine below_then (by assumption) ?_ ?_) | (with_reducible refine Below.alloc ?_ ?_ _) | (with_reducible refine below_drewN ?_ _) | (with_reducible refine Below.drew ?_) | (with_reducible refine Below.setCell ?_ ?_ _) | omega | (simp; done) | (simp; omega)))) (H'.out.call (by repeat' (first | (with_reducible exact Below.refl _ _) | assumption | (with_reducible refine below_then (by assumption) ?_ ?_) | (with_reducible refine Below.alloc ?_ ?_ _) | (with_reducible refine below_drewN ?_ _) | (with_reducible refine Below.drew ?_) | (with_reducible refine Below.setCell ?_ ?_ _) | omega | (simp; done) | (simp; omega))))).mono ?_; rintro e w1 ⟨rfl, b1⟩
  have B1 := Lib.hid (show Below w.heap.size w w1 from by repeat' (first | (with_reducible exact Below.refl _ _) | assumption | (with_reducible refine below_then (by assumption) ?_ ?_) | (with_reducible refine Below.alloc ?_ ?_ _) | (with_reducible refine below_drewN ?_ _) | (with_reducible refine Below.drew ?_) | (with_reducible refine Below.setCell ?_ ?_ _) | omega | (simp; done) | (simp; omega)))
  have c0 : w1.cell? ⟨w.heap.size, 1, none⟩ = some (.slice A2 m d) := by rw [b1.cell (p := ⟨w.heap.size, 1, none⟩) (by go_size)]; first | (simp [go_sem]; done) | (simp [go_sem, *]; done)
  have c1 : w1.cell? ⟨w.heap.size + 1, 1, none⟩ = some (.slice A2' m d') := by rw [b1.cell (p := ⟨w.heap.size + 1, 1, none⟩) (by go_size)]; first | (simp [go_sem]; done) | (simp [go_sem, *]; done)
  clear b1
  go_wp2_with fail
  refine (eqCondNodeSS_same _ A2 A2' m d d' E Q Q' (H2.out.call B1.out) (H2'.out.call B1.out)).mono ?_; rintro e w2 ⟨rfl, b2⟩
  have B2 := Lib.hid (B1.out.trans (b2.mono B1.out.size))
  clear b2
  go_wp2_with fail
  go_ret
  exact ⟨rfl, B2.out⟩
end Go.Proofs.Ytkkhaamklbolmaa
