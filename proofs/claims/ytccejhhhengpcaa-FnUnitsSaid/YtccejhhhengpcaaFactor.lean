/-
  Contracts of FactorOf and UnitsFrom, of the reference and of the program. (Printed by gen/factor.py.)
-/
import Derived.Test.YtccejhhhengpcaaUnitTable
namespace Go.Proofs.Ytccejhhhengpcaa
open Go.RowKit num
set_option linter.unusedVariables false
set_option linter.unusedSimpArgs false

theorem fac_table {T : Tab} (a b : ByteArray) (h : tableB T = false) : facOf T a b = ((0, 0), false) := by unfold facOf; rw [if_neg (by rw [h]; simp)]
theorem fac_from {T : Tab} (a b : ByteArray) (h : isC a = false) : facOf T a b = ((0, 0), false) := by unfold facOf; rw [if_neg (by rw [h]; simp)]
theorem fac_to {T : Tab} (a b : ByteArray) (h : isC b = false) : facOf T a b = ((0, 0), false) := by unfold facOf; rw [if_neg (by rw [h]; simp)]
theorem fac_neg {T : Tab} (a b : ByteArray) (h : fndV (nmF (srch T a)) b (srch T a).length < 0) : facOf T a b = ((0, 0), false) := by unfold facOf; rw [if_neg (fun q => q.2.2.2 h)]
theorem fac_pos {T : Tab} (a b : ByteArray) (h1 : tableB T = true) (h2 : isC a = true) (h3 : isC b = true) {j : Nat} (h : fndV (nmF (srch T a)) b (srch T a).length = (j : Int)) : facOf T a b = (faF (srch T a) j, true) := by
  unfold facOf; rw [if_pos ⟨h1, h2, h3, by rw [h]; omega⟩, h]; rfl
theorem units_table {T : Tab} (a : ByteArray) (h : tableB T = false) : unitsOf T a = [] := by unfold unitsOf; rw [if_neg (by rw [h]; simp)]
theorem units_from {T : Tab} (a : ByteArray) (h : isC a = false) : unitsOf T a = [] := by unfold unitsOf; rw [if_neg (by rw [h]; simp)]
theorem units_yes {T : Tab} (a : ByteArray) (h : tableB T = true) (h2 : isC a = true) : unitsOf T a = srch T a := by unfold unitsOf; rw [if_pos ⟨h, h2⟩]

set_option maxHeartbeats 1000000 in
theorem spec_FactorOf_no1 (w : World) (A : Option Addr) (n c : Nat) (fr to : Nat → ByteArray) (nu de : Nat → Int) (h : UnitRuleF w A n c fr to nu de) (hn20 : n ≤ 1048576) (a b : ByteArray) (za : a.size ≤ 9223372036854775807) (zb : b.size ≤ 9223372036854775807) (ht : tableB (tb n fr to nu de) = false) :
    Calls Try.prog 15 #[.slice A n c, .string a, .string b] w fun e w' => e = .returned (.tuple #[.agg #[.int .i64 (facOf (tb n fr to nu de) a b).1.1, .int .i64 (facOf (tb n fr to nu de) a b).1.2], .bool (facOf (tb n fr to nu de) a b).2]) ∧ Below w.heap.size w w' := by
  have H := Lib.hid h
  clear h
  obtain ⟨T, hT⟩ : ∃ T, T = tb n fr to nu de := ⟨_, rfl⟩
  have HT := Lib.hid hT
  have TAB := Lib.hid (fun (W : World) (hx : UnitRuleF W A n c fr to nu de) => spec_IsUnitTable W A n c fr to nu de hx hn20)
  rw [← hT] at TAB ht ⊢
  clear hT
  rw [fac_table a b ht]
  go_enter Try.func15, Try.ntmps15
  go_wp2_with fail
  refine (TAB.out _ (H.out.call ((Below.refl _ _).alloc (Nat.le_refl _) _))).mono ?_; rintro e w1 ⟨rfl, b1⟩
  rw [ht]
  have BX1 := Lib.hid (Row.call (row_lit w #[.int .i64 0, .int .i64 0] 30 2 (boxF (0, 0)) (by decide) (fun i hi => by unfold boxF; rcases (by omega : i = 0 ∨ i = 1) with rfl | rfl <;> rfl)) b1)
  have B1 := Lib.hid (show Below w.heap.size w w1 from ((Below.refl _ _).alloc (Nat.le_refl _) _).trans (b1.mono (by simp)))
  clear b1 TAB
  have k0 : w1.cell? ⟨w.heap.size, 0, none⟩ = some (.int .i64 0) := BX1.out.cell (i := 0) (by omega)
  have k1 : w1.cell? ⟨w.heap.size, 1, none⟩ = some (.int .i64 0) := BX1.out.cell (i := 1) (by omega)
  have z0 := BX1.out.frozen 0
  have z1 := BX1.out.frozen 1
  go_wp2_with fail
  refine bodyPost_ret (by simp [results, Try.results15, go_sem, k0, k1]; try rfl) rfl ?_
  exact ⟨rfl, by have h := B1.out; repeat' (first | (with_reducible exact Below.refl _ _) | assumption | (with_reducible refine below_then (by assumption) ?_ ?_) | (with_reducible refine Below.alloc ?_ ?_ _) | (with_reducible refine below_drewN ?_ _) | (with_reducible refine Below.drew ?_) | (with_reducible refine Below.setCell ?_ ?_ _) | (have := h.size; simp at *; omega) | omega | (simp; done) | (simp; omega))⟩
set_option maxHeartbeats 1000000 in
theorem spec_FactorOf_no2 (w : World) (A : Option Addr) (n c : Nat) (fr to : Nat → ByteArray) (nu de : Nat → Int) (h : UnitRuleF w A n c fr to nu de) (hn20 : n ≤ 1048576) (a b : ByteArray) (za : a.size ≤ 9223372036854775807) (zb : b.size ≤ 9223372036854775807) (ht : tableB (tb n fr to nu de) = true) (h1 : isC a = false) :
    Calls Try.prog 15 #[.slice A n c, .string a, .string b] w fun e w' => e = .returned (.tuple #[.agg #[.int .i64 (facOf (tb n fr to nu de) a b).1.1, .int .i64 (facOf (tb n fr to nu de) a b).1.2], .bool (facOf (tb n fr to nu de) a b).2]) ∧ Below w.heap.size w w' := by
  have H := Lib.hid h
  clear h
  obtain ⟨T, hT⟩ : ∃ T, T = tb n fr to nu de := ⟨_, rfl⟩
  have HT := Lib.hid hT
  have TAB := Lib.hid (fun (W : World) (hx : UnitRuleF W A n c fr to nu de) => spec_IsUnitTable W A n c fr to nu de hx hn20)
  rw [← hT] at TAB ht ⊢
  clear hT
  rw [fac_from a b h1]
  go_enter Try.func15, Try.ntmps15
  go_wp2_with fail
  refine (TAB.out _ (H.out.call ((Below.refl _ _).alloc (Nat.le_refl _) _))).mono ?_; rintro e w1 ⟨rfl, b1⟩
  rw [ht]
  have BX1 := Lib.hid (Row.call (row_lit w #[.int .i64 0, .int .i64 0] 30 2 (boxF (0, 0)) (by decide) (fun i hi => by unfold boxF; rcases (by omega : i = 0 ∨ i = 1) with rfl | rfl <;> rfl)) b1)
  have B1 := Lib.hid (show Below w.heap.size w w1 from ((Below.refl _ _).alloc (Nat.le_refl _) _).trans (b1.mono (by simp)))
  clear b1 TAB
  have k0 : w1.cell? ⟨w.heap.size, 0, none⟩ = some (.int .i64 0) := BX1.out.cell (i := 0) (by omega)
  have k1 : w1.cell? ⟨w.heap.size, 1, none⟩ = some (.int .i64 0) := BX1.out.cell (i := 1) (by omega)
  have z0 := BX1.out.frozen 0
  have z1 := BX1.out.frozen 1
  go_wp2_with fail
  refine (spec_isCode a _ za).mono ?_; rintro e w2 ⟨rfl, hw2⟩; obtain rfl := hw2.symm
  rw [h1]
  go_wp2_with fail
  refine bodyPost_ret (by simp [results, Try.results15, go_sem, k0, k1]; try rfl) rfl ?_
  exact ⟨rfl, by have h := B1.out; repeat' (first | (with_reducible exact Below.refl _ _) | assumption | (with_reducible refine below_then (by assumption) ?_ ?_) | (with_reducible refine Below.alloc ?_ ?_ _) | (with_reducible refine below_drewN ?_ _) | (with_reducible refine Below.drew ?_) | (with_reducible refine Below.setCell ?_ ?_ _) | (have := h.size; simp at *; omega) | omega | (simp; done) | (simp; omega))⟩
set_option maxHeartbeats 1000000 in
theorem spec_FactorOf_no3 (w : World) (A : Option Addr) (n c : Nat) (fr to : Nat → ByteArray) (nu de : Nat → Int) (h : UnitRuleF w A n c fr to nu de) (hn20 : n ≤ 1048576) (a b : ByteArray) (za : a.size ≤ 9223372036854775807) (zb : b.size ≤ 9223372036854775807) (ht : tableB (tb n fr to nu de) = true) (h1 : isC a = true) (h2 : isC b = false) :
    Calls Try.prog 15 #[.slice A n c, .string a, .string b] w fun e w' => e = .returned (.tuple #[.agg #[.int .i64 (facOf (tb n fr to nu de) a b).1.1, .int .i64 (facOf (tb n fr to nu de) a b).1.2], .bool (facOf (tb n fr to nu de) a b).2]) ∧ Below w.heap.size w w' := by
  have H := Lib.hid h
  clear h
  obtain ⟨T, hT⟩ : ∃ T, T = tb n fr to nu de := ⟨_, rfl⟩
  have HT := Lib.hid hT
  have TAB := Lib.hid (fun (W : World) (hx : UnitRuleF W A n c fr to nu de) => spec_IsUnitTable W A n c fr to nu de hx hn20)
  rw [← hT] at TAB ht ⊢
  clear hT
  rw [fac_to a b h2]
  go_enter Try.func15, Try.ntmps15
  go_wp2_with fail
  refine (TAB.out _ (H.out.call ((Below.refl _ _).alloc (Nat.le_refl _) _))).mono ?_; rintro e w1 ⟨rfl, b1⟩
  rw [ht]
  have BX1 := Lib.hid (Row.call (row_lit w #[.int .i64 0, .int .i64 0] 30 2 (boxF (0, 0)) (by decide) (fun i hi => by unfold boxF; rcases (by omega : i = 0 ∨ i = 1) with rfl | rfl <;> rfl)) b1)
  have B1 := Lib.hid (show Below w.heap.size w w1 from ((Below.refl _ _).alloc (Nat.le_refl _) _).trans (b1.mono (by simp)))
  clear b1 TAB
  have k0 : w1.cell? ⟨w.heap.size, 0, none⟩ = some (.int .i64 0) := BX1.out.cell (i := 0) (by omega)
  have k1 : w1.cell? ⟨w.heap.size, 1, none⟩ = some (.int .i64 0) := BX1.out.cell (i := 1) (by omega)
  have z0 := BX1.out.frozen 0
  have z1 := BX1.out.frozen 1
  go_wp2_with fail
  refine (spec_isCode a _ za).mono ?_; rintro e w2 ⟨rfl, hw2⟩; obtain rfl := hw2.symm
  rw [h1]
  go_wp2_with fail
  refine (spec_isCode b _ zb).mono ?_; rintro e w2 ⟨rfl, hw2⟩; obtain rfl := hw2.symm
  rw [h2]
  go_wp2_with fail
  refine bodyPost_ret (by simp [results, Try.results15, go_sem, k0, k1]; try rfl) rfl ?_
  exact ⟨rfl, by have h := B1.out; repeat' (first | (with_reducible exact Below.refl _ _) | assumption | (with_reducible refine below_then (by assumption) ?_ ?_) | (with_reducible refine Below.alloc ?_ ?_ _) | (with_reducible refine below_drewN ?_ _) | (with_reducible refine Below.drew ?_) | (with_reducible refine Below.setCell ?_ ?_ _) | (have := h.size; simp at *; omega) | omega | (simp; done) | (simp; omega))⟩
set_option maxHeartbeats 1000000 in
theorem spec_FactorOf_no4 (w : World) (A : Option Addr) (n c : Nat) (fr to : Nat → ByteArray) (nu de : Nat → Int) (h : UnitRuleF w A n c fr to nu de) (hn20 : n ≤ 1048576) (a b : ByteArray) (za : a.size ≤ 9223372036854775807) (zb : b.size ≤ 9223372036854775807) (ht : tableB (tb n fr to nu de) = true) (h1 : isC a = true) (h2 : isC b = true) (h3 : fndV (nmF (srch (tb n fr to nu de) a)) b (srch (tb n fr to nu de) a).length < 0) :
    Calls Try.prog 15 #[.slice A n c, .string a, .string b] w fun e w' => e = .returned (.tuple #[.agg #[.int .i64 (facOf (tb n fr to nu de) a b).1.1, .int .i64 (facOf (tb n fr to nu de) a b).1.2], .bool (facOf (tb n fr to nu de) a b).2]) ∧ Below w.heap.size w w' := by
  have H := Lib.hid h
  clear h
  obtain ⟨T, hT⟩ : ∃ T, T = tb n fr to nu de := ⟨_, rfl⟩
  have HT := Lib.hid hT
  have TAB := Lib.hid (fun (W : World) (hx : UnitRuleF W A n c fr to nu de) => spec_IsUnitTable W A n c fr to nu de hx hn20)
  rw [← hT] at TAB ht h3 ⊢
  clear hT
  rw [fac_neg a b h3]
  have REACH := Lib.hid (fun (W : World) (hx : UnitRuleF W A n c fr to nu de) => l5Reach_any W A n c fr to nu de hx (by rw [← HT.out]; exact (tableB_iff.1 ht).1) a za)
  rw [← HT.out] at REACH
  have FND := Lib.hid (fun (W : World) (B gu cu gv cv : Nat) (hx : ReachSt B W gu cu gv cv (srch T a)) => l1Find_any W (some ⟨gu, 0, none⟩) (srch T a).length cu (nmF (srch T a)) b (hx.strs (good_size (srch_good T a) za (fun x hx2 => by rw [HT.out] at hx2 ⊢; exact ⟨H.out.z_fr x hx2, H.out.z_to x hx2⟩))))
  generalize fndV (nmF (srch T a)) b (srch T a).length = z at *
  have hd : decide (z < 0) = true := by simpa using h3
  go_enter Try.func15, Try.ntmps15
  go_wp2_with fail
  refine (TAB.out _ (H.out.call ((Below.refl _ _).alloc (Nat.le_refl _) _))).mono ?_; rintro e w1 ⟨rfl, b1⟩
  rw [ht]
  have BX1 := Lib.hid (Row.call (row_lit w #[.int .i64 0, .int .i64 0] 30 2 (boxF (0, 0)) (by decide) (fun i hi => by unfold boxF; rcases (by omega : i = 0 ∨ i = 1) with rfl | rfl <;> rfl)) b1)
  have B1 := Lib.hid (show Below w.heap.size w w1 from ((Below.refl _ _).alloc (Nat.le_refl _) _).trans (b1.mono (by simp)))
  clear b1 TAB
  go_wp2_with fail
  refine (spec_isCode a _ za).mono ?_; rintro e w2 ⟨rfl, hw2⟩; obtain rfl := hw2.symm
  rw [h1]
  go_wp2_with fail
  refine (spec_isCode b _ zb).mono ?_; rintro e w2 ⟨rfl, hw2⟩; obtain rfl := hw2.symm
  rw [h2]
  go_wp2_with fail
  refine (REACH.out _ (H.out.call B1.out)).mono ?_; rintro e w3 ⟨gu, cu, gv, cv, rfl, st3, b3⟩
  have B3 := Lib.hid (B1.out.trans (b3.mono B1.out.size))
  have ST3 := Lib.hid st3
  have BX3 := Lib.hid (BX1.out.call b3)
  clear b3 st3
  go_wp2_with fail
  refine (FND.out _ _ _ _ _ _ ST3.out).mono ?_; rintro e w4 ⟨rfl, hw4⟩; obtain rfl := hw4.symm
  clear FND
  have k0 : w3.cell? ⟨w.heap.size, 0, none⟩ = some (.int .i64 0) := BX3.out.cell (i := 0) (by omega)
  have k1 : w3.cell? ⟨w.heap.size, 1, none⟩ = some (.int .i64 0) := BX3.out.cell (i := 1) (by omega)
  have z0 := BX3.out.frozen 0
  have z1 := BX3.out.frozen 1
  go_wp2_with fail
  refine bodyPost_ret (by simp [results, Try.results15, go_sem, k0, k1]; try rfl) rfl ?_
  exact ⟨rfl, by have h := B3.out; repeat' (first | (with_reducible exact Below.refl _ _) | assumption | (with_reducible refine below_then (by assumption) ?_ ?_) | (with_reducible refine Below.alloc ?_ ?_ _) | (with_reducible refine below_drewN ?_ _) | (with_reducible refine Below.drew ?_) | (with_reducible refine Below.setCell ?_ ?_ _) | (have := h.size; simp at *; omega) | omega | (simp; done) | (simp; omega))⟩
set_option maxHeartbeats 1000000 in
theorem spec_FactorOf_yes (w : World) (A : Option Addr) (n c : Nat) (fr to : Nat → ByteArray) (nu de : Nat → Int) (h : UnitRuleF w A n c fr to nu de) (hn20 : n ≤ 1048576) (a b : ByteArray) (za : a.size ≤ 9223372036854775807) (zb : b.size ≤ 9223372036854775807) (ht : tableB (tb n fr to nu de) = true) (h1 : isC a = true) (h2 : isC b = true) (h3 : ¬ fndV (nmF (srch (tb n fr to nu de) a)) b (srch (tb n fr to nu de) a).length < 0) :
    Calls Try.prog 15 #[.slice A n c, .string a, .string b] w fun e w' => e = .returned (.tuple #[.agg #[.int .i64 (facOf (tb n fr to nu de) a b).1.1, .int .i64 (facOf (tb n fr to nu de) a b).1.2], .bool (facOf (tb n fr to nu de) a b).2]) ∧ Below w.heap.size w w' := by
  have H := Lib.hid h
  clear h
  obtain ⟨T, hT⟩ : ∃ T, T = tb n fr to nu de := ⟨_, rfl⟩
  have HT := Lib.hid hT
  have TAB := Lib.hid (fun (W : World) (hx : UnitRuleF W A n c fr to nu de) => spec_IsUnitTable W A n c fr to nu de hx hn20)
  rw [← hT] at TAB ht h3 ⊢
  clear hT
  obtain ⟨j, ej, hj, _, _⟩ := find_pos h3
  rw [fac_pos a b ht h1 h2 ej]
  have REACH := Lib.hid (fun (W : World) (hx : UnitRuleF W A n c fr to nu de) => l5Reach_any W A n c fr to nu de hx (by rw [← HT.out]; exact (tableB_iff.1 ht).1) a za)
  rw [← HT.out] at REACH
  have FND := Lib.hid (fun (W : World) (B gu cu gv cv : Nat) (hx : ReachSt B W gu cu gv cv (srch T a)) => l1Find_any W (some ⟨gu, 0, none⟩) (srch T a).length cu (nmF (srch T a)) b (hx.strs (good_size (srch_good T a) za (fun x hx2 => by rw [HT.out] at hx2 ⊢; exact ⟨H.out.z_fr x hx2, H.out.z_to x hx2⟩))))
  rw [ej] at FND h3
  have L25 := srch_len (tableB_iff.1 ht).1 a
  have hd : decide ((j : Int) < 0) = false := by simp
  have hjl : (j : Int) < ((srch T a).length : Int) := by omega
  clear ej h3
  go_enter Try.func15, Try.ntmps15
  go_wp2_with fail
  refine (TAB.out _ (H.out.call ((Below.refl _ _).alloc (Nat.le_refl _) _))).mono ?_; rintro e w1 ⟨rfl, b1⟩
  rw [ht]
  have BX1 := Lib.hid (Row.call (row_lit w #[.int .i64 0, .int .i64 0] 30 2 (boxF (0, 0)) (by decide) (fun i hi => by unfold boxF; rcases (by omega : i = 0 ∨ i = 1) with rfl | rfl <;> rfl)) b1)
  have B1 := Lib.hid (show Below w.heap.size w w1 from ((Below.refl _ _).alloc (Nat.le_refl _) _).trans (b1.mono (by simp)))
  clear b1 TAB
  go_wp2_with fail
  refine (spec_isCode a _ za).mono ?_; rintro e w2 ⟨rfl, hw2⟩; obtain rfl := hw2.symm
  rw [h1]
  go_wp2_with fail
  refine (spec_isCode b _ zb).mono ?_; rintro e w2 ⟨rfl, hw2⟩; obtain rfl := hw2.symm
  rw [h2]
  go_wp2_with fail
  refine (REACH.out _ (H.out.call B1.out)).mono ?_; rintro e w3 ⟨gu, cu, gv, cv, rfl, st3, b3⟩
  have B3 := Lib.hid (B1.out.trans (b3.mono B1.out.size))
  have ST3 := Lib.hid st3
  have BX3 := Lib.hid (BX1.out.call b3)
  clear b3 st3
  go_wp2_with fail
  refine (FND.out _ _ _ _ _ _ ST3.out).mono ?_; rintro e w4 ⟨rfl, hw4⟩; obtain rfl := hw4.symm
  clear FND
  have q0 := ST3.out.num hj
  have q1 := ST3.out.den hj
  have k0 : w3.cell? ⟨w.heap.size, 0, none⟩ = some (.int .i64 0) := BX3.out.cell (i := 0) (by omega)
  have k1 : w3.cell? ⟨w.heap.size, 1, none⟩ = some (.int .i64 0) := BX3.out.cell (i := 1) (by omega)
  have z0 := BX3.out.frozen 0
  have z1 := BX3.out.frozen 1
  go_wp2_with fail
  refine bodyPost_ret (by simp [results, Try.results15, go_sem, k0, k1]; try rfl) rfl ?_
  exact ⟨rfl, by have h := B3.out; repeat' (first | (with_reducible exact Below.refl _ _) | assumption | (with_reducible refine below_then (by assumption) ?_ ?_) | (with_reducible refine Below.alloc ?_ ?_ _) | (with_reducible refine below_drewN ?_ _) | (with_reducible refine Below.drew ?_) | (with_reducible refine Below.setCell ?_ ?_ _) | (have := h.size; simp at *; omega) | omega | (simp; done) | (simp; omega))⟩
theorem spec_FactorOf (w : World) (A : Option Addr) (n c : Nat) (fr to : Nat → ByteArray) (nu de : Nat → Int) (h : UnitRuleF w A n c fr to nu de) (hn20 : n ≤ 1048576) (a b : ByteArray) (za : a.size ≤ 9223372036854775807) (zb : b.size ≤ 9223372036854775807) :
    Calls Try.prog 15 #[.slice A n c, .string a, .string b] w fun e w' => e = .returned (.tuple #[.agg #[.int .i64 (facOf (tb n fr to nu de) a b).1.1, .int .i64 (facOf (tb n fr to nu de) a b).1.2], .bool (facOf (tb n fr to nu de) a b).2]) ∧ Below w.heap.size w w' := by
  cases ht : tableB (tb n fr to nu de)
  · exact spec_FactorOf_no1 w A n c fr to nu de h hn20 a b za zb ht
  cases h1 : isC a
  · exact spec_FactorOf_no2 w A n c fr to nu de h hn20 a b za zb ht h1
  cases h2 : isC b
  · exact spec_FactorOf_no3 w A n c fr to nu de h hn20 a b za zb ht h1 h2
  by_cases h3 : fndV (nmF (srch (tb n fr to nu de) a)) b (srch (tb n fr to nu de) a).length < 0
  · exact spec_FactorOf_no4 w A n c fr to nu de h hn20 a b za zb ht h1 h2 h3
  · exact spec_FactorOf_yes w A n c fr to nu de h hn20 a b za zb ht h1 h2 h3
set_option maxHeartbeats 1000000 in
theorem spec_UnitsFrom (w : World) (A : Option Addr) (n c : Nat) (fr to : Nat → ByteArray) (nu de : Nat → Int) (h : UnitRuleF w A n c fr to nu de) (hn20 : n ≤ 1048576) (a : ByteArray) (za : a.size ≤ 9223372036854775807) :
    Calls Try.prog 28 #[.slice A n c, .string a] w fun e w' => ∃ v, e = .returned v ∧ OwnV w.heap.size w' 9 1 v (unitsOf (tb n fr to nu de) a).length (namC (unitsOf (tb n fr to nu de) a)) ∧ Below w.heap.size w w' := by
  have H := Lib.hid h
  clear h
  obtain ⟨T, hT⟩ : ∃ T, T = tb n fr to nu de := ⟨_, rfl⟩
  have HT := Lib.hid hT
  have TAB := Lib.hid (fun (W : World) (hx : UnitRuleF W A n c fr to nu de) => spec_IsUnitTable W A n c fr to nu de hx hn20)
  rw [← hT] at TAB ⊢
  clear hT
  cases ht : tableB T
  · rw [units_table a ht]
    go_enter Try.func28, Try.ntmps28
    go_wp2_with fail
    refine (TAB.out _ H.out).mono ?_; rintro e w1 ⟨rfl, b1⟩
    rw [ht]
    have B1 := Lib.hid b1
    clear b1 TAB
    go_wp2_with fail
    go_ret
    exact ⟨_, rfl, OwnV.lit w1 B1.out.size _ 1 0 #[] _ (by simp [flat]) (by omega), B1.out.alloc B1.out.size _⟩
  cases h1 : isC a
  · rw [units_from a h1]
    go_enter Try.func28, Try.ntmps28
    go_wp2_with fail
    refine (TAB.out _ H.out).mono ?_; rintro e w1 ⟨rfl, b1⟩
    rw [ht]
    have B1 := Lib.hid b1
    clear b1 TAB
    go_wp2_with fail
    refine (spec_isCode a _ za).mono ?_; rintro e w2 ⟨rfl, hw2⟩; obtain rfl := hw2.symm
    rw [h1]
    go_wp2_with fail
    go_ret
    exact ⟨_, rfl, OwnV.lit w1 B1.out.size _ 1 0 #[] _ (by simp [flat]) (by omega), B1.out.alloc B1.out.size _⟩
  rw [units_yes a ht h1]
  have REACH := Lib.hid (fun (W : World) (hx : UnitRuleF W A n c fr to nu de) => l5Reach_any W A n c fr to nu de hx (by rw [← HT.out]; exact (tableB_iff.1 ht).1) a za)
  rw [← HT.out] at REACH
  go_enter Try.func28, Try.ntmps28
  go_wp2_with fail
  refine (TAB.out _ H.out).mono ?_; rintro e w1 ⟨rfl, b1⟩
  rw [ht]
  have B1 := Lib.hid b1
  clear b1 TAB
  go_wp2_with fail
  refine (spec_isCode a _ za).mono ?_; rintro e w2 ⟨rfl, hw2⟩; obtain rfl := hw2.symm
  rw [h1]
  go_wp2_with fail
  refine (REACH.out _ (H.out.call B1.out)).mono ?_; rintro e w3 ⟨gu, cu, gv, cv, rfl, st3, b3⟩
  have B3 := Lib.hid (B1.out.trans (b3.mono B1.out.size))
  have ST3 := Lib.hid (st3.nam.base B1.out.size)
  clear b3 st3
  go_wp2_with fail
  go_ret
  exact ⟨_, rfl, ST3.out, B3.out⟩
set_option maxHeartbeats 1000000 in
theorem impl_FactorOf_no1 (w : World) (A : Option Addr) (n c : Nat) (fr to : Nat → ByteArray) (nu de : Nat → Int) (h : UnitRuleF w A n c fr to nu de) (hn20 : n ≤ 1048576) (a b : ByteArray) (za : a.size ≤ 9223372036854775807) (zb : b.size ≤ 9223372036854775807) (ht : tableB (tb n fr to nu de) = false) :
    Calls Try.prog 16 #[.slice A n c, .string a, .string b] w fun e w' => e = .returned (.tuple #[.agg #[.int .i64 (facOf (tb n fr to nu de) a b).1.1, .int .i64 (facOf (tb n fr to nu de) a b).1.2], .bool (facOf (tb n fr to nu de) a b).2]) ∧ Below w.heap.size w w' := by
  have H := Lib.hid h
  clear h
  obtain ⟨T, hT⟩ : ∃ T, T = tb n fr to nu de := ⟨_, rfl⟩
  have HT := Lib.hid hT
  have TAB := Lib.hid (fun (W : World) (hx : UnitRuleF W A n c fr to nu de) => impl_IsUnitTable W A n c fr to nu de hx)
  rw [← hT] at TAB ht ⊢
  clear hT
  rw [fac_table a b ht]
  go_enter Try.func16, Try.ntmps16
  go_wp2_with fail
  refine (TAB.out _ (H.out.call ((Below.refl _ _).alloc (Nat.le_refl _) _))).mono ?_; rintro e w1 ⟨rfl, b1⟩
  rw [ht]
  have BX1 := Lib.hid (Row.call (row_lit w #[.int .i64 0, .int .i64 0] 30 2 (boxF (0, 0)) (by decide) (fun i hi => by unfold boxF; rcases (by omega : i = 0 ∨ i = 1) with rfl | rfl <;> rfl)) b1)
  have B1 := Lib.hid (show Below w.heap.size w w1 from ((Below.refl _ _).alloc (Nat.le_refl _) _).trans (b1.mono (by simp)))
  clear b1 TAB
  have k0 : w1.cell? ⟨w.heap.size, 0, none⟩ = some (.int .i64 0) := BX1.out.cell (i := 0) (by omega)
  have k1 : w1.cell? ⟨w.heap.size, 1, none⟩ = some (.int .i64 0) := BX1.out.cell (i := 1) (by omega)
  have z0 := BX1.out.frozen 0
  have z1 := BX1.out.frozen 1
  go_wp2_with fail
  refine bodyPost_ret (by simp [results, Try.results16, go_sem, k0, k1]; try rfl) rfl ?_
  exact ⟨rfl, by have h := B1.out; repeat' (first | (with_reducible exact Below.refl _ _) | assumption | (with_reducible refine below_then (by assumption) ?_ ?_) | (with_reducible refine Below.alloc ?_ ?_ _) | (with_reducible refine below_drewN ?_ _) | (with_reducible refine Below.drew ?_) | (with_reducible refine Below.setCell ?_ ?_ _) | (have := h.size; simp at *; omega) | omega | (simp; done) | (simp; omega))⟩
set_option maxHeartbeats 1000000 in
theorem impl_FactorOf_no2 (w : World) (A : Option Addr) (n c : Nat) (fr to : Nat → ByteArray) (nu de : Nat → Int) (h : UnitRuleF w A n c fr to nu de) (hn20 : n ≤ 1048576) (a b : ByteArray) (za : a.size ≤ 9223372036854775807) (zb : b.size ≤ 9223372036854775807) (ht : tableB (tb n fr to nu de) = true) (h1 : isC a = false) :
    Calls Try.prog 16 #[.slice A n c, .string a, .string b] w fun e w' => e = .returned (.tuple #[.agg #[.int .i64 (facOf (tb n fr to nu de) a b).1.1, .int .i64 (facOf (tb n fr to nu de) a b).1.2], .bool (facOf (tb n fr to nu de) a b).2]) ∧ Below w.heap.size w w' := by
  have H := Lib.hid h
  clear h
  obtain ⟨T, hT⟩ : ∃ T, T = tb n fr to nu de := ⟨_, rfl⟩
  have HT := Lib.hid hT
  have TAB := Lib.hid (fun (W : World) (hx : UnitRuleF W A n c fr to nu de) => impl_IsUnitTable W A n c fr to nu de hx)
  rw [← hT] at TAB ht ⊢
  clear hT
  rw [fac_from a b h1]
  go_enter Try.func16, Try.ntmps16
  go_wp2_with fail
  refine (TAB.out _ (H.out.call ((Below.refl _ _).alloc (Nat.le_refl _) _))).mono ?_; rintro e w1 ⟨rfl, b1⟩
  rw [ht]
  have BX1 := Lib.hid (Row.call (row_lit w #[.int .i64 0, .int .i64 0] 30 2 (boxF (0, 0)) (by decide) (fun i hi => by unfold boxF; rcases (by omega : i = 0 ∨ i = 1) with rfl | rfl <;> rfl)) b1)
  have B1 := Lib.hid (show Below w.heap.size w w1 from ((Below.refl _ _).alloc (Nat.le_refl _) _).trans (b1.mono (by simp)))
  clear b1 TAB
  have k0 : w1.cell? ⟨w.heap.size, 0, none⟩ = some (.int .i64 0) := BX1.out.cell (i := 0) (by omega)
  have k1 : w1.cell? ⟨w.heap.size, 1, none⟩ = some (.int .i64 0) := BX1.out.cell (i := 1) (by omega)
  have z0 := BX1.out.frozen 0
  have z1 := BX1.out.frozen 1
  go_wp2_with fail
  refine (impl_isCode a _ za).mono ?_; rintro e w2 ⟨rfl, hw2⟩; obtain rfl := hw2.symm
  rw [h1]
  go_wp2_with fail
  refine bodyPost_ret (by simp [results, Try.results16, go_sem, k0, k1]; try rfl) rfl ?_
  exact ⟨rfl, by have h := B1.out; repeat' (first | (with_reducible exact Below.refl _ _) | assumption | (with_reducible refine below_then (by assumption) ?_ ?_) | (with_reducible refine Below.alloc ?_ ?_ _) | (with_reducible refine below_drewN ?_ _) | (with_reducible refine Below.drew ?_) | (with_reducible refine Below.setCell ?_ ?_ _) | (have := h.size; simp at *; omega) | omega | (simp; done) | (simp; omega))⟩
set_option maxHeartbeats 1000000 in
theorem impl_FactorOf_no3 (w : World) (A : Option Addr) (n c : Nat) (fr to : Nat → ByteArray) (nu de : Nat → Int) (h : UnitRuleF w A n c fr to nu de) (hn20 : n ≤ 1048576) (a b : ByteArray) (za : a.size ≤ 9223372036854775807) (zb : b.size ≤ 9223372036854775807) (ht : tableB (tb n fr to nu de) = true) (h1 : isC a = true) (h2 : isC b = false) :
    Calls Try.prog 16 #[.slice A n c, .string a, .string b] w fun e w' => e = .returned (.tuple #[.agg #[.int .i64 (facOf (tb n fr to nu de) a b).1.1, .int .i64 (facOf (tb n fr to nu de) a b).1.2], .bool (facOf (tb n fr to nu de) a b).2]) ∧ Below w.heap.size w w' := by
  have H := Lib.hid h
  clear h
  obtain ⟨T, hT⟩ : ∃ T, T = tb n fr to nu de := ⟨_, rfl⟩
  have HT := Lib.hid hT
  have TAB := Lib.hid (fun (W : World) (hx : UnitRuleF W A n c fr to nu de) => impl_IsUnitTable W A n c fr to nu de hx)
  rw [← hT] at TAB ht ⊢
  clear hT
  rw [fac_to a b h2]
  go_enter Try.func16, Try.ntmps16
  go_wp2_with fail
  refine (TAB.out _ (H.out.call ((Below.refl _ _).alloc (Nat.le_refl _) _))).mono ?_; rintro e w1 ⟨rfl, b1⟩
  rw [ht]
  have BX1 := Lib.hid (Row.call (row_lit w #[.int .i64 0, .int .i64 0] 30 2 (boxF (0, 0)) (by decide) (fun i hi => by unfold boxF; rcases (by omega : i = 0 ∨ i = 1) with rfl | rfl <;> rfl)) b1)
  have B1 := Lib.hid (show Below w.heap.size w w1 from ((Below.refl _ _).alloc (Nat.le_refl _) _).trans (b1.mono (by simp)))
  clear b1 TAB
  have k0 : w1.cell? ⟨w.heap.size, 0, none⟩ = some (.int .i64 0) := BX1.out.cell (i := 0) (by omega)
  have k1 : w1.cell? ⟨w.heap.size, 1, none⟩ = some (.int .i64 0) := BX1.out.cell (i := 1) (by omega)
  have z0 := BX1.out.frozen 0
  have z1 := BX1.out.frozen 1
  go_wp2_with fail
  refine (impl_isCode a _ za).mono ?_; rintro e w2 ⟨rfl, hw2⟩; obtain rfl := hw2.symm
  rw [h1]
  go_wp2_with fail
  refine (impl_isCode b _ zb).mono ?_; rintro e w2 ⟨rfl, hw2⟩; obtain rfl := hw2.symm
  rw [h2]
  go_wp2_with fail
  refine bodyPost_ret (by simp [results, Try.results16, go_sem, k0, k1]; try rfl) rfl ?_
  exact ⟨rfl, by have h := B1.out; repeat' (first | (with_reducible exact Below.refl _ _) | assumption | (with_reducible refine below_then (by assumption) ?_ ?_) | (with_reducible refine Below.alloc ?_ ?_ _) | (with_reducible refine below_drewN ?_ _) | (with_reducible refine Below.drew ?_) | (with_reducible refine Below.setCell ?_ ?_ _) | (have := h.size; simp at *; omega) | omega | (simp; done) | (simp; omega))⟩
set_option maxHeartbeats 1000000 in
theorem impl_FactorOf_no4 (w : World) (A : Option Addr) (n c : Nat) (fr to : Nat → ByteArray) (nu de : Nat → Int) (h : UnitRuleF w A n c fr to nu de) (hn20 : n ≤ 1048576) (a b : ByteArray) (za : a.size ≤ 9223372036854775807) (zb : b.size ≤ 9223372036854775807) (ht : tableB (tb n fr to nu de) = true) (h1 : isC a = true) (h2 : isC b = true) (h3 : fndV (nmF (srch (tb n fr to nu de) a)) b (srch (tb n fr to nu de) a).length < 0) :
    Calls Try.prog 16 #[.slice A n c, .string a, .string b] w fun e w' => e = .returned (.tuple #[.agg #[.int .i64 (facOf (tb n fr to nu de) a b).1.1, .int .i64 (facOf (tb n fr to nu de) a b).1.2], .bool (facOf (tb n fr to nu de) a b).2]) ∧ Below w.heap.size w w' := by
  have H := Lib.hid h
  clear h
  obtain ⟨T, hT⟩ : ∃ T, T = tb n fr to nu de := ⟨_, rfl⟩
  have HT := Lib.hid hT
  have TAB := Lib.hid (fun (W : World) (hx : UnitRuleF W A n c fr to nu de) => impl_IsUnitTable W A n c fr to nu de hx)
  rw [← hT] at TAB ht h3 ⊢
  clear hT
  rw [fac_neg a b h3]
  have REACH := Lib.hid (fun (W : World) (hx : UnitRuleF W A n c fr to nu de) => reached_any W A n c fr to nu de hx (by rw [← HT.out]; exact (tableB_iff.1 ht).1) a za)
  rw [← HT.out] at REACH
  have FO := Lib.hid (all_found ht a)
  have FND := Lib.hid (fun (W : World) (B gu cu gv cv : Nat) (hx : ReachSt B W gu cu gv cv (srch T a)) => indexOf_any W (some ⟨gu, 0, none⟩) (srch T a).length cu (nmF (srch T a)) b (hx.strs (good_size (srch_good T a) za (fun x hx2 => by rw [HT.out] at hx2 ⊢; exact ⟨H.out.z_fr x hx2, H.out.z_to x hx2⟩))))
  generalize fndV (nmF (srch T a)) b (srch T a).length = z at *
  have hd : decide (z < 0) = true := by simpa using h3
  go_enter Try.func16, Try.ntmps16
  go_wp2_with fail
  refine (TAB.out _ (H.out.call ((Below.refl _ _).alloc (Nat.le_refl _) _))).mono ?_; rintro e w1 ⟨rfl, b1⟩
  rw [ht]
  have BX1 := Lib.hid (Row.call (row_lit w #[.int .i64 0, .int .i64 0] 30 2 (boxF (0, 0)) (by decide) (fun i hi => by unfold boxF; rcases (by omega : i = 0 ∨ i = 1) with rfl | rfl <;> rfl)) b1)
  have B1 := Lib.hid (show Below w.heap.size w w1 from ((Below.refl _ _).alloc (Nat.le_refl _) _).trans (b1.mono (by simp)))
  clear b1 TAB
  go_wp2_with fail
  refine (impl_isCode a _ za).mono ?_; rintro e w2 ⟨rfl, hw2⟩; obtain rfl := hw2.symm
  rw [h1]
  go_wp2_with fail
  refine (impl_isCode b _ zb).mono ?_; rintro e w2 ⟨rfl, hw2⟩; obtain rfl := hw2.symm
  rw [h2]
  go_wp2_with fail
  refine (REACH.out _ (H.out.call B1.out)).mono ?_
  rintro e w3 (⟨_, gu, cu, gv, cv, rfl, st3, b3⟩ | ⟨hf, _⟩)
  case inr => exact absurd FO.out hf
  have B3 := Lib.hid (B1.out.trans (b3.mono B1.out.size))
  have ST3 := Lib.hid st3
  have BX3 := Lib.hid (BX1.out.call b3)
  clear b3 st3
  go_wp2_with fail
  refine (FND.out _ _ _ _ _ _ ST3.out).mono ?_; rintro e w4 ⟨rfl, hw4⟩; obtain rfl := hw4.symm
  clear FND
  have k0 : w3.cell? ⟨w.heap.size, 0, none⟩ = some (.int .i64 0) := BX3.out.cell (i := 0) (by omega)
  have k1 : w3.cell? ⟨w.heap.size, 1, none⟩ = some (.int .i64 0) := BX3.out.cell (i := 1) (by omega)
  have z0 := BX3.out.frozen 0
  have z1 := BX3.out.frozen 1
  go_wp2_with fail
  refine bodyPost_ret (by simp [results, Try.results16, go_sem, k0, k1]; try rfl) rfl ?_
  exact ⟨rfl, by have h := B3.out; repeat' (first | (with_reducible exact Below.refl _ _) | assumption | (with_reducible refine below_then (by assumption) ?_ ?_) | (with_reducible refine Below.alloc ?_ ?_ _) | (with_reducible refine below_drewN ?_ _) | (with_reducible refine Below.drew ?_) | (with_reducible refine Below.setCell ?_ ?_ _) | (have := h.size; simp at *; omega) | omega | (simp; done) | (simp; omega))⟩
set_option maxHeartbeats 1000000 in
theorem impl_FactorOf_yes (w : World) (A : Option Addr) (n c : Nat) (fr to : Nat → ByteArray) (nu de : Nat → Int) (h : UnitRuleF w A n c fr to nu de) (hn20 : n ≤ 1048576) (a b : ByteArray) (za : a.size ≤ 9223372036854775807) (zb : b.size ≤ 9223372036854775807) (ht : tableB (tb n fr to nu de) = true) (h1 : isC a = true) (h2 : isC b = true) (h3 : ¬ fndV (nmF (srch (tb n fr to nu de) a)) b (srch (tb n fr to nu de) a).length < 0) :
    Calls Try.prog 16 #[.slice A n c, .string a, .string b] w fun e w' => e = .returned (.tuple #[.agg #[.int .i64 (facOf (tb n fr to nu de) a b).1.1, .int .i64 (facOf (tb n fr to nu de) a b).1.2], .bool (facOf (tb n fr to nu de) a b).2]) ∧ Below w.heap.size w w' := by
  have H := Lib.hid h
  clear h
  obtain ⟨T, hT⟩ : ∃ T, T = tb n fr to nu de := ⟨_, rfl⟩
  have HT := Lib.hid hT
  have TAB := Lib.hid (fun (W : World) (hx : UnitRuleF W A n c fr to nu de) => impl_IsUnitTable W A n c fr to nu de hx)
  rw [← hT] at TAB ht h3 ⊢
  clear hT
  obtain ⟨j, ej, hj, _, _⟩ := find_pos h3
  rw [fac_pos a b ht h1 h2 ej]
  have REACH := Lib.hid (fun (W : World) (hx : UnitRuleF W A n c fr to nu de) => reached_any W A n c fr to nu de hx (by rw [← HT.out]; exact (tableB_iff.1 ht).1) a za)
  rw [← HT.out] at REACH
  have FO := Lib.hid (all_found ht a)
  have FND := Lib.hid (fun (W : World) (B gu cu gv cv : Nat) (hx : ReachSt B W gu cu gv cv (srch T a)) => indexOf_any W (some ⟨gu, 0, none⟩) (srch T a).length cu (nmF (srch T a)) b (hx.strs (good_size (srch_good T a) za (fun x hx2 => by rw [HT.out] at hx2 ⊢; exact ⟨H.out.z_fr x hx2, H.out.z_to x hx2⟩))))
  rw [ej] at FND h3
  have L25 := srch_len (tableB_iff.1 ht).1 a
  have hd : decide ((j : Int) < 0) = false := by simp
  have hjl : (j : Int) < ((srch T a).length : Int) := by omega
  clear ej h3
  go_enter Try.func16, Try.ntmps16
  go_wp2_with fail
  refine (TAB.out _ (H.out.call ((Below.refl _ _).alloc (Nat.le_refl _) _))).mono ?_; rintro e w1 ⟨rfl, b1⟩
  rw [ht]
  have BX1 := Lib.hid (Row.call (row_lit w #[.int .i64 0, .int .i64 0] 30 2 (boxF (0, 0)) (by decide) (fun i hi => by unfold boxF; rcases (by omega : i = 0 ∨ i = 1) with rfl | rfl <;> rfl)) b1)
  have B1 := Lib.hid (show Below w.heap.size w w1 from ((Below.refl _ _).alloc (Nat.le_refl _) _).trans (b1.mono (by simp)))
  clear b1 TAB
  go_wp2_with fail
  refine (impl_isCode a _ za).mono ?_; rintro e w2 ⟨rfl, hw2⟩; obtain rfl := hw2.symm
  rw [h1]
  go_wp2_with fail
  refine (impl_isCode b _ zb).mono ?_; rintro e w2 ⟨rfl, hw2⟩; obtain rfl := hw2.symm
  rw [h2]
  go_wp2_with fail
  refine (REACH.out _ (H.out.call B1.out)).mono ?_
  rintro e w3 (⟨_, gu, cu, gv, cv, rfl, st3, b3⟩ | ⟨hf, _⟩)
  case inr => exact absurd FO.out hf
  have B3 := Lib.hid (B1.out.trans (b3.mono B1.out.size))
  have ST3 := Lib.hid st3
  have BX3 := Lib.hid (BX1.out.call b3)
  clear b3 st3
  go_wp2_with fail
  refine (FND.out _ _ _ _ _ _ ST3.out).mono ?_; rintro e w4 ⟨rfl, hw4⟩; obtain rfl := hw4.symm
  clear FND
  have q0 := ST3.out.num hj
  have q1 := ST3.out.den hj
  have k0 : w3.cell? ⟨w.heap.size, 0, none⟩ = some (.int .i64 0) := BX3.out.cell (i := 0) (by omega)
  have k1 : w3.cell? ⟨w.heap.size, 1, none⟩ = some (.int .i64 0) := BX3.out.cell (i := 1) (by omega)
  have z0 := BX3.out.frozen 0
  have z1 := BX3.out.frozen 1
  go_wp2_with fail
  refine bodyPost_ret (by simp [results, Try.results16, go_sem, k0, k1]; try rfl) rfl ?_
  exact ⟨rfl, by have h := B3.out; repeat' (first | (with_reducible exact Below.refl _ _) | assumption | (with_reducible refine below_then (by assumption) ?_ ?_) | (with_reducible refine Below.alloc ?_ ?_ _) | (with_reducible refine below_drewN ?_ _) | (with_reducible refine Below.drew ?_) | (with_reducible refine Below.setCell ?_ ?_ _) | (have := h.size; simp at *; omega) | omega | (simp; done) | (simp; omega))⟩
theorem impl_FactorOf (w : World) (A : Option Addr) (n c : Nat) (fr to : Nat → ByteArray) (nu de : Nat → Int) (h : UnitRuleF w A n c fr to nu de) (hn20 : n ≤ 1048576) (a b : ByteArray) (za : a.size ≤ 9223372036854775807) (zb : b.size ≤ 9223372036854775807) :
    Calls Try.prog 16 #[.slice A n c, .string a, .string b] w fun e w' => e = .returned (.tuple #[.agg #[.int .i64 (facOf (tb n fr to nu de) a b).1.1, .int .i64 (facOf (tb n fr to nu de) a b).1.2], .bool (facOf (tb n fr to nu de) a b).2]) ∧ Below w.heap.size w w' := by
  cases ht : tableB (tb n fr to nu de)
  · exact impl_FactorOf_no1 w A n c fr to nu de h hn20 a b za zb ht
  cases h1 : isC a
  · exact impl_FactorOf_no2 w A n c fr to nu de h hn20 a b za zb ht h1
  cases h2 : isC b
  · exact impl_FactorOf_no3 w A n c fr to nu de h hn20 a b za zb ht h1 h2
  by_cases h3 : fndV (nmF (srch (tb n fr to nu de) a)) b (srch (tb n fr to nu de) a).length < 0
  · exact impl_FactorOf_no4 w A n c fr to nu de h hn20 a b za zb ht h1 h2 h3
  · exact impl_FactorOf_yes w A n c fr to nu de h hn20 a b za zb ht h1 h2 h3
set_option maxHeartbeats 1000000 in
theorem impl_UnitsFrom (w : World) (A : Option Addr) (n c : Nat) (fr to : Nat → ByteArray) (nu de : Nat → Int) (h : UnitRuleF w A n c fr to nu de) (hn20 : n ≤ 1048576) (a : ByteArray) (za : a.size ≤ 9223372036854775807) :
    Calls Try.prog 22 #[.slice A n c, .string a] w fun e w' => ∃ v, e = .returned v ∧ OwnV w.heap.size w' 9 1 v (unitsOf (tb n fr to nu de) a).length (namC (unitsOf (tb n fr to nu de) a)) ∧ Below w.heap.size w w' := by
  have H := Lib.hid h
  clear h
  obtain ⟨T, hT⟩ : ∃ T, T = tb n fr to nu de := ⟨_, rfl⟩
  have HT := Lib.hid hT
  have TAB := Lib.hid (fun (W : World) (hx : UnitRuleF W A n c fr to nu de) => impl_IsUnitTable W A n c fr to nu de hx)
  rw [← hT] at TAB ⊢
  clear hT
  cases ht : tableB T
  · rw [units_table a ht]
    go_enter Try.func22, Try.ntmps22
    go_wp2_with fail
    refine (TAB.out _ H.out).mono ?_; rintro e w1 ⟨rfl, b1⟩
    rw [ht]
    have B1 := Lib.hid b1
    clear b1 TAB
    go_wp2_with fail
    go_ret
    exact ⟨_, rfl, OwnV.nil _ _ _ _ _, B1.out⟩
  cases h1 : isC a
  · rw [units_from a h1]
    go_enter Try.func22, Try.ntmps22
    go_wp2_with fail
    refine (TAB.out _ H.out).mono ?_; rintro e w1 ⟨rfl, b1⟩
    rw [ht]
    have B1 := Lib.hid b1
    clear b1 TAB
    go_wp2_with fail
    refine (impl_isCode a _ za).mono ?_; rintro e w2 ⟨rfl, hw2⟩; obtain rfl := hw2.symm
    rw [h1]
    go_wp2_with fail
    go_ret
    exact ⟨_, rfl, OwnV.nil _ _ _ _ _, B1.out⟩
  rw [units_yes a ht h1]
  have REACH := Lib.hid (fun (W : World) (hx : UnitRuleF W A n c fr to nu de) => reached_any W A n c fr to nu de hx (by rw [← HT.out]; exact (tableB_iff.1 ht).1) a za)
  rw [← HT.out] at REACH
  have FO := Lib.hid (all_found ht a)
  go_enter Try.func22, Try.ntmps22
  go_wp2_with fail
  refine (TAB.out _ H.out).mono ?_; rintro e w1 ⟨rfl, b1⟩
  rw [ht]
  have B1 := Lib.hid b1
  clear b1 TAB
  go_wp2_with fail
  refine (impl_isCode a _ za).mono ?_; rintro e w2 ⟨rfl, hw2⟩; obtain rfl := hw2.symm
  rw [h1]
  go_wp2_with fail
  refine (REACH.out _ (H.out.call B1.out)).mono ?_
  rintro e w3 (⟨_, gu, cu, gv, cv, rfl, st3, b3⟩ | ⟨hf, _⟩)
  case inr => exact absurd FO.out hf
  have B3 := Lib.hid (B1.out.trans (b3.mono B1.out.size))
  have ST3 := Lib.hid (st3.nam.base B1.out.size)
  clear b3 st3
  go_wp2_with fail
  go_ret
  exact ⟨_, rfl, ST3.out, B3.out⟩
end Go.Proofs.Ytccejhhhengpcaa
