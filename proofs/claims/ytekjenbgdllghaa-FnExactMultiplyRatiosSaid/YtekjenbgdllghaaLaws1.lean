/-
  Walks of the exact laws of ratios: each returns true.
-/
import Derived.Test.YtekjenbgdllghaaOps
import Derived.Deep.RegionHeld3
import Derived.Deep.DeepCutAuto
import Derived.Deep.DrawnRows
namespace Go.Proofs.Ytekjenbgdllghaa
open Go.RowKit num
set_option linter.unusedVariables false
attribute [local go_sem ↓] Go.wp_at_zero Go.wp_at_succ

theorem toRatio_any (a b : Int) (w : World) :
    Calls Try.prog 16 #[.agg #[.int .i64 a, .int .i64 b]] w fun e w' => e = .returned (.agg #[.int .i64 a, .int .i64 b]) ∧ Below w.heap.size w w' := by
  go_enter Try.func16, Try.ntmps16
  go_wp2
  go_returns
  exact ⟨rfl, by repeat' (first | exact Below.refl _ _ | assumption | refine Below.alloc ?_ ?_ _ | refine below_drewN ?_ _ | refine Below.drew ?_ | refine Below.setCell ?_ ?_ _ | refine below_then (by assumption) ?_ ?_ | omega | (simp; done) | (simp; omega))⟩
theorem eqRatio_same (a b : Int) (w : World) :
    Calls Try.prog 20 #[.agg #[.int .i64 a, .int .i64 b], .agg #[.int .i64 a, .int .i64 b]] w fun e w' => e = .returned (.bool true) ∧ Below w.heap.size w w' := by
  go_enter Try.func20, Try.ntmps20
  go_wp2
  go_ret
  exact ⟨rfl, by repeat' (first | exact Below.refl _ _ | assumption | refine Below.alloc ?_ ?_ _ | refine below_drewN ?_ _ | refine Below.drew ?_ | refine Below.setCell ?_ ?_ _ | refine below_then (by assumption) ?_ ?_ | omega | (simp; done) | (simp; omega))⟩
theorem law_IsRatio (a b : Int) (w : World) :
    Calls Try.prog 4 #[.agg #[.int .i64 a, .int .i64 b]] w fun e w' => e = .returned (.bool true) ∧ Below w.heap.size w w' := by
  go_enter Try.func4, Try.ntmps4
  go_wp2_with fail
  refine (toRatio_any _ _ _).mono ?_; rintro e w1 ⟨rfl, hb1⟩
  have hz1 : w.heap.size + 1 ≤ w1.heap.size := by have := hb1.size; first | omega | (simp at this; omega)
  have l1_0 : w.heap.size < w1.heap.size := by omega
  have c1_0_0 : w1.cell? ⟨w.heap.size, 0, none⟩ = some (.int .i64 a) := by rw [hb1.cell (p := ⟨w.heap.size, 0, none⟩) (by go_size)]; first | assumption | (simp [go_sem]; done) | (simp [go_sem, *]; done)
  have c1_0_1 : w1.cell? ⟨w.heap.size, 1, none⟩ = some (.int .i64 b) := by rw [hb1.cell (p := ⟨w.heap.size, 1, none⟩) (by go_size)]; first | assumption | (simp [go_sem]; done) | (simp [go_sem, *]; done)
  go_wp2_with fail
  refine (spec_isRatio _ _ _).mono ?_; rintro e w2 ⟨rfl, hb2⟩
  have hz2 : w1.heap.size + 0 ≤ w2.heap.size := by have := hb2.size; first | omega | (simp at this; omega)
  have l2_0 : w.heap.size < w2.heap.size := by omega
  have c2_0_0 : w2.cell? ⟨w.heap.size, 0, none⟩ = some (.int .i64 a) := by rw [hb2.cell (p := ⟨w.heap.size, 0, none⟩) (by go_size)]; first | assumption | (simp [go_sem]; done) | (simp [go_sem, *]; done)
  have c2_0_1 : w2.cell? ⟨w.heap.size, 1, none⟩ = some (.int .i64 b) := by rw [hb2.cell (p := ⟨w.heap.size, 1, none⟩) (by go_size)]; first | assumption | (simp [go_sem]; done) | (simp [go_sem, *]; done)
  clear c1_0_0 c1_0_1
  go_wp2_with fail
  refine (toRatio_any _ _ _).mono ?_; rintro e w3 ⟨rfl, hb3⟩
  have hz3 : w2.heap.size + 0 ≤ w3.heap.size := by have := hb3.size; first | omega | (simp at this; omega)
  have l3_0 : w.heap.size < w3.heap.size := by omega
  have c3_0_0 : w3.cell? ⟨w.heap.size, 0, none⟩ = some (.int .i64 a) := by rw [hb3.cell (p := ⟨w.heap.size, 0, none⟩) (by go_size)]; first | assumption | (simp [go_sem]; done) | (simp [go_sem, *]; done)
  have c3_0_1 : w3.cell? ⟨w.heap.size, 1, none⟩ = some (.int .i64 b) := by rw [hb3.cell (p := ⟨w.heap.size, 1, none⟩) (by go_size)]; first | assumption | (simp [go_sem]; done) | (simp [go_sem, *]; done)
  clear c2_0_0 c2_0_1
  go_wp2_with fail
  refine (impl_isRatio _ _ _).mono ?_; rintro e w4 ⟨rfl, hb4⟩
  have hz4 : w3.heap.size + 0 ≤ w4.heap.size := by have := hb4.size; first | omega | (simp at this; omega)
  have l4_0 : w.heap.size < w4.heap.size := by omega
  have c4_0_0 : w4.cell? ⟨w.heap.size, 0, none⟩ = some (.int .i64 a) := by rw [hb4.cell (p := ⟨w.heap.size, 0, none⟩) (by go_size)]; first | assumption | (simp [go_sem]; done) | (simp [go_sem, *]; done)
  have c4_0_1 : w4.cell? ⟨w.heap.size, 1, none⟩ = some (.int .i64 b) := by rw [hb4.cell (p := ⟨w.heap.size, 1, none⟩) (by go_size)]; first | assumption | (simp [go_sem]; done) | (simp [go_sem, *]; done)
  clear c3_0_0 c3_0_1
  go_wp2_with fail
  go_ret
  exact ⟨rfl, by repeat' (first | exact Below.refl _ _ | assumption | refine Below.alloc ?_ ?_ _ | refine below_drewN ?_ _ | refine Below.drew ?_ | refine Below.setCell ?_ ?_ _ | refine below_then (by assumption) ?_ ?_ | omega | (simp; done) | (simp; omega))⟩
theorem law_NegateRatio (a b : Int) (w : World) :
    Calls Try.prog 5 #[.agg #[.int .i64 a, .int .i64 b]] w fun e w' => e = .returned (.bool true) ∧ Below w.heap.size w w' := by
  go_enter Try.func5, Try.ntmps5
  go_wp2_with fail
  refine (toRatio_any _ _ _).mono ?_; rintro e w1 ⟨rfl, hb1⟩
  have hz1 : w.heap.size + 1 ≤ w1.heap.size := by have := hb1.size; first | omega | (simp at this; omega)
  have l1_0 : w.heap.size < w1.heap.size := by omega
  have c1_0_0 : w1.cell? ⟨w.heap.size, 0, none⟩ = some (.int .i64 a) := by rw [hb1.cell (p := ⟨w.heap.size, 0, none⟩) (by go_size)]; first | assumption | (simp [go_sem]; done) | (simp [go_sem, *]; done)
  have c1_0_1 : w1.cell? ⟨w.heap.size, 1, none⟩ = some (.int .i64 b) := by rw [hb1.cell (p := ⟨w.heap.size, 1, none⟩) (by go_size)]; first | assumption | (simp [go_sem]; done) | (simp [go_sem, *]; done)
  go_wp2_with fail
  refine (spec_NegateRatio _ _ _).mono ?_; rintro e w2 ⟨rfl, hb2⟩
  have hz2 : w1.heap.size + 0 ≤ w2.heap.size := by have := hb2.size; first | omega | (simp at this; omega)
  have l2_0 : w.heap.size < w2.heap.size := by omega
  have c2_0_0 : w2.cell? ⟨w.heap.size, 0, none⟩ = some (.int .i64 a) := by rw [hb2.cell (p := ⟨w.heap.size, 0, none⟩) (by go_size)]; first | assumption | (simp [go_sem]; done) | (simp [go_sem, *]; done)
  have c2_0_1 : w2.cell? ⟨w.heap.size, 1, none⟩ = some (.int .i64 b) := by rw [hb2.cell (p := ⟨w.heap.size, 1, none⟩) (by go_size)]; first | assumption | (simp [go_sem]; done) | (simp [go_sem, *]; done)
  clear c1_0_0 c1_0_1
  go_wp2_with fail
  refine (toRatio_any _ _ _).mono ?_; rintro e w3 ⟨rfl, hb3⟩
  have hz3 : w2.heap.size + 1 ≤ w3.heap.size := by have := hb3.size; first | omega | (simp at this; omega)
  have l3_0 : w.heap.size < w3.heap.size := by omega
  have c3_0_0 : w3.cell? ⟨w.heap.size, 0, none⟩ = some (.int .i64 a) := by rw [hb3.cell (p := ⟨w.heap.size, 0, none⟩) (by go_size)]; first | assumption | (simp [go_sem]; done) | (simp [go_sem, *]; done)
  have c3_0_1 : w3.cell? ⟨w.heap.size, 1, none⟩ = some (.int .i64 b) := by rw [hb3.cell (p := ⟨w.heap.size, 1, none⟩) (by go_size)]; first | assumption | (simp [go_sem]; done) | (simp [go_sem, *]; done)
  have l3_1 : w2.heap.size < w3.heap.size := by omega
  have c3_1_0 : w3.cell? ⟨w2.heap.size, 0, none⟩ = some (.int .i64 (negR a b).1) := by rw [hb3.cell (p := ⟨w2.heap.size, 0, none⟩) (by go_size)]; first | assumption | (simp [go_sem]; done) | (simp [go_sem, *]; done)
  have c3_1_1 : w3.cell? ⟨w2.heap.size, 1, none⟩ = some (.int .i64 (negR a b).2) := by rw [hb3.cell (p := ⟨w2.heap.size, 1, none⟩) (by go_size)]; first | assumption | (simp [go_sem]; done) | (simp [go_sem, *]; done)
  clear c2_0_0 c2_0_1
  go_wp2_with fail
  refine (impl_NegateRatio _ _ _).mono ?_; rintro e w4 ⟨rfl, hb4⟩
  have hz4 : w3.heap.size + 0 ≤ w4.heap.size := by have := hb4.size; first | omega | (simp at this; omega)
  have l4_0 : w.heap.size < w4.heap.size := by omega
  have c4_0_0 : w4.cell? ⟨w.heap.size, 0, none⟩ = some (.int .i64 a) := by rw [hb4.cell (p := ⟨w.heap.size, 0, none⟩) (by go_size)]; first | assumption | (simp [go_sem]; done) | (simp [go_sem, *]; done)
  have c4_0_1 : w4.cell? ⟨w.heap.size, 1, none⟩ = some (.int .i64 b) := by rw [hb4.cell (p := ⟨w.heap.size, 1, none⟩) (by go_size)]; first | assumption | (simp [go_sem]; done) | (simp [go_sem, *]; done)
  have l4_1 : w2.heap.size < w4.heap.size := by omega
  have c4_1_0 : w4.cell? ⟨w2.heap.size, 0, none⟩ = some (.int .i64 (negR a b).1) := by rw [hb4.cell (p := ⟨w2.heap.size, 0, none⟩) (by go_size)]; first | assumption | (simp [go_sem]; done) | (simp [go_sem, *]; done)
  have c4_1_1 : w4.cell? ⟨w2.heap.size, 1, none⟩ = some (.int .i64 (negR a b).2) := by rw [hb4.cell (p := ⟨w2.heap.size, 1, none⟩) (by go_size)]; first | assumption | (simp [go_sem]; done) | (simp [go_sem, *]; done)
  clear c3_0_0 c3_0_1 c3_1_0 c3_1_1
  go_wp2_with fail
  refine (eqRatio_same _ _ _).mono ?_; rintro e w5 ⟨rfl, hb5⟩
  have hz5 : w4.heap.size + 1 ≤ w5.heap.size := by have := hb5.size; first | omega | (simp at this; omega)
  have l5_0 : w.heap.size < w5.heap.size := by omega
  have c5_0_0 : w5.cell? ⟨w.heap.size, 0, none⟩ = some (.int .i64 a) := by rw [hb5.cell (p := ⟨w.heap.size, 0, none⟩) (by go_size)]; first | assumption | (simp [go_sem]; done) | (simp [go_sem, *]; done)
  have c5_0_1 : w5.cell? ⟨w.heap.size, 1, none⟩ = some (.int .i64 b) := by rw [hb5.cell (p := ⟨w.heap.size, 1, none⟩) (by go_size)]; first | assumption | (simp [go_sem]; done) | (simp [go_sem, *]; done)
  have l5_1 : w2.heap.size < w5.heap.size := by omega
  have c5_1_0 : w5.cell? ⟨w2.heap.size, 0, none⟩ = some (.int .i64 (negR a b).1) := by rw [hb5.cell (p := ⟨w2.heap.size, 0, none⟩) (by go_size)]; first | assumption | (simp [go_sem]; done) | (simp [go_sem, *]; done)
  have c5_1_1 : w5.cell? ⟨w2.heap.size, 1, none⟩ = some (.int .i64 (negR a b).2) := by rw [hb5.cell (p := ⟨w2.heap.size, 1, none⟩) (by go_size)]; first | assumption | (simp [go_sem]; done) | (simp [go_sem, *]; done)
  have l5_2 : w4.heap.size < w5.heap.size := by omega
  have c5_2_0 : w5.cell? ⟨w4.heap.size, 0, none⟩ = some (.int .i64 (negR a b).1) := by rw [hb5.cell (p := ⟨w4.heap.size, 0, none⟩) (by go_size)]; first | assumption | (simp [go_sem]; done) | (simp [go_sem, *]; done)
  have c5_2_1 : w5.cell? ⟨w4.heap.size, 1, none⟩ = some (.int .i64 (negR a b).2) := by rw [hb5.cell (p := ⟨w4.heap.size, 1, none⟩) (by go_size)]; first | assumption | (simp [go_sem]; done) | (simp [go_sem, *]; done)
  clear c4_0_0 c4_0_1 c4_1_0 c4_1_1
  go_wp2_with fail
  go_ret
  exact ⟨rfl, by repeat' (first | exact Below.refl _ _ | assumption | refine Below.alloc ?_ ?_ _ | refine below_drewN ?_ _ | refine Below.drew ?_ | refine Below.setCell ?_ ?_ _ | refine below_then (by assumption) ?_ ?_ | omega | (simp; done) | (simp; omega))⟩
theorem law_FloorRatio (a b : Int) (w : World) :
    Calls Try.prog 6 #[.agg #[.int .i64 a, .int .i64 b]] w fun e w' => e = .returned (.bool true) ∧ Below w.heap.size w w' := by
  go_enter Try.func6, Try.ntmps6
  go_wp2_with fail
  refine (toRatio_any _ _ _).mono ?_; rintro e w1 ⟨rfl, hb1⟩
  have hz1 : w.heap.size + 1 ≤ w1.heap.size := by have := hb1.size; first | omega | (simp at this; omega)
  have l1_0 : w.heap.size < w1.heap.size := by omega
  have c1_0_0 : w1.cell? ⟨w.heap.size, 0, none⟩ = some (.int .i64 a) := by rw [hb1.cell (p := ⟨w.heap.size, 0, none⟩) (by go_size)]; first | assumption | (simp [go_sem]; done) | (simp [go_sem, *]; done)
  have c1_0_1 : w1.cell? ⟨w.heap.size, 1, none⟩ = some (.int .i64 b) := by rw [hb1.cell (p := ⟨w.heap.size, 1, none⟩) (by go_size)]; first | assumption | (simp [go_sem]; done) | (simp [go_sem, *]; done)
  go_wp2_with fail
  refine (spec_FloorRatio _ _ _).mono ?_; rintro e w2 ⟨rfl, hb2⟩
  have hz2 : w1.heap.size + 0 ≤ w2.heap.size := by have := hb2.size; first | omega | (simp at this; omega)
  have l2_0 : w.heap.size < w2.heap.size := by omega
  have c2_0_0 : w2.cell? ⟨w.heap.size, 0, none⟩ = some (.int .i64 a) := by rw [hb2.cell (p := ⟨w.heap.size, 0, none⟩) (by go_size)]; first | assumption | (simp [go_sem]; done) | (simp [go_sem, *]; done)
  have c2_0_1 : w2.cell? ⟨w.heap.size, 1, none⟩ = some (.int .i64 b) := by rw [hb2.cell (p := ⟨w.heap.size, 1, none⟩) (by go_size)]; first | assumption | (simp [go_sem]; done) | (simp [go_sem, *]; done)
  clear c1_0_0 c1_0_1
  go_wp2_with fail
  refine (toRatio_any _ _ _).mono ?_; rintro e w3 ⟨rfl, hb3⟩
  have hz3 : w2.heap.size + 0 ≤ w3.heap.size := by have := hb3.size; first | omega | (simp at this; omega)
  have l3_0 : w.heap.size < w3.heap.size := by omega
  have c3_0_0 : w3.cell? ⟨w.heap.size, 0, none⟩ = some (.int .i64 a) := by rw [hb3.cell (p := ⟨w.heap.size, 0, none⟩) (by go_size)]; first | assumption | (simp [go_sem]; done) | (simp [go_sem, *]; done)
  have c3_0_1 : w3.cell? ⟨w.heap.size, 1, none⟩ = some (.int .i64 b) := by rw [hb3.cell (p := ⟨w.heap.size, 1, none⟩) (by go_size)]; first | assumption | (simp [go_sem]; done) | (simp [go_sem, *]; done)
  clear c2_0_0 c2_0_1
  go_wp2_with fail
  refine (impl_FloorRatio _ _ _).mono ?_; rintro e w4 ⟨rfl, hb4⟩
  have hz4 : w3.heap.size + 0 ≤ w4.heap.size := by have := hb4.size; first | omega | (simp at this; omega)
  have l4_0 : w.heap.size < w4.heap.size := by omega
  have c4_0_0 : w4.cell? ⟨w.heap.size, 0, none⟩ = some (.int .i64 a) := by rw [hb4.cell (p := ⟨w.heap.size, 0, none⟩) (by go_size)]; first | assumption | (simp [go_sem]; done) | (simp [go_sem, *]; done)
  have c4_0_1 : w4.cell? ⟨w.heap.size, 1, none⟩ = some (.int .i64 b) := by rw [hb4.cell (p := ⟨w.heap.size, 1, none⟩) (by go_size)]; first | assumption | (simp [go_sem]; done) | (simp [go_sem, *]; done)
  clear c3_0_0 c3_0_1
  go_wp2_with fail
  go_ret
  exact ⟨rfl, by repeat' (first | exact Below.refl _ _ | assumption | refine Below.alloc ?_ ?_ _ | refine below_drewN ?_ _ | refine Below.drew ?_ | refine Below.setCell ?_ ?_ _ | refine below_then (by assumption) ?_ ?_ | omega | (simp; done) | (simp; omega))⟩
theorem law_CeilRatio (a b : Int) (w : World) :
    Calls Try.prog 8 #[.agg #[.int .i64 a, .int .i64 b]] w fun e w' => e = .returned (.bool true) ∧ Below w.heap.size w w' := by
  go_enter Try.func8, Try.ntmps8
  go_wp2_with fail
  refine (toRatio_any _ _ _).mono ?_; rintro e w1 ⟨rfl, hb1⟩
  have hz1 : w.heap.size + 1 ≤ w1.heap.size := by have := hb1.size; first | omega | (simp at this; omega)
  have l1_0 : w.heap.size < w1.heap.size := by omega
  have c1_0_0 : w1.cell? ⟨w.heap.size, 0, none⟩ = some (.int .i64 a) := by rw [hb1.cell (p := ⟨w.heap.size, 0, none⟩) (by go_size)]; first | assumption | (simp [go_sem]; done) | (simp [go_sem, *]; done)
  have c1_0_1 : w1.cell? ⟨w.heap.size, 1, none⟩ = some (.int .i64 b) := by rw [hb1.cell (p := ⟨w.heap.size, 1, none⟩) (by go_size)]; first | assumption | (simp [go_sem]; done) | (simp [go_sem, *]; done)
  go_wp2_with fail
  refine (spec_CeilRatio _ _ _).mono ?_; rintro e w2 ⟨rfl, hb2⟩
  have hz2 : w1.heap.size + 0 ≤ w2.heap.size := by have := hb2.size; first | omega | (simp at this; omega)
  have l2_0 : w.heap.size < w2.heap.size := by omega
  have c2_0_0 : w2.cell? ⟨w.heap.size, 0, none⟩ = some (.int .i64 a) := by rw [hb2.cell (p := ⟨w.heap.size, 0, none⟩) (by go_size)]; first | assumption | (simp [go_sem]; done) | (simp [go_sem, *]; done)
  have c2_0_1 : w2.cell? ⟨w.heap.size, 1, none⟩ = some (.int .i64 b) := by rw [hb2.cell (p := ⟨w.heap.size, 1, none⟩) (by go_size)]; first | assumption | (simp [go_sem]; done) | (simp [go_sem, *]; done)
  clear c1_0_0 c1_0_1
  go_wp2_with fail
  refine (toRatio_any _ _ _).mono ?_; rintro e w3 ⟨rfl, hb3⟩
  have hz3 : w2.heap.size + 0 ≤ w3.heap.size := by have := hb3.size; first | omega | (simp at this; omega)
  have l3_0 : w.heap.size < w3.heap.size := by omega
  have c3_0_0 : w3.cell? ⟨w.heap.size, 0, none⟩ = some (.int .i64 a) := by rw [hb3.cell (p := ⟨w.heap.size, 0, none⟩) (by go_size)]; first | assumption | (simp [go_sem]; done) | (simp [go_sem, *]; done)
  have c3_0_1 : w3.cell? ⟨w.heap.size, 1, none⟩ = some (.int .i64 b) := by rw [hb3.cell (p := ⟨w.heap.size, 1, none⟩) (by go_size)]; first | assumption | (simp [go_sem]; done) | (simp [go_sem, *]; done)
  clear c2_0_0 c2_0_1
  go_wp2_with fail
  refine (impl_CeilRatio _ _ _).mono ?_; rintro e w4 ⟨rfl, hb4⟩
  have hz4 : w3.heap.size + 0 ≤ w4.heap.size := by have := hb4.size; first | omega | (simp at this; omega)
  have l4_0 : w.heap.size < w4.heap.size := by omega
  have c4_0_0 : w4.cell? ⟨w.heap.size, 0, none⟩ = some (.int .i64 a) := by rw [hb4.cell (p := ⟨w.heap.size, 0, none⟩) (by go_size)]; first | assumption | (simp [go_sem]; done) | (simp [go_sem, *]; done)
  have c4_0_1 : w4.cell? ⟨w.heap.size, 1, none⟩ = some (.int .i64 b) := by rw [hb4.cell (p := ⟨w.heap.size, 1, none⟩) (by go_size)]; first | assumption | (simp [go_sem]; done) | (simp [go_sem, *]; done)
  clear c3_0_0 c3_0_1
  go_wp2_with fail
  go_ret
  exact ⟨rfl, by repeat' (first | exact Below.refl _ _ | assumption | refine Below.alloc ?_ ?_ _ | refine below_drewN ?_ _ | refine Below.drew ?_ | refine Below.setCell ?_ ?_ _ | refine below_then (by assumption) ?_ ?_ | omega | (simp; done) | (simp; omega))⟩
theorem law_MakeRatio (n d : Int) (w : World) :
    Calls Try.prog 9 #[.int .i64 n, .int .i64 d] w fun e w' => e = .returned (.bool true) ∧ Below w.heap.size w w' := by
  go_enter Try.func9, Try.ntmps9
  go_wp2_with fail
  refine (spec_mk_any _ _ _).mono ?_; rintro e w1 ⟨rfl, hb1⟩
  have hz1 : w.heap.size + 0 ≤ w1.heap.size := by have := hb1.size; first | omega | (simp at this; omega)
  go_wp2_with fail
  refine (impl_mk_any _ _ _).mono ?_; rintro e w2 ⟨rfl, hb2⟩
  have hz2 : w1.heap.size + 1 ≤ w2.heap.size := by have := hb2.size; first | omega | (simp at this; omega)
  have l2_0 : w1.heap.size < w2.heap.size := by omega
  have c2_0_0 : w2.cell? ⟨w1.heap.size, 0, none⟩ = some (.int .i64 (mk n d).1) := by rw [hb2.cell (p := ⟨w1.heap.size, 0, none⟩) (by go_size)]; first | assumption | (simp [go_sem]; done) | (simp [go_sem, *]; done)
  have c2_0_1 : w2.cell? ⟨w1.heap.size, 1, none⟩ = some (.int .i64 (mk n d).2) := by rw [hb2.cell (p := ⟨w1.heap.size, 1, none⟩) (by go_size)]; first | assumption | (simp [go_sem]; done) | (simp [go_sem, *]; done)
  go_wp2_with fail
  refine (eqRatio_same _ _ _).mono ?_; rintro e w3 ⟨rfl, hb3⟩
  have hz3 : w2.heap.size + 1 ≤ w3.heap.size := by have := hb3.size; first | omega | (simp at this; omega)
  have l3_0 : w1.heap.size < w3.heap.size := by omega
  have c3_0_0 : w3.cell? ⟨w1.heap.size, 0, none⟩ = some (.int .i64 (mk n d).1) := by rw [hb3.cell (p := ⟨w1.heap.size, 0, none⟩) (by go_size)]; first | assumption | (simp [go_sem]; done) | (simp [go_sem, *]; done)
  have c3_0_1 : w3.cell? ⟨w1.heap.size, 1, none⟩ = some (.int .i64 (mk n d).2) := by rw [hb3.cell (p := ⟨w1.heap.size, 1, none⟩) (by go_size)]; first | assumption | (simp [go_sem]; done) | (simp [go_sem, *]; done)
  have l3_1 : w2.heap.size < w3.heap.size := by omega
  have c3_1_0 : w3.cell? ⟨w2.heap.size, 0, none⟩ = some (.int .i64 (mk n d).1) := by rw [hb3.cell (p := ⟨w2.heap.size, 0, none⟩) (by go_size)]; first | assumption | (simp [go_sem]; done) | (simp [go_sem, *]; done)
  have c3_1_1 : w3.cell? ⟨w2.heap.size, 1, none⟩ = some (.int .i64 (mk n d).2) := by rw [hb3.cell (p := ⟨w2.heap.size, 1, none⟩) (by go_size)]; first | assumption | (simp [go_sem]; done) | (simp [go_sem, *]; done)
  clear c2_0_0 c2_0_1
  go_wp2_with fail
  go_ret
  exact ⟨rfl, by repeat' (first | exact Below.refl _ _ | assumption | refine Below.alloc ?_ ?_ _ | refine below_drewN ?_ _ | refine Below.drew ?_ | refine Below.setCell ?_ ?_ _ | refine below_then (by assumption) ?_ ?_ | omega | (simp; done) | (simp; omega))⟩
theorem law_Constants (w : World) : Calls Try.prog 3 #[] w fun e w' => e = .returned (.bool true) ∧ Below w.heap.size w w' := by
  go_enter Try.func3, Try.ntmps3
  go_wp2
  go_ret
  exact ⟨rfl, by repeat' (first | exact Below.refl _ _ | assumption | refine Below.alloc ?_ ?_ _ | refine below_drewN ?_ _ | refine Below.drew ?_ | refine Below.setCell ?_ ?_ _ | refine below_then (by assumption) ?_ ?_ | omega | (simp; done) | (simp; omega))⟩
end Go.Proofs.Ytekjenbgdllghaa
