/-
  Contracts of the reference's l5Rule and the program's aFactor. (Printed by gen/unitfn.py.)
-/
import Derived.Test.YtccejhhhengpcaaUnitTab
import Derived.Test.YtccejhhhengpcaaUnitRule
import Derived.Test.YtccejhhhengpcaaOps6
import Derived.Test.YtccejhhhengpcaaQuietTail
namespace Go.Proofs.Ytccejhhhengpcaa
open Go.RowKit num
set_option linter.unusedVariables false
set_option linter.unusedSimpArgs false

/-- a ratio that may be a factor -/
def facB (a b : Int) : Bool := isR a b && decide (1 ≤ a ∧ a ≤ 1000) && decide (b ≤ 1000)
theorem aFactor_no1 (a b : Int) (w : World) (h : isR a b = false) :
    Calls Try.prog 40 #[.agg #[.int .i64 a, .int .i64 b]] w fun e w' => e = .returned (.bool (facB a b)) ∧ Below w.heap.size w w' := by
  have e0 : facB a b = false := by unfold facB; simp [*]
  rw [e0]
  go_enter Try.func40, Try.ntmps40
  go_wp2_with fail
  refine (impl_isRatio a b _).mono ?_; rintro e w1 ⟨rfl, hb1⟩
  have hz1 : w.heap.size + 1 ≤ w1.heap.size := by have := hb1.size; first | omega | (simp at this; omega)
  have l1_0 : w.heap.size < w1.heap.size := by omega
  have c1_0_0 : w1.cell? ⟨w.heap.size, 0, none⟩ = some (.int .i64 a) := by rw [hb1.cell (p := ⟨w.heap.size, 0, none⟩) (by go_size)]; first | assumption | (simp [go_sem]; done) | (simp [go_sem, *]; done)
  have c1_0_1 : w1.cell? ⟨w.heap.size, 1, none⟩ = some (.int .i64 b) := by rw [hb1.cell (p := ⟨w.heap.size, 1, none⟩) (by go_size)]; first | assumption | (simp [go_sem]; done) | (simp [go_sem, *]; done)
  rw [h]
  go_wp2_with (first | (go_at_call 51; refine (in_yes _ _ _ _ (by omega)).mono ?_; rintro e w' ⟨rfl, rfl⟩) | (go_at_call 51; refine (in_no _ _ _ _ (by omega)).mono ?_; rintro e w' ⟨rfl, rfl⟩))
  go_ret
  exact ⟨rfl, by repeat' (first | (with_reducible exact Below.refl _ _) | assumption | (with_reducible refine below_then (by assumption) ?_ ?_) | (with_reducible refine Below.alloc ?_ ?_ _) | (with_reducible refine below_drewN ?_ _) | (with_reducible refine Below.drew ?_) | (with_reducible refine Below.setCell ?_ ?_ _) | omega | (simp; done) | (simp; omega))⟩
theorem aFactor_no2 (a b : Int) (w : World) (h : isR a b = true) (h2 : ¬ (1 ≤ a ∧ a ≤ 1000)) :
    Calls Try.prog 40 #[.agg #[.int .i64 a, .int .i64 b]] w fun e w' => e = .returned (.bool (facB a b)) ∧ Below w.heap.size w w' := by
  have e0 : facB a b = false := by unfold facB; simp [*]
  rw [e0]
  go_enter Try.func40, Try.ntmps40
  go_wp2_with fail
  refine (impl_isRatio a b _).mono ?_; rintro e w1 ⟨rfl, hb1⟩
  have hz1 : w.heap.size + 1 ≤ w1.heap.size := by have := hb1.size; first | omega | (simp at this; omega)
  have l1_0 : w.heap.size < w1.heap.size := by omega
  have c1_0_0 : w1.cell? ⟨w.heap.size, 0, none⟩ = some (.int .i64 a) := by rw [hb1.cell (p := ⟨w.heap.size, 0, none⟩) (by go_size)]; first | assumption | (simp [go_sem]; done) | (simp [go_sem, *]; done)
  have c1_0_1 : w1.cell? ⟨w.heap.size, 1, none⟩ = some (.int .i64 b) := by rw [hb1.cell (p := ⟨w.heap.size, 1, none⟩) (by go_size)]; first | assumption | (simp [go_sem]; done) | (simp [go_sem, *]; done)
  rw [h]
  go_wp2_with (first | (go_at_call 51; refine (in_yes _ _ _ _ (by omega)).mono ?_; rintro e w' ⟨rfl, rfl⟩) | (go_at_call 51; refine (in_no _ _ _ _ (by omega)).mono ?_; rintro e w' ⟨rfl, rfl⟩))
  go_ret
  exact ⟨rfl, by repeat' (first | (with_reducible exact Below.refl _ _) | assumption | (with_reducible refine below_then (by assumption) ?_ ?_) | (with_reducible refine Below.alloc ?_ ?_ _) | (with_reducible refine below_drewN ?_ _) | (with_reducible refine Below.drew ?_) | (with_reducible refine Below.setCell ?_ ?_ _) | omega | (simp; done) | (simp; omega))⟩
theorem aFactor_no3 (a b : Int) (w : World) (h : isR a b = true) (h2 : 1 ≤ a ∧ a ≤ 1000) (h3 : ¬ b ≤ 1000) :
    Calls Try.prog 40 #[.agg #[.int .i64 a, .int .i64 b]] w fun e w' => e = .returned (.bool (facB a b)) ∧ Below w.heap.size w w' := by
  have e0 : facB a b = false := by unfold facB; simp [*]
  rw [e0]
  go_enter Try.func40, Try.ntmps40
  go_wp2_with fail
  refine (impl_isRatio a b _).mono ?_; rintro e w1 ⟨rfl, hb1⟩
  have hz1 : w.heap.size + 1 ≤ w1.heap.size := by have := hb1.size; first | omega | (simp at this; omega)
  have l1_0 : w.heap.size < w1.heap.size := by omega
  have c1_0_0 : w1.cell? ⟨w.heap.size, 0, none⟩ = some (.int .i64 a) := by rw [hb1.cell (p := ⟨w.heap.size, 0, none⟩) (by go_size)]; first | assumption | (simp [go_sem]; done) | (simp [go_sem, *]; done)
  have c1_0_1 : w1.cell? ⟨w.heap.size, 1, none⟩ = some (.int .i64 b) := by rw [hb1.cell (p := ⟨w.heap.size, 1, none⟩) (by go_size)]; first | assumption | (simp [go_sem]; done) | (simp [go_sem, *]; done)
  rw [h]
  go_wp2_with (first | (go_at_call 51; refine (in_yes _ _ _ _ (by omega)).mono ?_; rintro e w' ⟨rfl, rfl⟩) | (go_at_call 51; refine (in_no _ _ _ _ (by omega)).mono ?_; rintro e w' ⟨rfl, rfl⟩))
  go_ret
  exact ⟨by first | rfl | simp [h3], by repeat' (first | (with_reducible exact Below.refl _ _) | assumption | (with_reducible refine below_then (by assumption) ?_ ?_) | (with_reducible refine Below.alloc ?_ ?_ _) | (with_reducible refine below_drewN ?_ _) | (with_reducible refine Below.drew ?_) | (with_reducible refine Below.setCell ?_ ?_ _) | omega | (simp; done) | (simp; omega))⟩
theorem aFactor_yes (a b : Int) (w : World) (h : isR a b = true) (h2 : 1 ≤ a ∧ a ≤ 1000) (h3 : b ≤ 1000) :
    Calls Try.prog 40 #[.agg #[.int .i64 a, .int .i64 b]] w fun e w' => e = .returned (.bool (facB a b)) ∧ Below w.heap.size w w' := by
  have e0 : facB a b = true := by unfold facB; simp [*]
  rw [e0]
  go_enter Try.func40, Try.ntmps40
  go_wp2_with fail
  refine (impl_isRatio a b _).mono ?_; rintro e w1 ⟨rfl, hb1⟩
  have hz1 : w.heap.size + 1 ≤ w1.heap.size := by have := hb1.size; first | omega | (simp at this; omega)
  have l1_0 : w.heap.size < w1.heap.size := by omega
  have c1_0_0 : w1.cell? ⟨w.heap.size, 0, none⟩ = some (.int .i64 a) := by rw [hb1.cell (p := ⟨w.heap.size, 0, none⟩) (by go_size)]; first | assumption | (simp [go_sem]; done) | (simp [go_sem, *]; done)
  have c1_0_1 : w1.cell? ⟨w.heap.size, 1, none⟩ = some (.int .i64 b) := by rw [hb1.cell (p := ⟨w.heap.size, 1, none⟩) (by go_size)]; first | assumption | (simp [go_sem]; done) | (simp [go_sem, *]; done)
  rw [h]
  go_wp2_with (first | (go_at_call 51; refine (in_yes _ _ _ _ (by omega)).mono ?_; rintro e w' ⟨rfl, rfl⟩) | (go_at_call 51; refine (in_no _ _ _ _ (by omega)).mono ?_; rintro e w' ⟨rfl, rfl⟩))
  go_ret
  exact ⟨by first | rfl | simp [h3], by repeat' (first | (with_reducible exact Below.refl _ _) | assumption | (with_reducible refine below_then (by assumption) ?_ ?_) | (with_reducible refine Below.alloc ?_ ?_ _) | (with_reducible refine below_drewN ?_ _) | (with_reducible refine Below.drew ?_) | (with_reducible refine Below.setCell ?_ ?_ _) | omega | (simp; done) | (simp; omega))⟩
theorem aFactor_any (a b : Int) (w : World) :
    Calls Try.prog 40 #[.agg #[.int .i64 a, .int .i64 b]] w fun e w' => e = .returned (.bool (facB a b)) ∧ Below w.heap.size w w' := by
  cases h : isR a b
  · exact aFactor_no1 a b w h
  · by_cases h2 : 1 ≤ a ∧ a ≤ 1000
    · by_cases h3 : b ≤ 1000
      · exact aFactor_yes a b w h h2 h3
      · exact aFactor_no3 a b w h h2 h3
    · exact aFactor_no2 a b w h h2
set_option maxHeartbeats 1000000 in
theorem l5Rule_no1 (f t : ByteArray) (a b : Int) (w : World) (zf : f.size ≤ 9223372036854775807) (zt : t.size ≤ 9223372036854775807) (h1 : isC f = false) :
    Calls Try.prog 35 #[.agg #[.string f, .string t, .int .i64 a, .int .i64 b]] w fun e w' => e = .returned (.bool (ruleB f t a b)) ∧ Below w.heap.size w w' := by
  have e0 : ruleB f t a b = false := by unfold ruleB; simp [*]
  rw [e0]
  clear e0
  go_enter Try.func35, Try.ntmps35
  go_wp2_with fail
  refine (spec_isCode f _ zf).mono ?_; rintro e w1 ⟨rfl, hw⟩; obtain rfl := hw.symm
  rw [h1]
  go_wp2_with fail
  go_ret
  exact ⟨rfl, by repeat' (first | (with_reducible exact Below.refl _ _) | assumption | (with_reducible refine below_then (by assumption) ?_ ?_) | (with_reducible refine Below.alloc ?_ ?_ _) | (with_reducible refine below_drewN ?_ _) | (with_reducible refine Below.drew ?_) | (with_reducible refine Below.setCell ?_ ?_ _) | omega | (simp; done) | (simp; omega))⟩
set_option maxHeartbeats 1000000 in
theorem l5Rule_no2 (f t : ByteArray) (a b : Int) (w : World) (zf : f.size ≤ 9223372036854775807) (zt : t.size ≤ 9223372036854775807) (h1 : isC f = true) (h2 : isC t = false) :
    Calls Try.prog 35 #[.agg #[.string f, .string t, .int .i64 a, .int .i64 b]] w fun e w' => e = .returned (.bool (ruleB f t a b)) ∧ Below w.heap.size w w' := by
  have e0 : ruleB f t a b = false := by unfold ruleB; simp [*]
  rw [e0]
  clear e0
  go_enter Try.func35, Try.ntmps35
  go_wp2_with fail
  refine (spec_isCode f _ zf).mono ?_; rintro e w1 ⟨rfl, hw⟩; obtain rfl := hw.symm
  rw [h1]
  go_wp2_with fail
  refine (spec_isCode t _ zt).mono ?_; rintro e w1 ⟨rfl, hw⟩; obtain rfl := hw.symm
  rw [h2]
  go_wp2_with fail
  go_ret
  exact ⟨rfl, by repeat' (first | (with_reducible exact Below.refl _ _) | assumption | (with_reducible refine below_then (by assumption) ?_ ?_) | (with_reducible refine Below.alloc ?_ ?_ _) | (with_reducible refine below_drewN ?_ _) | (with_reducible refine Below.drew ?_) | (with_reducible refine Below.setCell ?_ ?_ _) | omega | (simp; done) | (simp; omega))⟩
set_option maxHeartbeats 1000000 in
theorem l5Rule_no3 (f t : ByteArray) (a b : Int) (w : World) (zf : f.size ≤ 9223372036854775807) (zt : t.size ≤ 9223372036854775807) (h1 : isC f = true) (h2 : isC t = true) (h3 : f = t) :
    Calls Try.prog 35 #[.agg #[.string f, .string t, .int .i64 a, .int .i64 b]] w fun e w' => e = .returned (.bool (ruleB f t a b)) ∧ Below w.heap.size w w' := by
  have e0 : ruleB f t a b = false := by unfold ruleB; simp [*]
  rw [e0]
  clear e0
  subst h3
  have hx : (f.toList != f.toList) = false := by simp
  go_enter Try.func35, Try.ntmps35
  go_wp2_with fail
  refine (spec_isCode f _ zf).mono ?_; rintro e w1 ⟨rfl, hw⟩; obtain rfl := hw.symm
  rw [h1]
  go_wp2_with fail
  refine (spec_isCode f _ zf).mono ?_; rintro e w1 ⟨rfl, hw⟩; obtain rfl := hw.symm
  rw [h1]
  go_wp2_with fail
  go_ret
  exact ⟨rfl, by repeat' (first | (with_reducible exact Below.refl _ _) | assumption | (with_reducible refine below_then (by assumption) ?_ ?_) | (with_reducible refine Below.alloc ?_ ?_ _) | (with_reducible refine below_drewN ?_ _) | (with_reducible refine Below.drew ?_) | (with_reducible refine Below.setCell ?_ ?_ _) | omega | (simp; done) | (simp; omega))⟩
set_option maxHeartbeats 1000000 in
theorem l5Rule_no4 (f t : ByteArray) (a b : Int) (w : World) (zf : f.size ≤ 9223372036854775807) (zt : t.size ≤ 9223372036854775807) (h1 : isC f = true) (h2 : isC t = true) (h3 : f ≠ t) (h4 : isR a b = false) :
    Calls Try.prog 35 #[.agg #[.string f, .string t, .int .i64 a, .int .i64 b]] w fun e w' => e = .returned (.bool (ruleB f t a b)) ∧ Below w.heap.size w w' := by
  have e0 : ruleB f t a b = false := by unfold ruleB; simp [*]
  rw [e0]
  clear e0
  have hx := txt_other h3
  have hx2 : (f.toList != t.toList) = true := by rw [bne, hx]; rfl
  clear h3
  go_enter Try.func35, Try.ntmps35
  go_wp2_with fail
  refine (spec_isCode f _ zf).mono ?_; rintro e w1 ⟨rfl, hw⟩; obtain rfl := hw.symm
  rw [h1]
  go_wp2_with fail
  refine (spec_isCode t _ zt).mono ?_; rintro e w1 ⟨rfl, hw⟩; obtain rfl := hw.symm
  rw [h2]
  go_wp2_with fail
  refine (spec_isRatio a b _).mono ?_; rintro e w1 ⟨rfl, hb1⟩
  have hz1 : w.heap.size + 1 ≤ w1.heap.size := by have := hb1.size; first | omega | (simp at this; omega)
  have l1_0 : w.heap.size < w1.heap.size := by omega
  have c1_0_0 : w1.cell? ⟨w.heap.size, 0, none⟩ = some (.string f) := by rw [hb1.cell (p := ⟨w.heap.size, 0, none⟩) (by go_size)]; first | assumption | (simp [go_sem]; done) | (simp [go_sem, *]; done)
  have c1_0_1 : w1.cell? ⟨w.heap.size, 1, none⟩ = some (.string t) := by rw [hb1.cell (p := ⟨w.heap.size, 1, none⟩) (by go_size)]; first | assumption | (simp [go_sem]; done) | (simp [go_sem, *]; done)
  have c1_0_2 : w1.cell? ⟨w.heap.size, 2, none⟩ = some (.int .i64 a) := by rw [hb1.cell (p := ⟨w.heap.size, 2, none⟩) (by go_size)]; first | assumption | (simp [go_sem]; done) | (simp [go_sem, *]; done)
  have c1_0_3 : w1.cell? ⟨w.heap.size, 3, none⟩ = some (.int .i64 b) := by rw [hb1.cell (p := ⟨w.heap.size, 3, none⟩) (by go_size)]; first | assumption | (simp [go_sem]; done) | (simp [go_sem, *]; done)
  rw [h4]
  go_wp2_with (first | (go_at_call 56; refine (l1In_yes _ _ _ _ (by omega)).mono ?_; rintro e w' ⟨rfl, rfl⟩) | (go_at_call 56; refine (l1In_no _ _ _ _ (by omega)).mono ?_; rintro e w' ⟨rfl, rfl⟩))
  go_ret
  exact ⟨rfl, by repeat' (first | (with_reducible exact Below.refl _ _) | assumption | (with_reducible refine below_then (by assumption) ?_ ?_) | (with_reducible refine Below.alloc ?_ ?_ _) | (with_reducible refine below_drewN ?_ _) | (with_reducible refine Below.drew ?_) | (with_reducible refine Below.setCell ?_ ?_ _) | omega | (simp; done) | (simp; omega))⟩
set_option maxHeartbeats 1000000 in
theorem l5Rule_no5 (f t : ByteArray) (a b : Int) (w : World) (zf : f.size ≤ 9223372036854775807) (zt : t.size ≤ 9223372036854775807) (h1 : isC f = true) (h2 : isC t = true) (h3 : f ≠ t) (h4 : isR a b = true) (h5 : ¬ (1 ≤ a ∧ a ≤ 1000)) :
    Calls Try.prog 35 #[.agg #[.string f, .string t, .int .i64 a, .int .i64 b]] w fun e w' => e = .returned (.bool (ruleB f t a b)) ∧ Below w.heap.size w w' := by
  have e0 : ruleB f t a b = false := by unfold ruleB; simp [*]
  rw [e0]
  clear e0
  have hx := txt_other h3
  have hx2 : (f.toList != t.toList) = true := by rw [bne, hx]; rfl
  clear h3
  go_enter Try.func35, Try.ntmps35
  go_wp2_with fail
  refine (spec_isCode f _ zf).mono ?_; rintro e w1 ⟨rfl, hw⟩; obtain rfl := hw.symm
  rw [h1]
  go_wp2_with fail
  refine (spec_isCode t _ zt).mono ?_; rintro e w1 ⟨rfl, hw⟩; obtain rfl := hw.symm
  rw [h2]
  go_wp2_with fail
  refine (spec_isRatio a b _).mono ?_; rintro e w1 ⟨rfl, hb1⟩
  have hz1 : w.heap.size + 1 ≤ w1.heap.size := by have := hb1.size; first | omega | (simp at this; omega)
  have l1_0 : w.heap.size < w1.heap.size := by omega
  have c1_0_0 : w1.cell? ⟨w.heap.size, 0, none⟩ = some (.string f) := by rw [hb1.cell (p := ⟨w.heap.size, 0, none⟩) (by go_size)]; first | assumption | (simp [go_sem]; done) | (simp [go_sem, *]; done)
  have c1_0_1 : w1.cell? ⟨w.heap.size, 1, none⟩ = some (.string t) := by rw [hb1.cell (p := ⟨w.heap.size, 1, none⟩) (by go_size)]; first | assumption | (simp [go_sem]; done) | (simp [go_sem, *]; done)
  have c1_0_2 : w1.cell? ⟨w.heap.size, 2, none⟩ = some (.int .i64 a) := by rw [hb1.cell (p := ⟨w.heap.size, 2, none⟩) (by go_size)]; first | assumption | (simp [go_sem]; done) | (simp [go_sem, *]; done)
  have c1_0_3 : w1.cell? ⟨w.heap.size, 3, none⟩ = some (.int .i64 b) := by rw [hb1.cell (p := ⟨w.heap.size, 3, none⟩) (by go_size)]; first | assumption | (simp [go_sem]; done) | (simp [go_sem, *]; done)
  rw [h4]
  go_wp2_with (first | (go_at_call 56; refine (l1In_yes _ _ _ _ (by omega)).mono ?_; rintro e w' ⟨rfl, rfl⟩) | (go_at_call 56; refine (l1In_no _ _ _ _ (by omega)).mono ?_; rintro e w' ⟨rfl, rfl⟩))
  go_ret
  exact ⟨rfl, by repeat' (first | (with_reducible exact Below.refl _ _) | assumption | (with_reducible refine below_then (by assumption) ?_ ?_) | (with_reducible refine Below.alloc ?_ ?_ _) | (with_reducible refine below_drewN ?_ _) | (with_reducible refine Below.drew ?_) | (with_reducible refine Below.setCell ?_ ?_ _) | omega | (simp; done) | (simp; omega))⟩
set_option maxHeartbeats 1000000 in
theorem l5Rule_no6 (f t : ByteArray) (a b : Int) (w : World) (zf : f.size ≤ 9223372036854775807) (zt : t.size ≤ 9223372036854775807) (h1 : isC f = true) (h2 : isC t = true) (h3 : f ≠ t) (h4 : isR a b = true) (h5 : 1 ≤ a ∧ a ≤ 1000) (h6 : ¬ b ≤ 1000) :
    Calls Try.prog 35 #[.agg #[.string f, .string t, .int .i64 a, .int .i64 b]] w fun e w' => e = .returned (.bool (ruleB f t a b)) ∧ Below w.heap.size w w' := by
  have e0 : ruleB f t a b = false := by unfold ruleB; simp [*]
  rw [e0]
  clear e0
  have hx := txt_other h3
  have hx2 : (f.toList != t.toList) = true := by rw [bne, hx]; rfl
  clear h3
  go_enter Try.func35, Try.ntmps35
  go_wp2_with fail
  refine (spec_isCode f _ zf).mono ?_; rintro e w1 ⟨rfl, hw⟩; obtain rfl := hw.symm
  rw [h1]
  go_wp2_with fail
  refine (spec_isCode t _ zt).mono ?_; rintro e w1 ⟨rfl, hw⟩; obtain rfl := hw.symm
  rw [h2]
  go_wp2_with fail
  refine (spec_isRatio a b _).mono ?_; rintro e w1 ⟨rfl, hb1⟩
  have hz1 : w.heap.size + 1 ≤ w1.heap.size := by have := hb1.size; first | omega | (simp at this; omega)
  have l1_0 : w.heap.size < w1.heap.size := by omega
  have c1_0_0 : w1.cell? ⟨w.heap.size, 0, none⟩ = some (.string f) := by rw [hb1.cell (p := ⟨w.heap.size, 0, none⟩) (by go_size)]; first | assumption | (simp [go_sem]; done) | (simp [go_sem, *]; done)
  have c1_0_1 : w1.cell? ⟨w.heap.size, 1, none⟩ = some (.string t) := by rw [hb1.cell (p := ⟨w.heap.size, 1, none⟩) (by go_size)]; first | assumption | (simp [go_sem]; done) | (simp [go_sem, *]; done)
  have c1_0_2 : w1.cell? ⟨w.heap.size, 2, none⟩ = some (.int .i64 a) := by rw [hb1.cell (p := ⟨w.heap.size, 2, none⟩) (by go_size)]; first | assumption | (simp [go_sem]; done) | (simp [go_sem, *]; done)
  have c1_0_3 : w1.cell? ⟨w.heap.size, 3, none⟩ = some (.int .i64 b) := by rw [hb1.cell (p := ⟨w.heap.size, 3, none⟩) (by go_size)]; first | assumption | (simp [go_sem]; done) | (simp [go_sem, *]; done)
  rw [h4]
  go_wp2_with (first | (go_at_call 56; refine (l1In_yes _ _ _ _ (by omega)).mono ?_; rintro e w' ⟨rfl, rfl⟩) | (go_at_call 56; refine (l1In_no _ _ _ _ (by omega)).mono ?_; rintro e w' ⟨rfl, rfl⟩))
  go_ret
  exact ⟨by first | rfl | simp [h6], by repeat' (first | (with_reducible exact Below.refl _ _) | assumption | (with_reducible refine below_then (by assumption) ?_ ?_) | (with_reducible refine Below.alloc ?_ ?_ _) | (with_reducible refine below_drewN ?_ _) | (with_reducible refine Below.drew ?_) | (with_reducible refine Below.setCell ?_ ?_ _) | omega | (simp; done) | (simp; omega))⟩
set_option maxHeartbeats 1000000 in
theorem l5Rule_yes (f t : ByteArray) (a b : Int) (w : World) (zf : f.size ≤ 9223372036854775807) (zt : t.size ≤ 9223372036854775807) (h1 : isC f = true) (h2 : isC t = true) (h3 : f ≠ t) (h4 : isR a b = true) (h5 : 1 ≤ a ∧ a ≤ 1000) (h6 : b ≤ 1000) :
    Calls Try.prog 35 #[.agg #[.string f, .string t, .int .i64 a, .int .i64 b]] w fun e w' => e = .returned (.bool (ruleB f t a b)) ∧ Below w.heap.size w w' := by
  have e0 : ruleB f t a b = true := by unfold ruleB; simp [*]
  rw [e0]
  clear e0
  have hx := txt_other h3
  have hx2 : (f.toList != t.toList) = true := by rw [bne, hx]; rfl
  clear h3
  go_enter Try.func35, Try.ntmps35
  go_wp2_with fail
  refine (spec_isCode f _ zf).mono ?_; rintro e w1 ⟨rfl, hw⟩; obtain rfl := hw.symm
  rw [h1]
  go_wp2_with fail
  refine (spec_isCode t _ zt).mono ?_; rintro e w1 ⟨rfl, hw⟩; obtain rfl := hw.symm
  rw [h2]
  go_wp2_with fail
  refine (spec_isRatio a b _).mono ?_; rintro e w1 ⟨rfl, hb1⟩
  have hz1 : w.heap.size + 1 ≤ w1.heap.size := by have := hb1.size; first | omega | (simp at this; omega)
  have l1_0 : w.heap.size < w1.heap.size := by omega
  have c1_0_0 : w1.cell? ⟨w.heap.size, 0, none⟩ = some (.string f) := by rw [hb1.cell (p := ⟨w.heap.size, 0, none⟩) (by go_size)]; first | assumption | (simp [go_sem]; done) | (simp [go_sem, *]; done)
  have c1_0_1 : w1.cell? ⟨w.heap.size, 1, none⟩ = some (.string t) := by rw [hb1.cell (p := ⟨w.heap.size, 1, none⟩) (by go_size)]; first | assumption | (simp [go_sem]; done) | (simp [go_sem, *]; done)
  have c1_0_2 : w1.cell? ⟨w.heap.size, 2, none⟩ = some (.int .i64 a) := by rw [hb1.cell (p := ⟨w.heap.size, 2, none⟩) (by go_size)]; first | assumption | (simp [go_sem]; done) | (simp [go_sem, *]; done)
  have c1_0_3 : w1.cell? ⟨w.heap.size, 3, none⟩ = some (.int .i64 b) := by rw [hb1.cell (p := ⟨w.heap.size, 3, none⟩) (by go_size)]; first | assumption | (simp [go_sem]; done) | (simp [go_sem, *]; done)
  rw [h4]
  go_wp2_with (first | (go_at_call 56; refine (l1In_yes _ _ _ _ (by omega)).mono ?_; rintro e w' ⟨rfl, rfl⟩) | (go_at_call 56; refine (l1In_no _ _ _ _ (by omega)).mono ?_; rintro e w' ⟨rfl, rfl⟩))
  go_ret
  exact ⟨by first | rfl | simp [h6], by repeat' (first | (with_reducible exact Below.refl _ _) | assumption | (with_reducible refine below_then (by assumption) ?_ ?_) | (with_reducible refine Below.alloc ?_ ?_ _) | (with_reducible refine below_drewN ?_ _) | (with_reducible refine Below.drew ?_) | (with_reducible refine Below.setCell ?_ ?_ _) | omega | (simp; done) | (simp; omega))⟩
theorem l5Rule_any (f t : ByteArray) (a b : Int) (w : World) (zf : f.size ≤ 9223372036854775807) (zt : t.size ≤ 9223372036854775807) :
    Calls Try.prog 35 #[.agg #[.string f, .string t, .int .i64 a, .int .i64 b]] w fun e w' => e = .returned (.bool (ruleB f t a b)) ∧ Below w.heap.size w w' := by
  cases h1 : isC f
  · exact l5Rule_no1 f t a b w zf zt h1
  cases h2 : isC t
  · exact l5Rule_no2 f t a b w zf zt h1 h2
  by_cases h3 : f = t
  · exact l5Rule_no3 f t a b w zf zt h1 h2 h3
  cases h4 : isR a b
  · exact l5Rule_no4 f t a b w zf zt h1 h2 h3 h4
  by_cases h5 : 1 ≤ a ∧ a ≤ 1000
  · by_cases h6 : b ≤ 1000
    · exact l5Rule_yes f t a b w zf zt h1 h2 h3 h4 h5 h6
    · exact l5Rule_no6 f t a b w zf zt h1 h2 h3 h4 h5 h6
  · exact l5Rule_no5 f t a b w zf zt h1 h2 h3 h4 h5
theorem ruleB_fac (f t : ByteArray) (a b : Int) : ruleB f t a b = (isC f && isC t && decide (f ≠ t) && facB a b) := by unfold ruleB facB; simp only [Bool.and_assoc]
end Go.Proofs.Ytccejhhhengpcaa
