/-
  Contracts of the functions that draw ratios.
-/
import Derived.Test.YtccejhhhengpcaaDrawInt2
import Derived.Test.YtccejhhhengpcaaOnce2
import Derived.Test.YtccejhhhengpcaaMk6
namespace Go.Proofs.Ytccejhhhengpcaa
open Go.RowKit num
set_option linter.unusedVariables false
set_option linter.unusedSimpArgs false

def AnyRatio (v : Value) : Prop := ∃ a b : Int, v = .agg #[.int .i64 a, .int .i64 b] ∧ -9223372036854775808 ≤ a ∧ a ≤ 9223372036854775807 ∧ -9223372036854775808 ≤ b ∧ b ≤ 9223372036854775807
theorem mk_any_ratio (n d : Int) : AnyRatio (.agg #[.int .i64 (mk n d).1, .int .i64 (mk n d).2]) := by
  have := mk_bounds n d
  exact ⟨_, _, rfl, by omega, by omega, by omega, by omega⟩

set_option maxHeartbeats 1000000 in
theorem l2Any_any (B g : Nat) (w : World) (c : Cur B w g) :
    Calls Try.prog 64 #[.pointer (some ⟨g, 0, none⟩)] w (Drawn B g w AnyRatio) := by
  have hlt := c.lt
  have hB := c.base
  go_enter Try.func64, Try.ntmps64
  go_wp2_with fail
  refine (l1Below_any B g _ _ (c.alloc _) (by omega) (by omega)).mono ?_
  rintro e w1 ⟨v, rfl, ⟨x, rfl, h0, h1⟩, c1, hg1⟩
  have z1 : w.heap.size < w1.heap.size := by have := hg1.size; first | omega | (simp at this; omega)
  have r10 : w1.cell? ⟨w.heap.size, 0, none⟩ = some (.int .i64 0) := by rw [grown_cell hg1 (by first | assumption | (simp; done) | (simp; omega)) (by first | (simp; omega) | omega)]; first | assumption | (simp [go_sem]; done) | (simp [go_sem, *]; done)
  have r11 : w1.cell? ⟨w.heap.size, 1, none⟩ = some (.int .i64 0) := by rw [grown_cell hg1 (by first | assumption | (simp; done) | (simp; omega)) (by first | (simp; omega) | omega)]; first | assumption | (simp [go_sem]; done) | (simp [go_sem, *]; done)
  have s10 : w1.frozen? ⟨w.heap.size, 0, none⟩ = false := by rw [grown_frozen hg1 (by first | assumption | (simp; done) | (simp; omega)) (by first | (simp; omega) | omega)]; first | assumption | (simp [go_sem]; done) | (simp [go_sem, *]; done)
  have s11 : w1.frozen? ⟨w.heap.size, 1, none⟩ = false := by rw [grown_frozen hg1 (by first | assumption | (simp; done) | (simp; omega)) (by first | (simp; omega) | omega)]; first | assumption | (simp [go_sem]; done) | (simp [go_sem, *]; done)

  by_cases x0 : x = 0
  · subst x0
    go_wp2_with fail
    refine bodyPost_ret (by simp [results, Try.results64, go_sem, *]; try rfl) rfl ?_
    exact ⟨_, rfl, ⟨_, _, rfl, by omega, by omega, by omega, by omega⟩, by (repeat' (first | (with_reducible assumption) | (with_reducible refine Cur.setCell ?_ ?_ ?_ _) | (with_reducible refine Cur.alloc ?_ _) | (with_reducible refine Cur.drewN ?_ _) | (with_reducible refine Cur.drew ?_) | (with_reducible refine Cur.call ?_ (by assumption)) | (simp; done) | (simp; omega) | omega)), by (repeat' (first | (with_reducible exact World.grownBy.refl _ _) | (with_reducible assumption) | (with_reducible refine grown_setCell ?_ ?_ _) | (with_reducible refine grown_alloc ?_ _) | (with_reducible refine grown_drewN ?_ _) | (with_reducible refine grown_drew ?_) | (with_reducible refine grown_trans ?_ (by assumption)) | (with_reducible refine grown_call ?_ (by assumption)) | (left; rfl) | (right; simp; done) | (right; simp; omega)))⟩
  by_cases x1 : x = 1
  · subst x1
    go_wp2_with fail
    refine (l1Odd_any B g _ c1).mono ?_
    rintro e w2 ⟨v, rfl, ⟨y, rfl, hy0, hy1⟩, c2, hg2⟩
    have z2 : w.heap.size < w2.heap.size := by have := hg2.size; first | omega | (simp at this; omega)
    have r20 : w2.cell? ⟨w.heap.size, 0, none⟩ = some (.int .i64 0) := by rw [grown_cell hg2 (by first | assumption | (simp; done) | (simp; omega)) (by first | (simp; omega) | omega)]; first | assumption | (simp [go_sem]; done) | (simp [go_sem, *]; done)
    have r21 : w2.cell? ⟨w.heap.size, 1, none⟩ = some (.int .i64 0) := by rw [grown_cell hg2 (by first | assumption | (simp; done) | (simp; omega)) (by first | (simp; omega) | omega)]; first | assumption | (simp [go_sem]; done) | (simp [go_sem, *]; done)
    have s20 : w2.frozen? ⟨w.heap.size, 0, none⟩ = false := by rw [grown_frozen hg2 (by first | assumption | (simp; done) | (simp; omega)) (by first | (simp; omega) | omega)]; first | assumption | (simp [go_sem]; done) | (simp [go_sem, *]; done)
    have s21 : w2.frozen? ⟨w.heap.size, 1, none⟩ = false := by rw [grown_frozen hg2 (by first | assumption | (simp; done) | (simp; omega)) (by first | (simp; omega) | omega)]; first | assumption | (simp [go_sem]; done) | (simp [go_sem, *]; done)
    clear r10 r11 s10 s11
    go_wp2_with fail
    refine (l1PickInt_any B g w2.heap.size 5 5 _ AnyInt ?c1 ?c2 ?c3 ?c4 ?c5 ?c6).mono ?_
    case c1 => exact c2.alloc _
    case c2 => omega
    case c3 => omega
    case c4 => have := c2.lt; omega
    case c5 => simp
    case c6 =>
      refine pick_lit rfl ?_
      intro v hv
      simp at hv
      rcases hv with rfl | rfl | rfl | rfl | rfl <;> exact ⟨_, rfl, _, rfl, by omega, by omega⟩
    rintro e w3 ⟨v, rfl, ⟨z, rfl, hz0, hz1⟩, c3, hg3⟩
    have z3 : w.heap.size < w3.heap.size := by have := hg3.size; first | omega | (simp at this; omega)
    have r30 : w3.cell? ⟨w.heap.size, 0, none⟩ = some (.int .i64 0) := by rw [grown_cell hg3 (by first | assumption | (simp; done) | (simp; omega)) (by first | (simp; omega) | omega)]; first | assumption | (simp [go_sem]; done) | (simp [go_sem, *]; done)
    have r31 : w3.cell? ⟨w.heap.size, 1, none⟩ = some (.int .i64 0) := by rw [grown_cell hg3 (by first | assumption | (simp; done) | (simp; omega)) (by first | (simp; omega) | omega)]; first | assumption | (simp [go_sem]; done) | (simp [go_sem, *]; done)
    have s30 : w3.frozen? ⟨w.heap.size, 0, none⟩ = false := by rw [grown_frozen hg3 (by first | assumption | (simp; done) | (simp; omega)) (by first | (simp; omega) | omega)]; first | assumption | (simp [go_sem]; done) | (simp [go_sem, *]; done)
    have s31 : w3.frozen? ⟨w.heap.size, 1, none⟩ = false := by rw [grown_frozen hg3 (by first | assumption | (simp; done) | (simp; omega)) (by first | (simp; omega) | omega)]; first | assumption | (simp [go_sem]; done) | (simp [go_sem, *]; done)
    clear r20 r21 s20 s21
    go_wp2_with fail
    refine bodyPost_ret (by simp [results, Try.results64, go_sem, *]; try rfl) rfl ?_
    exact ⟨_, rfl, ⟨_, _, rfl, by omega, by omega, by omega, by omega⟩, by (repeat' (first | (with_reducible assumption) | (with_reducible refine Cur.setCell ?_ ?_ ?_ _) | (with_reducible refine Cur.alloc ?_ _) | (with_reducible refine Cur.drewN ?_ _) | (with_reducible refine Cur.drew ?_) | (with_reducible refine Cur.call ?_ (by assumption)) | (simp; done) | (simp; omega) | omega)), by (repeat' (first | (with_reducible exact World.grownBy.refl _ _) | (with_reducible assumption) | (with_reducible refine grown_setCell ?_ ?_ _) | (with_reducible refine grown_alloc ?_ _) | (with_reducible refine grown_drewN ?_ _) | (with_reducible refine grown_drew ?_) | (with_reducible refine grown_trans ?_ (by assumption)) | (with_reducible refine grown_call ?_ (by assumption)) | (left; rfl) | (right; simp; done) | (right; simp; omega)))⟩
  by_cases x2 : x = 2
  · subst x2
    go_wp2_with fail
    refine (l1Below_any B g _ _ c1 (by omega) (by omega)).mono ?_
    rintro e w2 ⟨v, rfl, ⟨y, rfl, hy0, hy1⟩, c2, hg2⟩
    have z2 : w.heap.size < w2.heap.size := by have := hg2.size; first | omega | (simp at this; omega)
    have r20 : w2.cell? ⟨w.heap.size, 0, none⟩ = some (.int .i64 0) := by rw [grown_cell hg2 (by first | assumption | (simp; done) | (simp; omega)) (by first | (simp; omega) | omega)]; first | assumption | (simp [go_sem]; done) | (simp [go_sem, *]; done)
    have r21 : w2.cell? ⟨w.heap.size, 1, none⟩ = some (.int .i64 0) := by rw [grown_cell hg2 (by first | assumption | (simp; done) | (simp; omega)) (by first | (simp; omega) | omega)]; first | assumption | (simp [go_sem]; done) | (simp [go_sem, *]; done)
    have s20 : w2.frozen? ⟨w.heap.size, 0, none⟩ = false := by rw [grown_frozen hg2 (by first | assumption | (simp; done) | (simp; omega)) (by first | (simp; omega) | omega)]; first | assumption | (simp [go_sem]; done) | (simp [go_sem, *]; done)
    have s21 : w2.frozen? ⟨w.heap.size, 1, none⟩ = false := by rw [grown_frozen hg2 (by first | assumption | (simp; done) | (simp; omega)) (by first | (simp; omega) | omega)]; first | assumption | (simp [go_sem]; done) | (simp [go_sem, *]; done)
    clear r10 r11 s10 s11
    go_wp2_with fail
    refine (l1Below_any B g _ _ c2 (by omega) (by omega)).mono ?_
    rintro e w3 ⟨v, rfl, ⟨z, rfl, hz0, hz1⟩, c3, hg3⟩
    have z3 : w.heap.size < w3.heap.size := by have := hg3.size; first | omega | (simp at this; omega)
    have r30 : w3.cell? ⟨w.heap.size, 0, none⟩ = some (.int .i64 0) := by rw [grown_cell hg3 (by first | assumption | (simp; done) | (simp; omega)) (by first | (simp; omega) | omega)]; first | assumption | (simp [go_sem]; done) | (simp [go_sem, *]; done)
    have r31 : w3.cell? ⟨w.heap.size, 1, none⟩ = some (.int .i64 0) := by rw [grown_cell hg3 (by first | assumption | (simp; done) | (simp; omega)) (by first | (simp; omega) | omega)]; first | assumption | (simp [go_sem]; done) | (simp [go_sem, *]; done)
    have s30 : w3.frozen? ⟨w.heap.size, 0, none⟩ = false := by rw [grown_frozen hg3 (by first | assumption | (simp; done) | (simp; omega)) (by first | (simp; omega) | omega)]; first | assumption | (simp [go_sem]; done) | (simp [go_sem, *]; done)
    have s31 : w3.frozen? ⟨w.heap.size, 1, none⟩ = false := by rw [grown_frozen hg3 (by first | assumption | (simp; done) | (simp; omega)) (by first | (simp; omega) | omega)]; first | assumption | (simp [go_sem]; done) | (simp [go_sem, *]; done)
    clear r20 r21 s20 s21
    go_wp2_with fail
    refine (spec_mk_any _ _ _).mono ?_
    rintro e w4 ⟨rfl, hb4⟩
    have z4 : w.heap.size < w4.heap.size := by have := hb4.size; first | omega | (simp at this; omega)
    have r40 : w4.cell? ⟨w.heap.size, 0, none⟩ = some (.int .i64 0) := (hb4.cell (p := ⟨w.heap.size, 0, none⟩) (by assumption)).trans (by assumption)
    have r41 : w4.cell? ⟨w.heap.size, 1, none⟩ = some (.int .i64 0) := (hb4.cell (p := ⟨w.heap.size, 1, none⟩) (by assumption)).trans (by assumption)
    have s40 : w4.frozen? ⟨w.heap.size, 0, none⟩ = false := (hb4.frozen (p := ⟨w.heap.size, 0, none⟩) (by assumption)).trans (by assumption)
    have s41 : w4.frozen? ⟨w.heap.size, 1, none⟩ = false := (hb4.frozen (p := ⟨w.heap.size, 1, none⟩) (by assumption)).trans (by assumption)
    clear r30 r31 s30 s31
    go_wp2_with fail
    refine bodyPost_ret (by simp [results, Try.results64, go_sem, *]; try rfl) rfl ?_
    exact ⟨_, rfl, mk_any_ratio _ _, by (repeat' (first | (with_reducible assumption) | (with_reducible refine Cur.setCell ?_ ?_ ?_ _) | (with_reducible refine Cur.alloc ?_ _) | (with_reducible refine Cur.drewN ?_ _) | (with_reducible refine Cur.drew ?_) | (with_reducible refine Cur.call ?_ (by assumption)) | (simp; done) | (simp; omega) | omega)), by (repeat' (first | (with_reducible exact World.grownBy.refl _ _) | (with_reducible assumption) | (with_reducible refine grown_setCell ?_ ?_ _) | (with_reducible refine grown_alloc ?_ _) | (with_reducible refine grown_drewN ?_ _) | (with_reducible refine grown_drew ?_) | (with_reducible refine grown_trans ?_ (by assumption)) | (with_reducible refine grown_call ?_ (by assumption)) | (left; rfl) | (right; simp; done) | (right; simp; omega)))⟩
  · have e0 : (x == 0) = false := by simp [x0]
    have e1 : (x == 1) = false := by simp [x1]
    have e2 : (x == 2) = false := by simp [x2]
    go_wp2_with fail
    refine (l1Below_any B g _ _ c1 (by omega) (by omega)).mono ?_
    rintro e w2 ⟨v, rfl, ⟨y, rfl, hy0, hy1⟩, c2, hg2⟩
    have z2 : w.heap.size < w2.heap.size := by have := hg2.size; first | omega | (simp at this; omega)
    have r20 : w2.cell? ⟨w.heap.size, 0, none⟩ = some (.int .i64 0) := by rw [grown_cell hg2 (by first | assumption | (simp; done) | (simp; omega)) (by first | (simp; omega) | omega)]; first | assumption | (simp [go_sem]; done) | (simp [go_sem, *]; done)
    have r21 : w2.cell? ⟨w.heap.size, 1, none⟩ = some (.int .i64 0) := by rw [grown_cell hg2 (by first | assumption | (simp; done) | (simp; omega)) (by first | (simp; omega) | omega)]; first | assumption | (simp [go_sem]; done) | (simp [go_sem, *]; done)
    have s20 : w2.frozen? ⟨w.heap.size, 0, none⟩ = false := by rw [grown_frozen hg2 (by first | assumption | (simp; done) | (simp; omega)) (by first | (simp; omega) | omega)]; first | assumption | (simp [go_sem]; done) | (simp [go_sem, *]; done)
    have s21 : w2.frozen? ⟨w.heap.size, 1, none⟩ = false := by rw [grown_frozen hg2 (by first | assumption | (simp; done) | (simp; omega)) (by first | (simp; omega) | omega)]; first | assumption | (simp [go_sem]; done) | (simp [go_sem, *]; done)
    clear r10 r11 s10 s11
    go_wp2_with fail
    refine (l1Below_any B g _ _ c2 (by omega) (by omega)).mono ?_
    rintro e w3 ⟨v, rfl, ⟨z, rfl, hz0, hz1⟩, c3, hg3⟩
    have z3 : w.heap.size < w3.heap.size := by have := hg3.size; first | omega | (simp at this; omega)
    have r30 : w3.cell? ⟨w.heap.size, 0, none⟩ = some (.int .i64 0) := by rw [grown_cell hg3 (by first | assumption | (simp; done) | (simp; omega)) (by first | (simp; omega) | omega)]; first | assumption | (simp [go_sem]; done) | (simp [go_sem, *]; done)
    have r31 : w3.cell? ⟨w.heap.size, 1, none⟩ = some (.int .i64 0) := by rw [grown_cell hg3 (by first | assumption | (simp; done) | (simp; omega)) (by first | (simp; omega) | omega)]; first | assumption | (simp [go_sem]; done) | (simp [go_sem, *]; done)
    have s30 : w3.frozen? ⟨w.heap.size, 0, none⟩ = false := by rw [grown_frozen hg3 (by first | assumption | (simp; done) | (simp; omega)) (by first | (simp; omega) | omega)]; first | assumption | (simp [go_sem]; done) | (simp [go_sem, *]; done)
    have s31 : w3.frozen? ⟨w.heap.size, 1, none⟩ = false := by rw [grown_frozen hg3 (by first | assumption | (simp; done) | (simp; omega)) (by first | (simp; omega) | omega)]; first | assumption | (simp [go_sem]; done) | (simp [go_sem, *]; done)
    clear r20 r21 s20 s21
    go_wp2_with fail
    refine (spec_mk_any _ _ _).mono ?_
    rintro e w4 ⟨rfl, hb4⟩
    have z4 : w.heap.size < w4.heap.size := by have := hb4.size; first | omega | (simp at this; omega)
    have r40 : w4.cell? ⟨w.heap.size, 0, none⟩ = some (.int .i64 0) := (hb4.cell (p := ⟨w.heap.size, 0, none⟩) (by assumption)).trans (by assumption)
    have r41 : w4.cell? ⟨w.heap.size, 1, none⟩ = some (.int .i64 0) := (hb4.cell (p := ⟨w.heap.size, 1, none⟩) (by assumption)).trans (by assumption)
    have s40 : w4.frozen? ⟨w.heap.size, 0, none⟩ = false := (hb4.frozen (p := ⟨w.heap.size, 0, none⟩) (by assumption)).trans (by assumption)
    have s41 : w4.frozen? ⟨w.heap.size, 1, none⟩ = false := (hb4.frozen (p := ⟨w.heap.size, 1, none⟩) (by assumption)).trans (by assumption)
    clear r30 r31 s30 s31
    go_wp2_with fail
    refine bodyPost_ret (by simp [results, Try.results64, go_sem, *]; try rfl) rfl ?_
    exact ⟨_, rfl, mk_any_ratio _ _, by (repeat' (first | (with_reducible assumption) | (with_reducible refine Cur.setCell ?_ ?_ ?_ _) | (with_reducible refine Cur.alloc ?_ _) | (with_reducible refine Cur.drewN ?_ _) | (with_reducible refine Cur.drew ?_) | (with_reducible refine Cur.call ?_ (by assumption)) | (simp; done) | (simp; omega) | omega)), by (repeat' (first | (with_reducible exact World.grownBy.refl _ _) | (with_reducible assumption) | (with_reducible refine grown_setCell ?_ ?_ _) | (with_reducible refine grown_alloc ?_ _) | (with_reducible refine grown_drewN ?_ _) | (with_reducible refine grown_drew ?_) | (with_reducible refine grown_trans ?_ (by assumption)) | (with_reducible refine grown_call ?_ (by assumption)) | (left; rfl) | (right; simp; done) | (right; simp; omega)))⟩
end Go.Proofs.Ytccejhhhengpcaa
