/-
  Walk of the law FnRatios.
-/
import Derived.Test.YtekjenbgdllghaaLaws3
namespace Go.Proofs.Ytekjenbgdllghaa
open Go.RowKit num Go.Sort
set_option linter.unusedVariables false
set_option linter.unusedSimpArgs false

set_option maxHeartbeats 1000000 in
theorem l2Two_any (w : World) (A : Option Addr) (len cap : Nat) (hb : Bytes w A len) :
    Calls Try.prog 50 #[.slice A len cap] w (NewTwo w) := by
  have hb2 : Bytes ((w.alloc (.cells #[.int .i64 0, .int .i64 0] 26)).alloc (.cells #[.int .i64 0, .int .i64 0] 26)) A len :=
    ⟨hb.1, fun j hj => by obtain ⟨b, o, x, e, hB, h0, h1, hc⟩ := hb.2 j hj; exact ⟨b, o, x, e, by simp; omega, h0, h1, (World.cell?_alloc_lt _ _ _ (by simp; omega)).trans ((World.cell?_alloc_lt _ _ _ hB).trans hc)⟩⟩
  have HB := Lib.hid hb2
  clear hb hb2
  go_enter Try.func50, Try.ntmps50
  go_wp2_with fail
  refine (l1New_any _ _ _ _ HB.out).mono ?_
  rintro e w1 ⟨g, rfl, c1, hb1⟩
  have hg := c1.base
  have hlt := c1.lt
  simp at hg
  have z1_0 : w.heap.size < w1.heap.size := by have := hb1.size; first | omega | (simp at this; omega)
  have r1_00 : w1.cell? ⟨w.heap.size, 0, none⟩ = some (.int .i64 0) := by rw [hb1.cell (p := ⟨w.heap.size, 0, none⟩) (by first | assumption | (simp; done) | (simp; omega))]; first | assumption | (simp [go_sem]; done) | (simp [go_sem, *]; done)
  have s1_00 : w1.frozen? ⟨w.heap.size, 0, none⟩ = false := by rw [hb1.frozen (p := ⟨w.heap.size, 0, none⟩) (by first | assumption | (simp; done) | (simp; omega))]; first | assumption | (simp [go_sem]; done) | (simp [go_sem, *]; done)
  have r1_01 : w1.cell? ⟨w.heap.size, 1, none⟩ = some (.int .i64 0) := by rw [hb1.cell (p := ⟨w.heap.size, 1, none⟩) (by first | assumption | (simp; done) | (simp; omega))]; first | assumption | (simp [go_sem]; done) | (simp [go_sem, *]; done)
  have s1_01 : w1.frozen? ⟨w.heap.size, 1, none⟩ = false := by rw [hb1.frozen (p := ⟨w.heap.size, 1, none⟩) (by first | assumption | (simp; done) | (simp; omega))]; first | assumption | (simp [go_sem]; done) | (simp [go_sem, *]; done)
  have z1_1 : w.heap.size + 1 < w1.heap.size := by have := hb1.size; first | omega | (simp at this; omega)
  have r1_10 : w1.cell? ⟨w.heap.size + 1, 0, none⟩ = some (.int .i64 0) := by rw [hb1.cell (p := ⟨w.heap.size + 1, 0, none⟩) (by first | assumption | (simp; done) | (simp; omega))]; first | assumption | (simp [go_sem]; done) | (simp [go_sem, *]; done)
  have s1_10 : w1.frozen? ⟨w.heap.size + 1, 0, none⟩ = false := by rw [hb1.frozen (p := ⟨w.heap.size + 1, 0, none⟩) (by first | assumption | (simp; done) | (simp; omega))]; first | assumption | (simp [go_sem]; done) | (simp [go_sem, *]; done)
  have r1_11 : w1.cell? ⟨w.heap.size + 1, 1, none⟩ = some (.int .i64 0) := by rw [hb1.cell (p := ⟨w.heap.size + 1, 1, none⟩) (by first | assumption | (simp; done) | (simp; omega))]; first | assumption | (simp [go_sem]; done) | (simp [go_sem, *]; done)
  have s1_11 : w1.frozen? ⟨w.heap.size + 1, 1, none⟩ = false := by rw [hb1.frozen (p := ⟨w.heap.size + 1, 1, none⟩) (by first | assumption | (simp; done) | (simp; omega))]; first | assumption | (simp [go_sem]; done) | (simp [go_sem, *]; done)
  go_wp2_with fail
  refine (l2Any_any _ g _ c1).mono ?_
  rintro e w2 ⟨v, rfl, ⟨p, q, rfl, _, _, _, _⟩, c2, hg2⟩
  have z2_0 : w.heap.size < w2.heap.size := by have := hg2.size; first | omega | (simp at this; omega)
  have r2_00 : w2.cell? ⟨w.heap.size, 0, none⟩ = some (.int .i64 0) := by rw [grown_cell hg2 (p := ⟨w.heap.size, 0, none⟩) (by first | assumption | (simp; done) | (simp; omega)) (by first | (simp; omega) | omega)]; first | assumption | (simp [go_sem]; done) | (simp [go_sem, *]; done)
  have s2_00 : w2.frozen? ⟨w.heap.size, 0, none⟩ = false := by rw [grown_frozen hg2 (p := ⟨w.heap.size, 0, none⟩) (by first | assumption | (simp; done) | (simp; omega)) (by first | (simp; omega) | omega)]; first | assumption | (simp [go_sem]; done) | (simp [go_sem, *]; done)
  have r2_01 : w2.cell? ⟨w.heap.size, 1, none⟩ = some (.int .i64 0) := by rw [grown_cell hg2 (p := ⟨w.heap.size, 1, none⟩) (by first | assumption | (simp; done) | (simp; omega)) (by first | (simp; omega) | omega)]; first | assumption | (simp [go_sem]; done) | (simp [go_sem, *]; done)
  have s2_01 : w2.frozen? ⟨w.heap.size, 1, none⟩ = false := by rw [grown_frozen hg2 (p := ⟨w.heap.size, 1, none⟩) (by first | assumption | (simp; done) | (simp; omega)) (by first | (simp; omega) | omega)]; first | assumption | (simp [go_sem]; done) | (simp [go_sem, *]; done)
  have z2_1 : w.heap.size + 1 < w2.heap.size := by have := hg2.size; first | omega | (simp at this; omega)
  have r2_10 : w2.cell? ⟨w.heap.size + 1, 0, none⟩ = some (.int .i64 0) := by rw [grown_cell hg2 (p := ⟨w.heap.size + 1, 0, none⟩) (by first | assumption | (simp; done) | (simp; omega)) (by first | (simp; omega) | omega)]; first | assumption | (simp [go_sem]; done) | (simp [go_sem, *]; done)
  have s2_10 : w2.frozen? ⟨w.heap.size + 1, 0, none⟩ = false := by rw [grown_frozen hg2 (p := ⟨w.heap.size + 1, 0, none⟩) (by first | assumption | (simp; done) | (simp; omega)) (by first | (simp; omega) | omega)]; first | assumption | (simp [go_sem]; done) | (simp [go_sem, *]; done)
  have r2_11 : w2.cell? ⟨w.heap.size + 1, 1, none⟩ = some (.int .i64 0) := by rw [grown_cell hg2 (p := ⟨w.heap.size + 1, 1, none⟩) (by first | assumption | (simp; done) | (simp; omega)) (by first | (simp; omega) | omega)]; first | assumption | (simp [go_sem]; done) | (simp [go_sem, *]; done)
  have s2_11 : w2.frozen? ⟨w.heap.size + 1, 1, none⟩ = false := by rw [grown_frozen hg2 (p := ⟨w.heap.size + 1, 1, none⟩) (by first | assumption | (simp; done) | (simp; omega)) (by first | (simp; omega) | omega)]; first | assumption | (simp [go_sem]; done) | (simp [go_sem, *]; done)
  clear r1_00 s1_00 r1_01 s1_01 r1_10 s1_10 r1_11 s1_11
  go_wp2_with fail
  refine (l2Any_any _ g _ c2).mono ?_
  rintro e w3 ⟨v, rfl, ⟨r, s, rfl, _, _, _, _⟩, c3, hg3⟩
  have z3_0 : w.heap.size < w3.heap.size := by have := hg3.size; first | omega | (simp at this; omega)
  have r3_00 : w3.cell? ⟨w.heap.size, 0, none⟩ = some (.int .i64 0) := by rw [grown_cell hg3 (p := ⟨w.heap.size, 0, none⟩) (by first | assumption | (simp; done) | (simp; omega)) (by first | (simp; omega) | omega)]; first | assumption | (simp [go_sem]; done) | (simp [go_sem, *]; done)
  have s3_00 : w3.frozen? ⟨w.heap.size, 0, none⟩ = false := by rw [grown_frozen hg3 (p := ⟨w.heap.size, 0, none⟩) (by first | assumption | (simp; done) | (simp; omega)) (by first | (simp; omega) | omega)]; first | assumption | (simp [go_sem]; done) | (simp [go_sem, *]; done)
  have r3_01 : w3.cell? ⟨w.heap.size, 1, none⟩ = some (.int .i64 0) := by rw [grown_cell hg3 (p := ⟨w.heap.size, 1, none⟩) (by first | assumption | (simp; done) | (simp; omega)) (by first | (simp; omega) | omega)]; first | assumption | (simp [go_sem]; done) | (simp [go_sem, *]; done)
  have s3_01 : w3.frozen? ⟨w.heap.size, 1, none⟩ = false := by rw [grown_frozen hg3 (p := ⟨w.heap.size, 1, none⟩) (by first | assumption | (simp; done) | (simp; omega)) (by first | (simp; omega) | omega)]; first | assumption | (simp [go_sem]; done) | (simp [go_sem, *]; done)
  have z3_1 : w.heap.size + 1 < w3.heap.size := by have := hg3.size; first | omega | (simp at this; omega)
  have r3_10 : w3.cell? ⟨w.heap.size + 1, 0, none⟩ = some (.int .i64 0) := by rw [grown_cell hg3 (p := ⟨w.heap.size + 1, 0, none⟩) (by first | assumption | (simp; done) | (simp; omega)) (by first | (simp; omega) | omega)]; first | assumption | (simp [go_sem]; done) | (simp [go_sem, *]; done)
  have s3_10 : w3.frozen? ⟨w.heap.size + 1, 0, none⟩ = false := by rw [grown_frozen hg3 (p := ⟨w.heap.size + 1, 0, none⟩) (by first | assumption | (simp; done) | (simp; omega)) (by first | (simp; omega) | omega)]; first | assumption | (simp [go_sem]; done) | (simp [go_sem, *]; done)
  have r3_11 : w3.cell? ⟨w.heap.size + 1, 1, none⟩ = some (.int .i64 0) := by rw [grown_cell hg3 (p := ⟨w.heap.size + 1, 1, none⟩) (by first | assumption | (simp; done) | (simp; omega)) (by first | (simp; omega) | omega)]; first | assumption | (simp [go_sem]; done) | (simp [go_sem, *]; done)
  have s3_11 : w3.frozen? ⟨w.heap.size + 1, 1, none⟩ = false := by rw [grown_frozen hg3 (p := ⟨w.heap.size + 1, 1, none⟩) (by first | assumption | (simp; done) | (simp; omega)) (by first | (simp; omega) | omega)]; first | assumption | (simp [go_sem]; done) | (simp [go_sem, *]; done)
  clear r2_00 s2_00 r2_01 s2_01 r2_10 s2_10 r2_11 s2_11
  have hbel : Below w.heap.size w w3 := (((((Below.refl _ _).alloc (Nat.le_refl _) _).alloc (by simp) _).trans (hb1.mono (by simp; omega))).trans (grown_below hg2 (by omega) (by omega))).trans (grown_below hg3 (by omega) (by omega))
  go_wp2_with fail
  refine bodyPost_ret (by simp [results, Try.results50, go_sem, *]; try rfl) rfl ?_
  exact ⟨p, q, r, s, rfl, (((hbel.setCell (by simp) _).setCell (by simp) _).setCell (by simp) _).setCell (by simp) _⟩
theorem DrawAddRatios_any (w : World) (A : Option Addr) (len cap : Nat) (hb : Bytes w A len) :
    Calls Try.prog 38 #[.slice A len cap] w (NewTwo w) := by
  have hb2 : Bytes ((w.alloc (.cells #[.int .i64 0, .int .i64 0] 26)).alloc (.cells #[.int .i64 0, .int .i64 0] 26)) A len :=
    ⟨hb.1, fun j hj => by obtain ⟨b, o, x, e, hB, h0, h1, hc⟩ := hb.2 j hj; exact ⟨b, o, x, e, by simp; omega, h0, h1, (World.cell?_alloc_lt _ _ _ (by simp; omega)).trans ((World.cell?_alloc_lt _ _ _ hB).trans hc)⟩⟩
  have HB := Lib.hid hb2
  clear hb hb2
  go_enter Try.func38, Try.ntmps38
  go_wp2_with fail
  refine (l2Two_any _ _ _ _ HB.out).mono ?_
  rintro e w1 ⟨p, q, r, s, rfl, hb1⟩
  have z1_0 : w.heap.size < w1.heap.size := by have := hb1.size; first | omega | (simp at this; omega)
  have r1_00 : w1.cell? ⟨w.heap.size, 0, none⟩ = some (.int .i64 0) := by rw [hb1.cell (p := ⟨w.heap.size, 0, none⟩) (by first | assumption | (simp; done) | (simp; omega))]; first | assumption | (simp [go_sem]; done) | (simp [go_sem, *]; done)
  have s1_00 : w1.frozen? ⟨w.heap.size, 0, none⟩ = false := by rw [hb1.frozen (p := ⟨w.heap.size, 0, none⟩) (by first | assumption | (simp; done) | (simp; omega))]; first | assumption | (simp [go_sem]; done) | (simp [go_sem, *]; done)
  have r1_01 : w1.cell? ⟨w.heap.size, 1, none⟩ = some (.int .i64 0) := by rw [hb1.cell (p := ⟨w.heap.size, 1, none⟩) (by first | assumption | (simp; done) | (simp; omega))]; first | assumption | (simp [go_sem]; done) | (simp [go_sem, *]; done)
  have s1_01 : w1.frozen? ⟨w.heap.size, 1, none⟩ = false := by rw [hb1.frozen (p := ⟨w.heap.size, 1, none⟩) (by first | assumption | (simp; done) | (simp; omega))]; first | assumption | (simp [go_sem]; done) | (simp [go_sem, *]; done)
  have z1_1 : w.heap.size + 1 < w1.heap.size := by have := hb1.size; first | omega | (simp at this; omega)
  have r1_10 : w1.cell? ⟨w.heap.size + 1, 0, none⟩ = some (.int .i64 0) := by rw [hb1.cell (p := ⟨w.heap.size + 1, 0, none⟩) (by first | assumption | (simp; done) | (simp; omega))]; first | assumption | (simp [go_sem]; done) | (simp [go_sem, *]; done)
  have s1_10 : w1.frozen? ⟨w.heap.size + 1, 0, none⟩ = false := by rw [hb1.frozen (p := ⟨w.heap.size + 1, 0, none⟩) (by first | assumption | (simp; done) | (simp; omega))]; first | assumption | (simp [go_sem]; done) | (simp [go_sem, *]; done)
  have r1_11 : w1.cell? ⟨w.heap.size + 1, 1, none⟩ = some (.int .i64 0) := by rw [hb1.cell (p := ⟨w.heap.size + 1, 1, none⟩) (by first | assumption | (simp; done) | (simp; omega))]; first | assumption | (simp [go_sem]; done) | (simp [go_sem, *]; done)
  have s1_11 : w1.frozen? ⟨w.heap.size + 1, 1, none⟩ = false := by rw [hb1.frozen (p := ⟨w.heap.size + 1, 1, none⟩) (by first | assumption | (simp; done) | (simp; omega))]; first | assumption | (simp [go_sem]; done) | (simp [go_sem, *]; done)
  go_wp2_with fail
  refine bodyPost_ret (by simp [results, Try.results38, go_sem, *]; try rfl) rfl ?_
  exact ⟨p, q, r, s, rfl, by repeat' (first | (with_reducible exact Below.refl _ _) | assumption | (with_reducible refine below_then (by assumption) ?_ ?_) | (with_reducible refine Below.alloc ?_ ?_ _) | (with_reducible refine below_drewN ?_ _) | (with_reducible refine Below.drew ?_) | (with_reducible refine Below.setCell ?_ ?_ _) | omega | (simp; done) | (simp; omega))⟩
theorem DrawDivideRatios_any (w : World) (A : Option Addr) (len cap : Nat) (hb : Bytes w A len) :
    Calls Try.prog 39 #[.slice A len cap] w (NewTwo w) := by
  have hb2 : Bytes ((w.alloc (.cells #[.int .i64 0, .int .i64 0] 26)).alloc (.cells #[.int .i64 0, .int .i64 0] 26)) A len :=
    ⟨hb.1, fun j hj => by obtain ⟨b, o, x, e, hB, h0, h1, hc⟩ := hb.2 j hj; exact ⟨b, o, x, e, by simp; omega, h0, h1, (World.cell?_alloc_lt _ _ _ (by simp; omega)).trans ((World.cell?_alloc_lt _ _ _ hB).trans hc)⟩⟩
  have HB := Lib.hid hb2
  clear hb hb2
  go_enter Try.func39, Try.ntmps39
  go_wp2_with fail
  refine (l2Two_any _ _ _ _ HB.out).mono ?_
  rintro e w1 ⟨p, q, r, s, rfl, hb1⟩
  have z1_0 : w.heap.size < w1.heap.size := by have := hb1.size; first | omega | (simp at this; omega)
  have r1_00 : w1.cell? ⟨w.heap.size, 0, none⟩ = some (.int .i64 0) := by rw [hb1.cell (p := ⟨w.heap.size, 0, none⟩) (by first | assumption | (simp; done) | (simp; omega))]; first | assumption | (simp [go_sem]; done) | (simp [go_sem, *]; done)
  have s1_00 : w1.frozen? ⟨w.heap.size, 0, none⟩ = false := by rw [hb1.frozen (p := ⟨w.heap.size, 0, none⟩) (by first | assumption | (simp; done) | (simp; omega))]; first | assumption | (simp [go_sem]; done) | (simp [go_sem, *]; done)
  have r1_01 : w1.cell? ⟨w.heap.size, 1, none⟩ = some (.int .i64 0) := by rw [hb1.cell (p := ⟨w.heap.size, 1, none⟩) (by first | assumption | (simp; done) | (simp; omega))]; first | assumption | (simp [go_sem]; done) | (simp [go_sem, *]; done)
  have s1_01 : w1.frozen? ⟨w.heap.size, 1, none⟩ = false := by rw [hb1.frozen (p := ⟨w.heap.size, 1, none⟩) (by first | assumption | (simp; done) | (simp; omega))]; first | assumption | (simp [go_sem]; done) | (simp [go_sem, *]; done)
  have z1_1 : w.heap.size + 1 < w1.heap.size := by have := hb1.size; first | omega | (simp at this; omega)
  have r1_10 : w1.cell? ⟨w.heap.size + 1, 0, none⟩ = some (.int .i64 0) := by rw [hb1.cell (p := ⟨w.heap.size + 1, 0, none⟩) (by first | assumption | (simp; done) | (simp; omega))]; first | assumption | (simp [go_sem]; done) | (simp [go_sem, *]; done)
  have s1_10 : w1.frozen? ⟨w.heap.size + 1, 0, none⟩ = false := by rw [hb1.frozen (p := ⟨w.heap.size + 1, 0, none⟩) (by first | assumption | (simp; done) | (simp; omega))]; first | assumption | (simp [go_sem]; done) | (simp [go_sem, *]; done)
  have r1_11 : w1.cell? ⟨w.heap.size + 1, 1, none⟩ = some (.int .i64 0) := by rw [hb1.cell (p := ⟨w.heap.size + 1, 1, none⟩) (by first | assumption | (simp; done) | (simp; omega))]; first | assumption | (simp [go_sem]; done) | (simp [go_sem, *]; done)
  have s1_11 : w1.frozen? ⟨w.heap.size + 1, 1, none⟩ = false := by rw [hb1.frozen (p := ⟨w.heap.size + 1, 1, none⟩) (by first | assumption | (simp; done) | (simp; omega))]; first | assumption | (simp [go_sem]; done) | (simp [go_sem, *]; done)
  go_wp2_with fail
  refine bodyPost_ret (by simp [results, Try.results39, go_sem, *]; try rfl) rfl ?_
  exact ⟨p, q, r, s, rfl, by repeat' (first | (with_reducible exact Below.refl _ _) | assumption | (with_reducible refine below_then (by assumption) ?_ ?_) | (with_reducible refine Below.alloc ?_ ?_ _) | (with_reducible refine below_drewN ?_ _) | (with_reducible refine Below.drew ?_) | (with_reducible refine Below.setCell ?_ ?_ _) | omega | (simp; done) | (simp; omega))⟩
theorem addR_valid {a b c d : Int} (h : isR (addR a b c d).1 (addR a b c d).2 = true) : isR c d = true := by
  cases hv : isR c d
  · rw [addR_no (.inr hv), isR_zero] at h; cases h
  · rfl
theorem cmpR_range (a b c d : Int) : -1 ≤ cmpR a b c d ∧ cmpR a b c d ≤ 2 := by
  unfold cmpR cmpI
  split
  · split
    · omega
    · split <;> omega
  · omega
theorem pair_eq {x : Int × Int} {a b : Int} (h : x = (a, b)) : x.1 = a ∧ x.2 = b := by rw [h]; exact ⟨rfl, rfl⟩
theorem kept_bytes {w W : World} {A : Option Addr} {len : Nat} (h : Bytes w A len) (hb : Below w.heap.size w W) : Bytes W A len :=
  ⟨h.1, fun j hj => by obtain ⟨b, o, x, e, hB, h0, h1, hc⟩ := h.2 j hj; exact ⟨b, o, x, e, Nat.lt_of_lt_of_le hB hb.size, h0, h1, (hb.cell (p := ⟨b, o + j, none⟩) hB).trans hc⟩⟩

set_option maxHeartbeats 8000000 in
theorem law_Ratios (w : World) (A : Option Addr) (len cap : Nat) (hb : Bytes w A len) :
    Calls Try.prog 14 #[.slice A len cap] w fun e w' => e = .returned (.bool true) ∧ Below w.heap.size w w' := by
  have hm := hb.1
  have HB := Lib.hid hb
  clear hb
  by_cases hbig : 1048576 < len
  · have hd : decide (1048576 < len) = true := by simpa using hbig
    go_enter Try.func14, Try.ntmps14
    go_wp2_with fail
    refine (big_any _ _ _ _ hm).mono ?_; rintro e w0 ⟨rfl, rfl⟩
    go_wp2_with fail
    go_ret
    exact ⟨rfl, Below.refl _ _⟩
  · have hd : decide (1048576 < len) = false := by simpa using hbig
    go_enter Try.func14, Try.ntmps14
    go_wp2_with fail
    refine (big_any _ _ _ _ hm).mono ?_; rintro e w0 ⟨rfl, rfl⟩
    go_wp2_with fail
    refine (DrawAddRatios_any _ _ _ _ HB.out).mono ?_; rintro e w1 ⟨p, q, r, s, rfl, hb1⟩
    have k1 : Kept w0 [(⟨w1.heap.size, 0, none⟩, .int .i64 p), (⟨w1.heap.size, 1, none⟩, .int .i64 q), (⟨w1.heap.size + 1, 0, none⟩, .int .i64 r), (⟨w1.heap.size + 1, 1, none⟩, .int .i64 s)] ((w1.alloc (.cells #[.int .i64 p, .int .i64 q] 26)).alloc (.cells #[.int .i64 r, .int .i64 s] 26)) :=
      ⟨by simp; omega, by simp [go_sem], (hb1.alloc hb1.size _).alloc (by have := hb1.size; simp; omega) _⟩
    go_wp2_with fail
    refine (DrawDivideRatios_any _ _ _ _ (kept_bytes HB.out k1.below)).mono ?_; rintro e w2 ⟨t, u, x, y, rfl, hb2⟩
    have k2 := Kept.call hb2 k1
    have k3 : Kept w0 [(⟨w2.heap.size, 0, none⟩, .int .i64 t), (⟨w2.heap.size, 1, none⟩, .int .i64 u), (⟨w2.heap.size + 1, 0, none⟩, .int .i64 x), (⟨w2.heap.size + 1, 1, none⟩, .int .i64 y), (⟨w1.heap.size, 0, none⟩, .int .i64 p), (⟨w1.heap.size, 1, none⟩, .int .i64 q), (⟨w1.heap.size + 1, 0, none⟩, .int .i64 r), (⟨w1.heap.size + 1, 1, none⟩, .int .i64 s)] ((w2.alloc (.cells #[.int .i64 t, .int .i64 u] 26)).alloc (.cells #[.int .i64 x, .int .i64 y] 26)) :=
      Kept.cons (Kept.cons (Kept.cons (Kept.cons ((k2.alloc _).alloc _) (by simp) (by simp [go_sem])) (by simp) (by simp [go_sem])) (by simp; omega) (by simp [go_sem])) (by simp; omega) (by simp [go_sem])
    obtain ⟨b10, b11, b12, b13, a10, a11, a12, a13, _⟩ := k3.eight
    have e1 : addR r s p q = addR p q r s := addR_comm _ _ _ _
    have e2 : mulR r s p q = mulR p q r s := mulR_comm _ _ _ _
    go_wp2_with fail
    generalize ((w2.alloc (.cells #[.int .i64 t, .int .i64 u] 26)).alloc (.cells #[.int .i64 x, .int .i64 y] 26)) = W5 at *
    have ga10 := fun d os => cell_regrown a10 d os
    have ga11 := fun d os => cell_regrown a11 d os
    have ga12 := fun d os => cell_regrown a12 d os
    have ga13 := fun d os => cell_regrown a13 d os
    have gb10 := fun d os => cell_regrown b10 d os
    have gb11 := fun d os => cell_regrown b11 d os
    have gb12 := fun d os => cell_regrown b12 d os
    have gb13 := fun d os => cell_regrown b13 d os
    refine wp_region_quiet_below (by kernel_rfl) (by kernel_rfl) ?_
    repeat (first | go_big_quiet_step ((first | (go_at_call 30; exact Calls.regrown_of (impl_AddRatios _ _ _ _ _)) | (go_at_call 34; exact Calls.regrown_of (impl_MultiplyRatios _ _ _ _ _)))) | quiet_step ((first | (go_at_call 30; exact Calls.regrown_of (impl_AddRatios _ _ _ _ _)) | (go_at_call 34; exact Calls.regrown_of (impl_MultiplyRatios _ _ _ _ _)))))
    refine wpQuiet_nil ?_
    intro _ hw'
    obtain ⟨⟨dq, osq⟩, hw''⟩ := hw'
    subst hw''
    have k4 := Kept.call (below_regrown W5 dq osq) k3
    clear k1 k2 k3 a10 a11 a12 a13 b10 b11 b12 b13 ga10 ga11 ga12 ga13 gb10 gb11 gb12 gb13
    generalize grow (redrawn W5 dq) osq = W6 at *
    obtain ⟨b20, b21, b22, b23, a20, a21, a22, a23, _⟩ := k4.eight
    go_wp2_with fail
    refine (impl_DivideRatios _ _ _ _ _).mono ?_; rintro e w3 ⟨rfl, hb3⟩
    have k5 : Kept w0 [(⟨w3.heap.size, 0, none⟩, .int .i64 (divR t u x y).1), (⟨w3.heap.size, 1, none⟩, .int .i64 (divR t u x y).2), (⟨w2.heap.size, 0, none⟩, .int .i64 t), (⟨w2.heap.size, 1, none⟩, .int .i64 u), (⟨w2.heap.size + 1, 0, none⟩, .int .i64 x), (⟨w2.heap.size + 1, 1, none⟩, .int .i64 y), (⟨w1.heap.size, 0, none⟩, .int .i64 p), (⟨w1.heap.size, 1, none⟩, .int .i64 q), (⟨w1.heap.size + 1, 0, none⟩, .int .i64 r), (⟨w1.heap.size + 1, 1, none⟩, .int .i64 s)] (w3.alloc (.cells #[.int .i64 (divR t u x y).1, .int .i64 (divR t u x y).2] 26)) :=
      Kept.cons (Kept.cons ((Kept.call hb3 k4).alloc _) (by simp) (by simp [World.cell?_alloc_new])) (by simp) (by simp [World.cell?_alloc_new])
    clear k4 b20 b21 b22 b23 a20 a21 a22 a23
    go_wp2_with fail
    generalize (w3.alloc (.cells #[.int .i64 (divR t u x y).1, .int .i64 (divR t u x y).2] 26)) = V3 at *
    have vq0 : V3.cell? ⟨w3.heap.size, 0, none⟩ = some (.int .i64 (divR t u x y).1) := k5.cell (⟨w3.heap.size, 0, none⟩, .int .i64 (divR t u x y).1) (by simp)
    have vq1 : V3.cell? ⟨w3.heap.size, 1, none⟩ = some (.int .i64 (divR t u x y).2) := k5.cell (⟨w3.heap.size, 1, none⟩, .int .i64 (divR t u x y).2) (by simp)
    have vb0 : V3.cell? ⟨w2.heap.size, 0, none⟩ = some (.int .i64 t) := k5.cell (⟨w2.heap.size, 0, none⟩, .int .i64 t) (by simp)
    have vb1 : V3.cell? ⟨w2.heap.size, 1, none⟩ = some (.int .i64 u) := k5.cell (⟨w2.heap.size, 1, none⟩, .int .i64 u) (by simp)
    have vb2 : V3.cell? ⟨w2.heap.size + 1, 0, none⟩ = some (.int .i64 x) := k5.cell (⟨w2.heap.size + 1, 0, none⟩, .int .i64 x) (by simp)
    have vb3 : V3.cell? ⟨w2.heap.size + 1, 1, none⟩ = some (.int .i64 y) := k5.cell (⟨w2.heap.size + 1, 1, none⟩, .int .i64 y) (by simp)
    have va0 : V3.cell? ⟨w1.heap.size, 0, none⟩ = some (.int .i64 p) := k5.cell (⟨w1.heap.size, 0, none⟩, .int .i64 p) (by simp)
    have va1 : V3.cell? ⟨w1.heap.size, 1, none⟩ = some (.int .i64 q) := k5.cell (⟨w1.heap.size, 1, none⟩, .int .i64 q) (by simp)
    have va2 : V3.cell? ⟨w1.heap.size + 1, 0, none⟩ = some (.int .i64 r) := k5.cell (⟨w1.heap.size + 1, 0, none⟩, .int .i64 r) (by simp)
    have va3 : V3.cell? ⟨w1.heap.size + 1, 1, none⟩ = some (.int .i64 s) := k5.cell (⟨w1.heap.size + 1, 1, none⟩, .int .i64 s) (by simp)
    have gvq0 := fun d os => cell_regrown vq0 d os
    have gvq1 := fun d os => cell_regrown vq1 d os
    have gvb0 := fun d os => cell_regrown vb0 d os
    have gvb1 := fun d os => cell_regrown vb1 d os
    have gvb2 := fun d os => cell_regrown vb2 d os
    have gvb3 := fun d os => cell_regrown vb3 d os
    have gva0 := fun d os => cell_regrown va0 d os
    have gva1 := fun d os => cell_regrown va1 d os
    have gva2 := fun d os => cell_regrown va2 d os
    have gva3 := fun d os => cell_regrown va3 d os
    cases hq : isR (divR t u x y).1 (divR t u x y).2
    · skip
      refine wp_region_quiet_below (by kernel_rfl) (by kernel_rfl) ?_
      repeat (first | go_big_quiet_step ((first | (go_at_call 15; exact Calls.regrown_of (spec_isRatio _ _ _)) | (go_at_call 34; exact Calls.regrown_of (impl_MultiplyRatios _ _ _ _ _)))) | quiet_step ((first | (go_at_call 15; exact Calls.regrown_of (spec_isRatio _ _ _)) | (go_at_call 34; exact Calls.regrown_of (impl_MultiplyRatios _ _ _ _ _)))))
      refine wpQuiet_nil ?_
      intro _ hw'
      obtain ⟨⟨dq, osq⟩, hw''⟩ := hw'
      subst hw''
      have k6 := Kept.call (below_regrown V3 dq osq) k5
      clear vq0 gvq0 vq1 gvq1 vb0 gvb0 vb1 gvb1 vb2 gvb2 vb3 gvb3 va0 gva0 va1 gva1 va2 gva2 va3 gva3
      generalize grow (redrawn V3 dq) osq = W7 at *
      have k7 : Kept w0 [(⟨w2.heap.size, 0, none⟩, .int .i64 t), (⟨w2.heap.size, 1, none⟩, .int .i64 u), (⟨w2.heap.size + 1, 0, none⟩, .int .i64 x), (⟨w2.heap.size + 1, 1, none⟩, .int .i64 y), (⟨w1.heap.size, 0, none⟩, .int .i64 p), (⟨w1.heap.size, 1, none⟩, .int .i64 q), (⟨w1.heap.size + 1, 0, none⟩, .int .i64 r), (⟨w1.heap.size + 1, 1, none⟩, .int .i64 s)] W7 := ⟨fun f hf => k6.lt f (by simp at hf ⊢; exact .inr (.inr hf)), fun f hf => k6.cell f (by simp at hf ⊢; exact .inr (.inr hf)), k6.below⟩
      have u4a0 : W7.cell? ⟨w1.heap.size, 0, none⟩ = some (.int .i64 p) := k7.cell (⟨w1.heap.size, 0, none⟩, .int .i64 p) (by simp)
      have u4a1 : W7.cell? ⟨w1.heap.size, 1, none⟩ = some (.int .i64 q) := k7.cell (⟨w1.heap.size, 1, none⟩, .int .i64 q) (by simp)
      have u4a2 : W7.cell? ⟨w1.heap.size + 1, 0, none⟩ = some (.int .i64 r) := k7.cell (⟨w1.heap.size + 1, 0, none⟩, .int .i64 r) (by simp)
      have u4a3 : W7.cell? ⟨w1.heap.size + 1, 1, none⟩ = some (.int .i64 s) := k7.cell (⟨w1.heap.size + 1, 1, none⟩, .int .i64 s) (by simp)
      go_wp2_with fail
      refine (impl_AddRatios _ _ _ _ _).mono ?_; rintro e w5 ⟨rfl, hb5⟩
      have k5 : Kept w0 [(⟨w5.heap.size, 0, none⟩, .int .i64 (addR p q r s).1), (⟨w5.heap.size, 1, none⟩, .int .i64 (addR p q r s).2), (⟨w2.heap.size, 0, none⟩, .int .i64 t), (⟨w2.heap.size, 1, none⟩, .int .i64 u), (⟨w2.heap.size + 1, 0, none⟩, .int .i64 x), (⟨w2.heap.size + 1, 1, none⟩, .int .i64 y), (⟨w1.heap.size, 0, none⟩, .int .i64 p), (⟨w1.heap.size, 1, none⟩, .int .i64 q), (⟨w1.heap.size + 1, 0, none⟩, .int .i64 r), (⟨w1.heap.size + 1, 1, none⟩, .int .i64 s)] (w5.alloc (.cells #[.int .i64 (addR p q r s).1, .int .i64 (addR p q r s).2] 26)) :=
        Kept.cons (Kept.cons ((Kept.call hb5 k7).alloc _) (by simp) (by simp [World.cell?_alloc_new])) (by simp) (by simp [World.cell?_alloc_new])
      go_wp2_with fail
      generalize (w5.alloc (.cells #[.int .i64 (addR p q r s).1, .int .i64 (addR p q r s).2] 26)) = V5 at *
      have vs0 : V5.cell? ⟨w5.heap.size, 0, none⟩ = some (.int .i64 (addR p q r s).1) := k5.cell (⟨w5.heap.size, 0, none⟩, .int .i64 (addR p q r s).1) (by simp)
      have vs1 : V5.cell? ⟨w5.heap.size, 1, none⟩ = some (.int .i64 (addR p q r s).2) := k5.cell (⟨w5.heap.size, 1, none⟩, .int .i64 (addR p q r s).2) (by simp)
      have va0 : V5.cell? ⟨w1.heap.size, 0, none⟩ = some (.int .i64 p) := k5.cell (⟨w1.heap.size, 0, none⟩, .int .i64 p) (by simp)
      have va1 : V5.cell? ⟨w1.heap.size, 1, none⟩ = some (.int .i64 q) := k5.cell (⟨w1.heap.size, 1, none⟩, .int .i64 q) (by simp)
      have va2 : V5.cell? ⟨w1.heap.size + 1, 0, none⟩ = some (.int .i64 r) := k5.cell (⟨w1.heap.size + 1, 0, none⟩, .int .i64 r) (by simp)
      have va3 : V5.cell? ⟨w1.heap.size + 1, 1, none⟩ = some (.int .i64 s) := k5.cell (⟨w1.heap.size + 1, 1, none⟩, .int .i64 s) (by simp)
      have gvs0 := fun d os => cell_regrown vs0 d os
      have gvs1 := fun d os => cell_regrown vs1 d os
      have gva0 := fun d os => cell_regrown va0 d os
      have gva1 := fun d os => cell_regrown va1 d os
      have gva2 := fun d os => cell_regrown va2 d os
      have gva3 := fun d os => cell_regrown va3 d os
      cases hs : isR (addR p q r s).1 (addR p q r s).2
      · skip
        refine wp_region_quiet_below (by kernel_rfl) (by kernel_rfl) ?_
        repeat (first | go_big_quiet_step ((first | (go_at_call 15; exact Calls.regrown_of (spec_isRatio _ _ _)) | (go_at_call 19; exact Calls.regrown_of (impl_NegateRatio _ _ _)) | (go_at_call 30; exact Calls.regrown_of (impl_AddRatios _ _ _ _ _)))) | quiet_step ((first | (go_at_call 15; exact Calls.regrown_of (spec_isRatio _ _ _)) | (go_at_call 19; exact Calls.regrown_of (impl_NegateRatio _ _ _)) | (go_at_call 30; exact Calls.regrown_of (impl_AddRatios _ _ _ _ _)))))
        refine wpQuiet_nil ?_
        intro _ hw'
        obtain ⟨⟨dq, osq⟩, hw''⟩ := hw'
        subst hw''
        have k6 := Kept.call (below_regrown V5 dq osq) k5
        clear vs0 gvs0 vs1 gvs1 va0 gva0 va1 gva1 va2 gva2 va3 gva3
        generalize grow (redrawn V5 dq) osq = W9 at *
        have u6a0 : W9.cell? ⟨w1.heap.size, 0, none⟩ = some (.int .i64 p) := k6.cell (⟨w1.heap.size, 0, none⟩, .int .i64 p) (by simp)
        have u6a1 : W9.cell? ⟨w1.heap.size, 1, none⟩ = some (.int .i64 q) := k6.cell (⟨w1.heap.size, 1, none⟩, .int .i64 q) (by simp)
        have u6a2 : W9.cell? ⟨w1.heap.size + 1, 0, none⟩ = some (.int .i64 r) := k6.cell (⟨w1.heap.size + 1, 0, none⟩, .int .i64 r) (by simp)
        have u6a3 : W9.cell? ⟨w1.heap.size + 1, 1, none⟩ = some (.int .i64 s) := k6.cell (⟨w1.heap.size + 1, 1, none⟩, .int .i64 s) (by simp)
        go_wp2_with fail
        refine (impl_CompareRatios _ _ _ _ _).mono ?_; rintro e w7 ⟨rfl, hb7⟩
        have k7 := Kept.call hb7 k6
        have t7a0 : w7.cell? ⟨w1.heap.size, 0, none⟩ = some (.int .i64 p) := k7.cell (⟨w1.heap.size, 0, none⟩, .int .i64 p) (by simp)
        have t7a1 : w7.cell? ⟨w1.heap.size, 1, none⟩ = some (.int .i64 q) := k7.cell (⟨w1.heap.size, 1, none⟩, .int .i64 q) (by simp)
        have t7a2 : w7.cell? ⟨w1.heap.size + 1, 0, none⟩ = some (.int .i64 r) := k7.cell (⟨w1.heap.size + 1, 0, none⟩, .int .i64 r) (by simp)
        have t7a3 : w7.cell? ⟨w1.heap.size + 1, 1, none⟩ = some (.int .i64 s) := k7.cell (⟨w1.heap.size + 1, 1, none⟩, .int .i64 s) (by simp)
        go_wp2_with fail
        refine (impl_CompareRatios _ _ _ _ _).mono ?_; rintro e w8 ⟨rfl, hb8⟩
        have k8 := Kept.call hb8 k7
        have t8a0 : w8.cell? ⟨w1.heap.size, 0, none⟩ = some (.int .i64 p) := k8.cell (⟨w1.heap.size, 0, none⟩, .int .i64 p) (by simp)
        have t8a1 : w8.cell? ⟨w1.heap.size, 1, none⟩ = some (.int .i64 q) := k8.cell (⟨w1.heap.size, 1, none⟩, .int .i64 q) (by simp)
        have t8a2 : w8.cell? ⟨w1.heap.size + 1, 0, none⟩ = some (.int .i64 r) := k8.cell (⟨w1.heap.size + 1, 0, none⟩, .int .i64 r) (by simp)
        have t8a3 : w8.cell? ⟨w1.heap.size + 1, 1, none⟩ = some (.int .i64 s) := k8.cell (⟨w1.heap.size + 1, 1, none⟩, .int .i64 s) (by simp)
        clear t7a0 t7a1 t7a2 t7a3
        rcases cmp_neg p q r s with ⟨h1, h2⟩ | ⟨h1, h2⟩
        · go_wp2_with fail
          go_ret
          exact ⟨rfl, k8.below⟩
        · by_cases hpr : p = r ∧ q = s
          · obtain ⟨rfl, rfl⟩ := hpr
            have c0 : cmpR p q p q = 0 := h2.2 ⟨rfl, rfl⟩
            clear h1 h2
            go_wp2_with fail
            go_ret
            exact ⟨rfl, k8.below⟩
          · have c0 : cmpR p q r s ≠ 0 := fun e => hpr (h2.1 e)
            have c1 := cmpR_range p q r s
            have c2 := cmpR_range r s p q
            clear h2 e1 e2
            generalize cmpR p q r s = X at *
            generalize cmpR r s p q = Y at *
            obtain ⟨rfl, rfl⟩ | ⟨rfl, rfl⟩ : (X = 1 ∧ Y = -1) ∨ (X = -1 ∧ Y = 1) := by omega
            · clear h1 c0 c1 c2
              by_cases hp : p = r
              · subst hp
                have hq' : ¬ q = s := fun e => hpr ⟨rfl, e⟩
                go_wp2_with fail
                go_ret
                exact ⟨rfl, k8.below⟩
              · go_wp2_with fail
                go_ret
                exact ⟨rfl, k8.below⟩
            · clear h1 c0 c1 c2
              by_cases hp : p = r
              · subst hp
                have hq' : ¬ q = s := fun e => hpr ⟨rfl, e⟩
                go_wp2_with fail
                go_ret
                exact ⟨rfl, k8.below⟩
              · go_wp2_with fail
                go_ret
                exact ⟨rfl, k8.below⟩
      · skip
        have hv := addR_valid hs
        have n1 := negR_yes hv
        obtain ⟨m1, m2⟩ := pair_eq (add_sub hs)
        refine wp_region_quiet_below (by kernel_rfl) (by kernel_rfl) ?_
        repeat (first | go_big_quiet_step ((first | (go_at_call 15; exact Calls.regrown_of (spec_isRatio _ _ _)) | (go_at_call 19; exact Calls.regrown_of (impl_NegateRatio _ _ _)) | (go_at_call 30; exact Calls.regrown_of (impl_AddRatios _ _ _ _ _)))) | quiet_step ((first | (go_at_call 15; exact Calls.regrown_of (spec_isRatio _ _ _)) | (go_at_call 19; exact Calls.regrown_of (impl_NegateRatio _ _ _)) | (go_at_call 30; exact Calls.regrown_of (impl_AddRatios _ _ _ _ _)))))
        refine wpQuiet_nil ?_
        intro _ hw'
        obtain ⟨⟨dq, osq⟩, hw''⟩ := hw'
        subst hw''
        have k6 := Kept.call (below_regrown V5 dq osq) k5
        clear vs0 gvs0 vs1 gvs1 va0 gva0 va1 gva1 va2 gva2 va3 gva3
        generalize grow (redrawn V5 dq) osq = W9 at *
        have u6a0 : W9.cell? ⟨w1.heap.size, 0, none⟩ = some (.int .i64 p) := k6.cell (⟨w1.heap.size, 0, none⟩, .int .i64 p) (by simp)
        have u6a1 : W9.cell? ⟨w1.heap.size, 1, none⟩ = some (.int .i64 q) := k6.cell (⟨w1.heap.size, 1, none⟩, .int .i64 q) (by simp)
        have u6a2 : W9.cell? ⟨w1.heap.size + 1, 0, none⟩ = some (.int .i64 r) := k6.cell (⟨w1.heap.size + 1, 0, none⟩, .int .i64 r) (by simp)
        have u6a3 : W9.cell? ⟨w1.heap.size + 1, 1, none⟩ = some (.int .i64 s) := k6.cell (⟨w1.heap.size + 1, 1, none⟩, .int .i64 s) (by simp)
        go_wp2_with fail
        refine (impl_CompareRatios _ _ _ _ _).mono ?_; rintro e w7 ⟨rfl, hb7⟩
        have k7 := Kept.call hb7 k6
        have t7a0 : w7.cell? ⟨w1.heap.size, 0, none⟩ = some (.int .i64 p) := k7.cell (⟨w1.heap.size, 0, none⟩, .int .i64 p) (by simp)
        have t7a1 : w7.cell? ⟨w1.heap.size, 1, none⟩ = some (.int .i64 q) := k7.cell (⟨w1.heap.size, 1, none⟩, .int .i64 q) (by simp)
        have t7a2 : w7.cell? ⟨w1.heap.size + 1, 0, none⟩ = some (.int .i64 r) := k7.cell (⟨w1.heap.size + 1, 0, none⟩, .int .i64 r) (by simp)
        have t7a3 : w7.cell? ⟨w1.heap.size + 1, 1, none⟩ = some (.int .i64 s) := k7.cell (⟨w1.heap.size + 1, 1, none⟩, .int .i64 s) (by simp)
        go_wp2_with fail
        refine (impl_CompareRatios _ _ _ _ _).mono ?_; rintro e w8 ⟨rfl, hb8⟩
        have k8 := Kept.call hb8 k7
        have t8a0 : w8.cell? ⟨w1.heap.size, 0, none⟩ = some (.int .i64 p) := k8.cell (⟨w1.heap.size, 0, none⟩, .int .i64 p) (by simp)
        have t8a1 : w8.cell? ⟨w1.heap.size, 1, none⟩ = some (.int .i64 q) := k8.cell (⟨w1.heap.size, 1, none⟩, .int .i64 q) (by simp)
        have t8a2 : w8.cell? ⟨w1.heap.size + 1, 0, none⟩ = some (.int .i64 r) := k8.cell (⟨w1.heap.size + 1, 0, none⟩, .int .i64 r) (by simp)
        have t8a3 : w8.cell? ⟨w1.heap.size + 1, 1, none⟩ = some (.int .i64 s) := k8.cell (⟨w1.heap.size + 1, 1, none⟩, .int .i64 s) (by simp)
        clear t7a0 t7a1 t7a2 t7a3
        rcases cmp_neg p q r s with ⟨h1, h2⟩ | ⟨h1, h2⟩
        · go_wp2_with fail
          go_ret
          exact ⟨rfl, k8.below⟩
        · by_cases hpr : p = r ∧ q = s
          · obtain ⟨rfl, rfl⟩ := hpr
            have c0 : cmpR p q p q = 0 := h2.2 ⟨rfl, rfl⟩
            clear h1 h2
            go_wp2_with fail
            go_ret
            exact ⟨rfl, k8.below⟩
          · have c0 : cmpR p q r s ≠ 0 := fun e => hpr (h2.1 e)
            have c1 := cmpR_range p q r s
            have c2 := cmpR_range r s p q
            clear h2 e1 e2
            generalize cmpR p q r s = X at *
            generalize cmpR r s p q = Y at *
            obtain ⟨rfl, rfl⟩ | ⟨rfl, rfl⟩ : (X = 1 ∧ Y = -1) ∨ (X = -1 ∧ Y = 1) := by omega
            · clear h1 c0 c1 c2
              by_cases hp : p = r
              · subst hp
                have hq' : ¬ q = s := fun e => hpr ⟨rfl, e⟩
                go_wp2_with fail
                go_ret
                exact ⟨rfl, k8.below⟩
              · go_wp2_with fail
                go_ret
                exact ⟨rfl, k8.below⟩
            · clear h1 c0 c1 c2
              by_cases hp : p = r
              · subst hp
                have hq' : ¬ q = s := fun e => hpr ⟨rfl, e⟩
                go_wp2_with fail
                go_ret
                exact ⟨rfl, k8.below⟩
              · go_wp2_with fail
                go_ret
                exact ⟨rfl, k8.below⟩
    · skip
      obtain ⟨l1, l2⟩ := pair_eq (div_mul hq)
      refine wp_region_quiet_below (by kernel_rfl) (by kernel_rfl) ?_
      repeat (first | go_big_quiet_step ((first | (go_at_call 15; exact Calls.regrown_of (spec_isRatio _ _ _)) | (go_at_call 34; exact Calls.regrown_of (impl_MultiplyRatios _ _ _ _ _)))) | quiet_step ((first | (go_at_call 15; exact Calls.regrown_of (spec_isRatio _ _ _)) | (go_at_call 34; exact Calls.regrown_of (impl_MultiplyRatios _ _ _ _ _)))))
      refine wpQuiet_nil ?_
      intro _ hw'
      obtain ⟨⟨dq, osq⟩, hw''⟩ := hw'
      subst hw''
      have k6 := Kept.call (below_regrown V3 dq osq) k5
      clear vq0 gvq0 vq1 gvq1 vb0 gvb0 vb1 gvb1 vb2 gvb2 vb3 gvb3 va0 gva0 va1 gva1 va2 gva2 va3 gva3
      generalize grow (redrawn V3 dq) osq = W7 at *
      have k7 : Kept w0 [(⟨w2.heap.size, 0, none⟩, .int .i64 t), (⟨w2.heap.size, 1, none⟩, .int .i64 u), (⟨w2.heap.size + 1, 0, none⟩, .int .i64 x), (⟨w2.heap.size + 1, 1, none⟩, .int .i64 y), (⟨w1.heap.size, 0, none⟩, .int .i64 p), (⟨w1.heap.size, 1, none⟩, .int .i64 q), (⟨w1.heap.size + 1, 0, none⟩, .int .i64 r), (⟨w1.heap.size + 1, 1, none⟩, .int .i64 s)] W7 := ⟨fun f hf => k6.lt f (by simp at hf ⊢; exact .inr (.inr hf)), fun f hf => k6.cell f (by simp at hf ⊢; exact .inr (.inr hf)), k6.below⟩
      have u4a0 : W7.cell? ⟨w1.heap.size, 0, none⟩ = some (.int .i64 p) := k7.cell (⟨w1.heap.size, 0, none⟩, .int .i64 p) (by simp)
      have u4a1 : W7.cell? ⟨w1.heap.size, 1, none⟩ = some (.int .i64 q) := k7.cell (⟨w1.heap.size, 1, none⟩, .int .i64 q) (by simp)
      have u4a2 : W7.cell? ⟨w1.heap.size + 1, 0, none⟩ = some (.int .i64 r) := k7.cell (⟨w1.heap.size + 1, 0, none⟩, .int .i64 r) (by simp)
      have u4a3 : W7.cell? ⟨w1.heap.size + 1, 1, none⟩ = some (.int .i64 s) := k7.cell (⟨w1.heap.size + 1, 1, none⟩, .int .i64 s) (by simp)
      clear l1 l2
      go_wp2_with fail
      refine (impl_AddRatios _ _ _ _ _).mono ?_; rintro e w5 ⟨rfl, hb5⟩
      have k5 : Kept w0 [(⟨w5.heap.size, 0, none⟩, .int .i64 (addR p q r s).1), (⟨w5.heap.size, 1, none⟩, .int .i64 (addR p q r s).2), (⟨w2.heap.size, 0, none⟩, .int .i64 t), (⟨w2.heap.size, 1, none⟩, .int .i64 u), (⟨w2.heap.size + 1, 0, none⟩, .int .i64 x), (⟨w2.heap.size + 1, 1, none⟩, .int .i64 y), (⟨w1.heap.size, 0, none⟩, .int .i64 p), (⟨w1.heap.size, 1, none⟩, .int .i64 q), (⟨w1.heap.size + 1, 0, none⟩, .int .i64 r), (⟨w1.heap.size + 1, 1, none⟩, .int .i64 s)] (w5.alloc (.cells #[.int .i64 (addR p q r s).1, .int .i64 (addR p q r s).2] 26)) :=
        Kept.cons (Kept.cons ((Kept.call hb5 k7).alloc _) (by simp) (by simp [World.cell?_alloc_new])) (by simp) (by simp [World.cell?_alloc_new])
      go_wp2_with fail
      generalize (w5.alloc (.cells #[.int .i64 (addR p q r s).1, .int .i64 (addR p q r s).2] 26)) = V5 at *
      have vs0 : V5.cell? ⟨w5.heap.size, 0, none⟩ = some (.int .i64 (addR p q r s).1) := k5.cell (⟨w5.heap.size, 0, none⟩, .int .i64 (addR p q r s).1) (by simp)
      have vs1 : V5.cell? ⟨w5.heap.size, 1, none⟩ = some (.int .i64 (addR p q r s).2) := k5.cell (⟨w5.heap.size, 1, none⟩, .int .i64 (addR p q r s).2) (by simp)
      have va0 : V5.cell? ⟨w1.heap.size, 0, none⟩ = some (.int .i64 p) := k5.cell (⟨w1.heap.size, 0, none⟩, .int .i64 p) (by simp)
      have va1 : V5.cell? ⟨w1.heap.size, 1, none⟩ = some (.int .i64 q) := k5.cell (⟨w1.heap.size, 1, none⟩, .int .i64 q) (by simp)
      have va2 : V5.cell? ⟨w1.heap.size + 1, 0, none⟩ = some (.int .i64 r) := k5.cell (⟨w1.heap.size + 1, 0, none⟩, .int .i64 r) (by simp)
      have va3 : V5.cell? ⟨w1.heap.size + 1, 1, none⟩ = some (.int .i64 s) := k5.cell (⟨w1.heap.size + 1, 1, none⟩, .int .i64 s) (by simp)
      have gvs0 := fun d os => cell_regrown vs0 d os
      have gvs1 := fun d os => cell_regrown vs1 d os
      have gva0 := fun d os => cell_regrown va0 d os
      have gva1 := fun d os => cell_regrown va1 d os
      have gva2 := fun d os => cell_regrown va2 d os
      have gva3 := fun d os => cell_regrown va3 d os
      cases hs : isR (addR p q r s).1 (addR p q r s).2
      · skip
        refine wp_region_quiet_below (by kernel_rfl) (by kernel_rfl) ?_
        repeat (first | go_big_quiet_step ((first | (go_at_call 15; exact Calls.regrown_of (spec_isRatio _ _ _)) | (go_at_call 19; exact Calls.regrown_of (impl_NegateRatio _ _ _)) | (go_at_call 30; exact Calls.regrown_of (impl_AddRatios _ _ _ _ _)))) | quiet_step ((first | (go_at_call 15; exact Calls.regrown_of (spec_isRatio _ _ _)) | (go_at_call 19; exact Calls.regrown_of (impl_NegateRatio _ _ _)) | (go_at_call 30; exact Calls.regrown_of (impl_AddRatios _ _ _ _ _)))))
        refine wpQuiet_nil ?_
        intro _ hw'
        obtain ⟨⟨dq, osq⟩, hw''⟩ := hw'
        subst hw''
        have k6 := Kept.call (below_regrown V5 dq osq) k5
        clear vs0 gvs0 vs1 gvs1 va0 gva0 va1 gva1 va2 gva2 va3 gva3
        generalize grow (redrawn V5 dq) osq = W9 at *
        have u6a0 : W9.cell? ⟨w1.heap.size, 0, none⟩ = some (.int .i64 p) := k6.cell (⟨w1.heap.size, 0, none⟩, .int .i64 p) (by simp)
        have u6a1 : W9.cell? ⟨w1.heap.size, 1, none⟩ = some (.int .i64 q) := k6.cell (⟨w1.heap.size, 1, none⟩, .int .i64 q) (by simp)
        have u6a2 : W9.cell? ⟨w1.heap.size + 1, 0, none⟩ = some (.int .i64 r) := k6.cell (⟨w1.heap.size + 1, 0, none⟩, .int .i64 r) (by simp)
        have u6a3 : W9.cell? ⟨w1.heap.size + 1, 1, none⟩ = some (.int .i64 s) := k6.cell (⟨w1.heap.size + 1, 1, none⟩, .int .i64 s) (by simp)
        go_wp2_with fail
        refine (impl_CompareRatios _ _ _ _ _).mono ?_; rintro e w7 ⟨rfl, hb7⟩
        have k7 := Kept.call hb7 k6
        have t7a0 : w7.cell? ⟨w1.heap.size, 0, none⟩ = some (.int .i64 p) := k7.cell (⟨w1.heap.size, 0, none⟩, .int .i64 p) (by simp)
        have t7a1 : w7.cell? ⟨w1.heap.size, 1, none⟩ = some (.int .i64 q) := k7.cell (⟨w1.heap.size, 1, none⟩, .int .i64 q) (by simp)
        have t7a2 : w7.cell? ⟨w1.heap.size + 1, 0, none⟩ = some (.int .i64 r) := k7.cell (⟨w1.heap.size + 1, 0, none⟩, .int .i64 r) (by simp)
        have t7a3 : w7.cell? ⟨w1.heap.size + 1, 1, none⟩ = some (.int .i64 s) := k7.cell (⟨w1.heap.size + 1, 1, none⟩, .int .i64 s) (by simp)
        go_wp2_with fail
        refine (impl_CompareRatios _ _ _ _ _).mono ?_; rintro e w8 ⟨rfl, hb8⟩
        have k8 := Kept.call hb8 k7
        have t8a0 : w8.cell? ⟨w1.heap.size, 0, none⟩ = some (.int .i64 p) := k8.cell (⟨w1.heap.size, 0, none⟩, .int .i64 p) (by simp)
        have t8a1 : w8.cell? ⟨w1.heap.size, 1, none⟩ = some (.int .i64 q) := k8.cell (⟨w1.heap.size, 1, none⟩, .int .i64 q) (by simp)
        have t8a2 : w8.cell? ⟨w1.heap.size + 1, 0, none⟩ = some (.int .i64 r) := k8.cell (⟨w1.heap.size + 1, 0, none⟩, .int .i64 r) (by simp)
        have t8a3 : w8.cell? ⟨w1.heap.size + 1, 1, none⟩ = some (.int .i64 s) := k8.cell (⟨w1.heap.size + 1, 1, none⟩, .int .i64 s) (by simp)
        clear t7a0 t7a1 t7a2 t7a3
        rcases cmp_neg p q r s with ⟨h1, h2⟩ | ⟨h1, h2⟩
        · go_wp2_with fail
          go_ret
          exact ⟨rfl, k8.below⟩
        · by_cases hpr : p = r ∧ q = s
          · obtain ⟨rfl, rfl⟩ := hpr
            have c0 : cmpR p q p q = 0 := h2.2 ⟨rfl, rfl⟩
            clear h1 h2
            go_wp2_with fail
            go_ret
            exact ⟨rfl, k8.below⟩
          · have c0 : cmpR p q r s ≠ 0 := fun e => hpr (h2.1 e)
            have c1 := cmpR_range p q r s
            have c2 := cmpR_range r s p q
            clear h2 e1 e2
            generalize cmpR p q r s = X at *
            generalize cmpR r s p q = Y at *
            obtain ⟨rfl, rfl⟩ | ⟨rfl, rfl⟩ : (X = 1 ∧ Y = -1) ∨ (X = -1 ∧ Y = 1) := by omega
            · clear h1 c0 c1 c2
              by_cases hp : p = r
              · subst hp
                have hq' : ¬ q = s := fun e => hpr ⟨rfl, e⟩
                go_wp2_with fail
                go_ret
                exact ⟨rfl, k8.below⟩
              · go_wp2_with fail
                go_ret
                exact ⟨rfl, k8.below⟩
            · clear h1 c0 c1 c2
              by_cases hp : p = r
              · subst hp
                have hq' : ¬ q = s := fun e => hpr ⟨rfl, e⟩
                go_wp2_with fail
                go_ret
                exact ⟨rfl, k8.below⟩
              · go_wp2_with fail
                go_ret
                exact ⟨rfl, k8.below⟩
      · skip
        have hv := addR_valid hs
        have n1 := negR_yes hv
        obtain ⟨m1, m2⟩ := pair_eq (add_sub hs)
        refine wp_region_quiet_below (by kernel_rfl) (by kernel_rfl) ?_
        repeat (first | go_big_quiet_step ((first | (go_at_call 15; exact Calls.regrown_of (spec_isRatio _ _ _)) | (go_at_call 19; exact Calls.regrown_of (impl_NegateRatio _ _ _)) | (go_at_call 30; exact Calls.regrown_of (impl_AddRatios _ _ _ _ _)))) | quiet_step ((first | (go_at_call 15; exact Calls.regrown_of (spec_isRatio _ _ _)) | (go_at_call 19; exact Calls.regrown_of (impl_NegateRatio _ _ _)) | (go_at_call 30; exact Calls.regrown_of (impl_AddRatios _ _ _ _ _)))))
        refine wpQuiet_nil ?_
        intro _ hw'
        obtain ⟨⟨dq, osq⟩, hw''⟩ := hw'
        subst hw''
        have k6 := Kept.call (below_regrown V5 dq osq) k5
        clear vs0 gvs0 vs1 gvs1 va0 gva0 va1 gva1 va2 gva2 va3 gva3
        generalize grow (redrawn V5 dq) osq = W9 at *
        have u6a0 : W9.cell? ⟨w1.heap.size, 0, none⟩ = some (.int .i64 p) := k6.cell (⟨w1.heap.size, 0, none⟩, .int .i64 p) (by simp)
        have u6a1 : W9.cell? ⟨w1.heap.size, 1, none⟩ = some (.int .i64 q) := k6.cell (⟨w1.heap.size, 1, none⟩, .int .i64 q) (by simp)
        have u6a2 : W9.cell? ⟨w1.heap.size + 1, 0, none⟩ = some (.int .i64 r) := k6.cell (⟨w1.heap.size + 1, 0, none⟩, .int .i64 r) (by simp)
        have u6a3 : W9.cell? ⟨w1.heap.size + 1, 1, none⟩ = some (.int .i64 s) := k6.cell (⟨w1.heap.size + 1, 1, none⟩, .int .i64 s) (by simp)
        go_wp2_with fail
        refine (impl_CompareRatios _ _ _ _ _).mono ?_; rintro e w7 ⟨rfl, hb7⟩
        have k7 := Kept.call hb7 k6
        have t7a0 : w7.cell? ⟨w1.heap.size, 0, none⟩ = some (.int .i64 p) := k7.cell (⟨w1.heap.size, 0, none⟩, .int .i64 p) (by simp)
        have t7a1 : w7.cell? ⟨w1.heap.size, 1, none⟩ = some (.int .i64 q) := k7.cell (⟨w1.heap.size, 1, none⟩, .int .i64 q) (by simp)
        have t7a2 : w7.cell? ⟨w1.heap.size + 1, 0, none⟩ = some (.int .i64 r) := k7.cell (⟨w1.heap.size + 1, 0, none⟩, .int .i64 r) (by simp)
        have t7a3 : w7.cell? ⟨w1.heap.size + 1, 1, none⟩ = some (.int .i64 s) := k7.cell (⟨w1.heap.size + 1, 1, none⟩, .int .i64 s) (by simp)
        go_wp2_with fail
        refine (impl_CompareRatios _ _ _ _ _).mono ?_; rintro e w8 ⟨rfl, hb8⟩
        have k8 := Kept.call hb8 k7
        have t8a0 : w8.cell? ⟨w1.heap.size, 0, none⟩ = some (.int .i64 p) := k8.cell (⟨w1.heap.size, 0, none⟩, .int .i64 p) (by simp)
        have t8a1 : w8.cell? ⟨w1.heap.size, 1, none⟩ = some (.int .i64 q) := k8.cell (⟨w1.heap.size, 1, none⟩, .int .i64 q) (by simp)
        have t8a2 : w8.cell? ⟨w1.heap.size + 1, 0, none⟩ = some (.int .i64 r) := k8.cell (⟨w1.heap.size + 1, 0, none⟩, .int .i64 r) (by simp)
        have t8a3 : w8.cell? ⟨w1.heap.size + 1, 1, none⟩ = some (.int .i64 s) := k8.cell (⟨w1.heap.size + 1, 1, none⟩, .int .i64 s) (by simp)
        clear t7a0 t7a1 t7a2 t7a3
        rcases cmp_neg p q r s with ⟨h1, h2⟩ | ⟨h1, h2⟩
        · go_wp2_with fail
          go_ret
          exact ⟨rfl, k8.below⟩
        · by_cases hpr : p = r ∧ q = s
          · obtain ⟨rfl, rfl⟩ := hpr
            have c0 : cmpR p q p q = 0 := h2.2 ⟨rfl, rfl⟩
            clear h1 h2
            go_wp2_with fail
            go_ret
            exact ⟨rfl, k8.below⟩
          · have c0 : cmpR p q r s ≠ 0 := fun e => hpr (h2.1 e)
            have c1 := cmpR_range p q r s
            have c2 := cmpR_range r s p q
            clear h2 e1 e2
            generalize cmpR p q r s = X at *
            generalize cmpR r s p q = Y at *
            obtain ⟨rfl, rfl⟩ | ⟨rfl, rfl⟩ : (X = 1 ∧ Y = -1) ∨ (X = -1 ∧ Y = 1) := by omega
            · clear h1 c0 c1 c2
              by_cases hp : p = r
              · subst hp
                have hq' : ¬ q = s := fun e => hpr ⟨rfl, e⟩
                go_wp2_with fail
                go_ret
                exact ⟨rfl, k8.below⟩
              · go_wp2_with fail
                go_ret
                exact ⟨rfl, k8.below⟩
            · clear h1 c0 c1 c2
              by_cases hp : p = r
              · subst hp
                have hq' : ¬ q = s := fun e => hpr ⟨rfl, e⟩
                go_wp2_with fail
                go_ret
                exact ⟨rfl, k8.below⟩
              · go_wp2_with fail
                go_ret
                exact ⟨rfl, k8.below⟩
end Go.Proofs.Ytekjenbgdllghaa
