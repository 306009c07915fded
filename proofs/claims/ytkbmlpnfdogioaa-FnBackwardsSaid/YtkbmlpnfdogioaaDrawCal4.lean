/-
  Contracts of DrawHoursBetween, DrawWorkdaysBetween, DrawAddWorkdays, DrawFinishDay.
-/
import Derived.Test.YtkbmlpnfdogioaaDrawCal3
namespace Go.Proofs.Ytkbmlpnfdogioaa
open Go.RowKit
set_option linter.unusedVariables false
set_option linter.unusedSimpArgs false

theorem fin_DrawHoursBetween {Post : Ending → World → Prop} {t : Array Value} {W : World} {r : Nat} {a b x y : Value} (ht : t[2]? = some (.pointer (some ⟨r, 0, none⟩))) (h3 : t[3]? = some x) (h4 : t[4]? = some y) (h0 : W.cell? ⟨r, 0, none⟩ = some a) (h1 : W.cell? ⟨r, 1, none⟩ = some b)
    (hP : Post (.returned (.tuple #[.agg #[a, b], x, y])) W) : bodyPost Try.prog Try.f21 Post Exit.ret { tmps := t, defers := [] } W :=
  bodyPost_ret (v := .tuple #[.agg #[a, b], x, y]) (by simp [results, Try.results21, go_sem, ht, h3, h4, h0, h1]) rfl hP
set_option maxHeartbeats 1000000 in
theorem DrawHoursBetween_any (w : World) (A : Option Addr) (len cap : Nat) (hb : Bytes w A len) :
    Calls Try.prog 21 #[.slice A len cap] w (NewCal2 w) := by
  have HB := Lib.hid (bytes_call hb ((Below.refl _ _).alloc (Nat.le_refl _) (.cells #[.slice none 0 0, .slice none 0 0] 30)))
  clear hb
  go_enter Try.func21, Try.ntmps21
  go_wp2_with fail
  refine (l4Two_any _ _ _ _ HB.out).mono ?_
  rintro e w1 ⟨A2, n, c, f, A3, m, c', dy, hr, a, b, rfl, hC, ha, hb, hA, hA', hb1⟩
  have R1 := Lib.hid ((row_lit w #[.slice none 0 0, .slice none 0 0] 30 2 (fun _ => .slice none 0 0) (by simp) (fun i hi => by rcases (by omega : i = 0 ∨ i = 1) with rfl | rfl <;> rfl)).call hb1)
  have B1 := Lib.hid (((Below.refl w.heap.size w).alloc (Nat.le_refl _) (.cells #[.slice none 0 0, .slice none 0 0] 30)).trans (hb1.mono (by simp)))
  have C1 := Lib.hid hC
  clear hb1 hC
  have q0 := R1.out.frozen 0
  have q1 := R1.out.frozen 1
  have ql : w.heap.size < w1.heap.size := R1.out.lt
  have qc := R1.out.cell (i := 0) (by omega)
  have qd := R1.out.cell (i := 1) (by omega)
  simp only [World.size_alloc] at hA hA'
  have HA := Lib.hid hA
  have HA' := Lib.hid hA'
  clear hA hA'
  go_wp2_with fail
  refine fin_DrawHoursBetween (r := w.heap.size) (a := .slice A2 n c) (b := .slice A3 m c') rfl rfl rfl ?_ ?_ ?_
  · refine (Row.cell ((Row.set R1.out 0 _).set 1 _) (i := 0) (by omega)).trans ?_; simp
  · refine (Row.cell ((Row.set R1.out 0 _).set 1 _) (i := 1) (by omega)).trans ?_; simp
  · refine ⟨A2, n, c, f, A3, m, c', dy, hr, a, b, rfl, ?_, ha, hb, fun b o e => by have := HA.out b o e; omega, fun b o e => by have := HA'.out b o e; omega, ?_⟩
    · exact CalF.far (CalF.far C1.out (p := ⟨w.heap.size, 0, none⟩) (fun b o e => by have := HA.out b o e; show b ≠ w.heap.size; omega) (fun b o e => by have := HA'.out b o e; show b ≠ w.heap.size; omega) _) (p := ⟨w.heap.size, 1, none⟩) (fun b o e => by have := HA.out b o e; show b ≠ w.heap.size; omega) (fun b o e => by have := HA'.out b o e; show b ≠ w.heap.size; omega) _
    · exact Below.setCell (Below.setCell B1.out (Nat.le_refl _) _) (Nat.le_refl _) _

theorem fin_DrawWorkdaysBetween {Post : Ending → World → Prop} {t : Array Value} {W : World} {r : Nat} {a b x y : Value} (ht : t[2]? = some (.pointer (some ⟨r, 0, none⟩))) (h3 : t[3]? = some x) (h4 : t[4]? = some y) (h0 : W.cell? ⟨r, 0, none⟩ = some a) (h1 : W.cell? ⟨r, 1, none⟩ = some b)
    (hP : Post (.returned (.tuple #[.agg #[a, b], x, y])) W) : bodyPost Try.prog Try.f22 Post Exit.ret { tmps := t, defers := [] } W :=
  bodyPost_ret (v := .tuple #[.agg #[a, b], x, y]) (by simp [results, Try.results22, go_sem, ht, h3, h4, h0, h1]) rfl hP
set_option maxHeartbeats 1000000 in
theorem DrawWorkdaysBetween_any (w : World) (A : Option Addr) (len cap : Nat) (hb : Bytes w A len) :
    Calls Try.prog 22 #[.slice A len cap] w (NewCal2 w) := by
  have HB := Lib.hid (bytes_call hb ((Below.refl _ _).alloc (Nat.le_refl _) (.cells #[.slice none 0 0, .slice none 0 0] 30)))
  clear hb
  go_enter Try.func22, Try.ntmps22
  go_wp2_with fail
  refine (l4Two_any _ _ _ _ HB.out).mono ?_
  rintro e w1 ⟨A2, n, c, f, A3, m, c', dy, hr, a, b, rfl, hC, ha, hb, hA, hA', hb1⟩
  have R1 := Lib.hid ((row_lit w #[.slice none 0 0, .slice none 0 0] 30 2 (fun _ => .slice none 0 0) (by simp) (fun i hi => by rcases (by omega : i = 0 ∨ i = 1) with rfl | rfl <;> rfl)).call hb1)
  have B1 := Lib.hid (((Below.refl w.heap.size w).alloc (Nat.le_refl _) (.cells #[.slice none 0 0, .slice none 0 0] 30)).trans (hb1.mono (by simp)))
  have C1 := Lib.hid hC
  clear hb1 hC
  have q0 := R1.out.frozen 0
  have q1 := R1.out.frozen 1
  have ql : w.heap.size < w1.heap.size := R1.out.lt
  have qc := R1.out.cell (i := 0) (by omega)
  have qd := R1.out.cell (i := 1) (by omega)
  simp only [World.size_alloc] at hA hA'
  have HA := Lib.hid hA
  have HA' := Lib.hid hA'
  clear hA hA'
  go_wp2_with fail
  refine fin_DrawWorkdaysBetween (r := w.heap.size) (a := .slice A2 n c) (b := .slice A3 m c') rfl rfl rfl ?_ ?_ ?_
  · refine (Row.cell ((Row.set R1.out 0 _).set 1 _) (i := 0) (by omega)).trans ?_; simp
  · refine (Row.cell ((Row.set R1.out 0 _).set 1 _) (i := 1) (by omega)).trans ?_; simp
  · refine ⟨A2, n, c, f, A3, m, c', dy, hr, a, b, rfl, ?_, ha, hb, fun b o e => by have := HA.out b o e; omega, fun b o e => by have := HA'.out b o e; omega, ?_⟩
    · exact CalF.far (CalF.far C1.out (p := ⟨w.heap.size, 0, none⟩) (fun b o e => by have := HA.out b o e; show b ≠ w.heap.size; omega) (fun b o e => by have := HA'.out b o e; show b ≠ w.heap.size; omega) _) (p := ⟨w.heap.size, 1, none⟩) (fun b o e => by have := HA.out b o e; show b ≠ w.heap.size; omega) (fun b o e => by have := HA'.out b o e; show b ≠ w.heap.size; omega) _
    · exact Below.setCell (Below.setCell B1.out (Nat.le_refl _) _) (Nat.le_refl _) _

theorem fin_DrawAddWorkdays {Post : Ending → World → Prop} {t : Array Value} {W : World} {r : Nat} {a b x y : Value} (ht : t[2]? = some (.pointer (some ⟨r, 0, none⟩))) (h3 : t[3]? = some x) (h4 : t[4]? = some y) (h0 : W.cell? ⟨r, 0, none⟩ = some a) (h1 : W.cell? ⟨r, 1, none⟩ = some b)
    (hP : Post (.returned (.tuple #[.agg #[a, b], x, y])) W) : bodyPost Try.prog Try.f30 Post Exit.ret { tmps := t, defers := [] } W :=
  bodyPost_ret (v := .tuple #[.agg #[a, b], x, y]) (by simp [results, Try.results30, go_sem, ht, h3, h4, h0, h1]) rfl hP
set_option maxHeartbeats 2000000 in
theorem DrawAddWorkdays_any (w : World) (A : Option Addr) (len cap : Nat) (hb : Bytes w A len) :
    Calls Try.prog 30 #[.slice A len cap] w (NewCal2 w) := by
  have HB := Lib.hid (bytes_call hb ((Below.refl _ _).alloc (Nat.le_refl _) (.cells #[.slice none 0 0, .slice none 0 0] 30)))
  clear hb
  go_enter Try.func30, Try.ntmps30
  go_wp2_with fail
  refine (l1New_any _ _ _ _ HB.out).mono ?_
  rintro e w1 ⟨g, rfl, d1, hb1⟩
  have hg := d1.base
  simp only [World.size_alloc] at hg
  have R1 := Lib.hid ((row_lit w #[.slice none 0 0, .slice none 0 0] 30 2 (fun _ => .slice none 0 0) (by simp) (fun i hi => by rcases (by omega : i = 0 ∨ i = 1) with rfl | rfl <;> rfl)).call hb1)
  have B1 := Lib.hid (((Below.refl w.heap.size w).alloc (Nat.le_refl _) (.cells #[.slice none 0 0, .slice none 0 0] 30)).trans (hb1.mono (by simp)))
  have rl := R1.out.lt
  clear hb1
  go_wp2_with fail
  refine (l4Calendar_any _ g _ d1).mono ?_
  rintro e w2 ⟨A2, n, c, f, A3, m, c', dy, hr, rfl, hC, hA, hA', d2, hg2⟩
  have C2 := Lib.hid (hC.call ((Below.refl _ _).alloc (Nat.le_refl _) (.cells #[.slice A2 n c, .slice A3 m c'] 30)))
  have HA := Lib.hid hA
  have HA' := Lib.hid hA'
  have X2 := Lib.hid (row_lit w2 #[.slice A2 n c, .slice A3 m c'] 30 2 (fun i => if i = 0 then .slice A2 n c else .slice A3 m c') (by simp) (fun i hi => by rcases (by omega : i = 0 ∨ i = 1) with rfl | rfl <;> rfl))
  have W2 := Lib.hid (grown_alloc hg2 (.cells #[.slice A2 n c, .slice A3 m c'] 30))
  have z2 := hg2.size
  have gx0 := d2.lt
  have D2 := Lib.hid (d2.alloc (.cells #[.slice A2 n c, .slice A3 m c'] 30))
  clear hC hA hA' hg2 d2
  go_wp2_with fail
  generalize hXB : w2.heap.size = XB at *
  generalize w2.alloc (.cells #[.slice A2 n c, .slice A3 m c'] 30) = V2 at *
  refine (l4Day_any _ g _ D2.out).mono ?_
  rintro e w3 ⟨v, rfl, ⟨a, rfl, ha0, ha1⟩, d3, hg3⟩
  have W3 := Lib.hid (grown_trans W2.out hg3)
  have C3 := Lib.hid (C2.out.grown hg3 (fun b o e => (HA.out b o e).2) (fun b o e => (HA'.out b o e).2))
  have X3 := Lib.hid (X2.out.grown hg3 (by omega))
  clear hg3
  go_wp2_with fail
  refine (l1Once_any _ g _ _ d3 (by omega) (by omega)).mono ?_
  rintro e w4 ⟨v, rfl, ⟨t, rfl⟩, d4, hg4⟩
  have W4 := Lib.hid (grown_trans W3.out hg4)
  have C4 := Lib.hid (C3.out.grown hg4 (fun b o e => (HA.out b o e).2) (fun b o e => (HA'.out b o e).2))
  have X4 := Lib.hid (X3.out.grown hg4 (by omega))
  have R4 := Lib.hid (R1.out.grown W4.out (by omega))
  have D4 := Lib.hid d4
  clear hg4 d4 d3
  have x40 : w4.cell? ⟨XB, 0, none⟩ = some (.slice A2 n c) := (X4.out.cell (i := 0) (by omega)).trans (by simp)
  have x41 : w4.cell? ⟨XB, 1, none⟩ = some (.slice A3 m c') := (X4.out.cell (i := 1) (by omega)).trans (by simp)
  have xl4 : XB < w4.heap.size := X4.out.lt
  have ql4 : w.heap.size < w4.heap.size := R4.out.lt
  cases t
  all_goals
    go_wp2_with fail
    go_region_with (first
      | (go_at_call 49; refine (l1Odd_any _ g _ D4.out.drew).mono ?_; rintro e w5 ⟨v5, rfl, ⟨z, rfl, zz0, zz1⟩, d5, hg5⟩; have W5 := Lib.hid (grown_trans (grown_drew W4.out) hg5); have C5 := Lib.hid ((C4.out.call (Below.refl _ _).drew).grown hg5 (fun b o e => (HA.out b o e).2) (fun b o e => (HA'.out b o e).2)); have R5 := Lib.hid (R4.out.drew.grown hg5 (by omega)); have x50 : w5.cell? ⟨XB, 0, none⟩ = some (.slice A2 n c) := (grown_cell hg5 (p := ⟨XB, 0, none⟩) (by show XB < w4.heap.size; omega) (by show XB ≠ g; omega)).trans x40; have x51 : w5.cell? ⟨XB, 1, none⟩ = some (.slice A3 m c') := (grown_cell hg5 (p := ⟨XB, 1, none⟩) (by show XB < w4.heap.size; omega) (by show XB ≠ g; omega)).trans x41; have q0 := R5.out.frozen 0; have q1 := R5.out.frozen 1; have ql : w.heap.size < w5.heap.size := R5.out.lt; have qc := R5.out.cell (i := 0) (by omega); have qd := R5.out.cell (i := 1) (by omega); clear hg5 d5)
      | (go_at_call 50; refine (l1Below_any _ g _ _ D4.out.drew (by omega) (by omega)).mono ?_; rintro e w5 ⟨v5, rfl, ⟨z, rfl, zz0, zz1⟩, d5, hg5⟩; have W5 := Lib.hid (grown_trans (grown_drew W4.out) hg5); have C5 := Lib.hid ((C4.out.call (Below.refl _ _).drew).grown hg5 (fun b o e => (HA.out b o e).2) (fun b o e => (HA'.out b o e).2)); have R5 := Lib.hid (R4.out.drew.grown hg5 (by omega)); have x50 : w5.cell? ⟨XB, 0, none⟩ = some (.slice A2 n c) := (grown_cell hg5 (p := ⟨XB, 0, none⟩) (by show XB < w4.heap.size; omega) (by show XB ≠ g; omega)).trans x40; have x51 : w5.cell? ⟨XB, 1, none⟩ = some (.slice A3 m c') := (grown_cell hg5 (p := ⟨XB, 1, none⟩) (by show XB < w4.heap.size; omega) (by show XB ≠ g; omega)).trans x41; have q0 := R5.out.frozen 0; have q1 := R5.out.frozen 1; have ql : w.heap.size < w5.heap.size := R5.out.lt; have qc := R5.out.cell (i := 0) (by omega); have qd := R5.out.cell (i := 1) (by omega); have uw : IntKind.i64.wrap (z - 20) = z - 20 := IntWalk.i64_in _ ⟨by omega, by omega⟩; clear hg5 d5))
    all_goals
      go_wp2_with fail
      refine fin_DrawAddWorkdays (r := w.heap.size) (a := .slice A2 n c) (b := .slice A3 m c') rfl rfl rfl ?_ ?_ ?_
      · refine (Row.cell ((Row.set R5.out 0 _).set 1 _) (i := 0) (by omega)).trans ?_; simp
      · refine (Row.cell ((Row.set R5.out 0 _).set 1 _) (i := 1) (by omega)).trans ?_; simp
      · refine ⟨A2, n, c, f, A3, m, c', dy, hr, a, _, rfl, ?_, ⟨ha0, ha1⟩, ⟨by omega, by omega⟩, fun b o e => by have := (HA.out b o e).1; omega, fun b o e => by have := (HA'.out b o e).1; omega, ?_⟩
        · exact CalF.far (CalF.far C5.out (p := ⟨w.heap.size, 0, none⟩) (fun b o e => by have := (HA.out b o e).1; show b ≠ w.heap.size; omega) (fun b o e => by have := (HA'.out b o e).1; show b ≠ w.heap.size; omega) _) (p := ⟨w.heap.size, 1, none⟩) (fun b o e => by have := (HA.out b o e).1; show b ≠ w.heap.size; omega) (fun b o e => by have := (HA'.out b o e).1; show b ≠ w.heap.size; omega) _
        · exact Below.setCell (Below.setCell (B1.out.trans (grown_below W5.out (by omega) (by omega))) (Nat.le_refl _) _) (Nat.le_refl _) _

theorem fin_DrawFinishDay {Post : Ending → World → Prop} {t : Array Value} {W : World} {r : Nat} {a b x y : Value} (ht : t[2]? = some (.pointer (some ⟨r, 0, none⟩))) (h3 : t[3]? = some x) (h4 : t[4]? = some y) (h0 : W.cell? ⟨r, 0, none⟩ = some a) (h1 : W.cell? ⟨r, 1, none⟩ = some b)
    (hP : Post (.returned (.tuple #[.agg #[a, b], x, y])) W) : bodyPost Try.prog Try.f26 Post Exit.ret { tmps := t, defers := [] } W :=
  bodyPost_ret (v := .tuple #[.agg #[a, b], x, y]) (by simp [results, Try.results26, go_sem, ht, h3, h4, h0, h1]) rfl hP
set_option maxHeartbeats 2000000 in
theorem DrawFinishDay_any (w : World) (A : Option Addr) (len cap : Nat) (hb : Bytes w A len) :
    Calls Try.prog 26 #[.slice A len cap] w (NewCal2 w) := by
  have HB := Lib.hid (bytes_call hb ((Below.refl _ _).alloc (Nat.le_refl _) (.cells #[.slice none 0 0, .slice none 0 0] 30)))
  clear hb
  go_enter Try.func26, Try.ntmps26
  go_wp2_with fail
  refine (l1New_any _ _ _ _ HB.out).mono ?_
  rintro e w1 ⟨g, rfl, d1, hb1⟩
  have hg := d1.base
  simp only [World.size_alloc] at hg
  have R1 := Lib.hid ((row_lit w #[.slice none 0 0, .slice none 0 0] 30 2 (fun _ => .slice none 0 0) (by simp) (fun i hi => by rcases (by omega : i = 0 ∨ i = 1) with rfl | rfl <;> rfl)).call hb1)
  have B1 := Lib.hid (((Below.refl w.heap.size w).alloc (Nat.le_refl _) (.cells #[.slice none 0 0, .slice none 0 0] 30)).trans (hb1.mono (by simp)))
  have rl := R1.out.lt
  clear hb1
  go_wp2_with fail
  refine (l4Calendar_any _ g _ d1).mono ?_
  rintro e w2 ⟨A2, n, c, f, A3, m, c', dy, hr, rfl, hC, hA, hA', d2, hg2⟩
  have C2 := Lib.hid (hC.call ((Below.refl _ _).alloc (Nat.le_refl _) (.cells #[.slice A2 n c, .slice A3 m c'] 30)))
  have HA := Lib.hid hA
  have HA' := Lib.hid hA'
  have X2 := Lib.hid (row_lit w2 #[.slice A2 n c, .slice A3 m c'] 30 2 (fun i => if i = 0 then .slice A2 n c else .slice A3 m c') (by simp) (fun i hi => by rcases (by omega : i = 0 ∨ i = 1) with rfl | rfl <;> rfl))
  have W2 := Lib.hid (grown_alloc hg2 (.cells #[.slice A2 n c, .slice A3 m c'] 30))
  have z2 := hg2.size
  have gx0 := d2.lt
  have D2 := Lib.hid (d2.alloc (.cells #[.slice A2 n c, .slice A3 m c'] 30))
  clear hC hA hA' hg2 d2
  go_wp2_with fail
  generalize hXB : w2.heap.size = XB at *
  generalize w2.alloc (.cells #[.slice A2 n c, .slice A3 m c'] 30) = V2 at *
  refine (l4Day_any _ g _ D2.out).mono ?_
  rintro e w3 ⟨v, rfl, ⟨a, rfl, ha0, ha1⟩, d3, hg3⟩
  have W3 := Lib.hid (grown_trans W2.out hg3)
  have C3 := Lib.hid (C2.out.grown hg3 (fun b o e => (HA.out b o e).2) (fun b o e => (HA'.out b o e).2))
  have X3 := Lib.hid (X2.out.grown hg3 (by omega))
  clear hg3
  go_wp2_with fail
  refine (l1Once_any _ g _ _ d3 (by omega) (by omega)).mono ?_
  rintro e w4 ⟨v, rfl, ⟨t, rfl⟩, d4, hg4⟩
  have W4 := Lib.hid (grown_trans W3.out hg4)
  have C4 := Lib.hid (C3.out.grown hg4 (fun b o e => (HA.out b o e).2) (fun b o e => (HA'.out b o e).2))
  have X4 := Lib.hid (X3.out.grown hg4 (by omega))
  have R4 := Lib.hid (R1.out.grown W4.out (by omega))
  have D4 := Lib.hid d4
  clear hg4 d4 d3
  have x40 : w4.cell? ⟨XB, 0, none⟩ = some (.slice A2 n c) := (X4.out.cell (i := 0) (by omega)).trans (by simp)
  have x41 : w4.cell? ⟨XB, 1, none⟩ = some (.slice A3 m c') := (X4.out.cell (i := 1) (by omega)).trans (by simp)
  have xl4 : XB < w4.heap.size := X4.out.lt
  have ql4 : w.heap.size < w4.heap.size := R4.out.lt
  cases t
  all_goals
    go_wp2_with fail
    go_region_with (first
      | (go_at_call 49; refine (l1Odd_any _ g _ D4.out.drew).mono ?_; rintro e w5 ⟨v5, rfl, ⟨z, rfl, zz0, zz1⟩, d5, hg5⟩; have W5 := Lib.hid (grown_trans (grown_drew W4.out) hg5); have C5 := Lib.hid ((C4.out.call (Below.refl _ _).drew).grown hg5 (fun b o e => (HA.out b o e).2) (fun b o e => (HA'.out b o e).2)); have R5 := Lib.hid (R4.out.drew.grown hg5 (by omega)); have x50 : w5.cell? ⟨XB, 0, none⟩ = some (.slice A2 n c) := (grown_cell hg5 (p := ⟨XB, 0, none⟩) (by show XB < w4.heap.size; omega) (by show XB ≠ g; omega)).trans x40; have x51 : w5.cell? ⟨XB, 1, none⟩ = some (.slice A3 m c') := (grown_cell hg5 (p := ⟨XB, 1, none⟩) (by show XB < w4.heap.size; omega) (by show XB ≠ g; omega)).trans x41; have q0 := R5.out.frozen 0; have q1 := R5.out.frozen 1; have ql : w.heap.size < w5.heap.size := R5.out.lt; have qc := R5.out.cell (i := 0) (by omega); have qd := R5.out.cell (i := 1) (by omega); clear hg5 d5)
      | (go_at_call 50; refine (l1Below_any _ g _ _ D4.out.drew (by omega) (by omega)).mono ?_; rintro e w5 ⟨v5, rfl, ⟨z, rfl, zz0, zz1⟩, d5, hg5⟩; have W5 := Lib.hid (grown_trans (grown_drew W4.out) hg5); have C5 := Lib.hid ((C4.out.call (Below.refl _ _).drew).grown hg5 (fun b o e => (HA.out b o e).2) (fun b o e => (HA'.out b o e).2)); have R5 := Lib.hid (R4.out.drew.grown hg5 (by omega)); have x50 : w5.cell? ⟨XB, 0, none⟩ = some (.slice A2 n c) := (grown_cell hg5 (p := ⟨XB, 0, none⟩) (by show XB < w4.heap.size; omega) (by show XB ≠ g; omega)).trans x40; have x51 : w5.cell? ⟨XB, 1, none⟩ = some (.slice A3 m c') := (grown_cell hg5 (p := ⟨XB, 1, none⟩) (by show XB < w4.heap.size; omega) (by show XB ≠ g; omega)).trans x41; have q0 := R5.out.frozen 0; have q1 := R5.out.frozen 1; have ql : w.heap.size < w5.heap.size := R5.out.lt; have qc := R5.out.cell (i := 0) (by omega); have qd := R5.out.cell (i := 1) (by omega); have uw : IntKind.i64.wrap (z - 20) = z - 20 := IntWalk.i64_in _ ⟨by omega, by omega⟩; clear hg5 d5))
    all_goals
      go_wp2_with fail
      refine fin_DrawFinishDay (r := w.heap.size) (a := .slice A2 n c) (b := .slice A3 m c') rfl rfl rfl ?_ ?_ ?_
      · refine (Row.cell ((Row.set R5.out 0 _).set 1 _) (i := 0) (by omega)).trans ?_; simp
      · refine (Row.cell ((Row.set R5.out 0 _).set 1 _) (i := 1) (by omega)).trans ?_; simp
      · refine ⟨A2, n, c, f, A3, m, c', dy, hr, a, _, rfl, ?_, ⟨ha0, ha1⟩, ⟨by omega, by omega⟩, fun b o e => by have := (HA.out b o e).1; omega, fun b o e => by have := (HA'.out b o e).1; omega, ?_⟩
        · exact CalF.far (CalF.far C5.out (p := ⟨w.heap.size, 0, none⟩) (fun b o e => by have := (HA.out b o e).1; show b ≠ w.heap.size; omega) (fun b o e => by have := (HA'.out b o e).1; show b ≠ w.heap.size; omega) _) (p := ⟨w.heap.size, 1, none⟩) (fun b o e => by have := (HA.out b o e).1; show b ≠ w.heap.size; omega) (fun b o e => by have := (HA'.out b o e).1; show b ≠ w.heap.size; omega) _
        · exact Below.setCell (Below.setCell (B1.out.trans (grown_below W5.out (by omega) (by omega))) (Nat.le_refl _) _) (Nat.le_refl _) _

end Go.Proofs.Ytkbmlpnfdogioaa
