/-
  The walk of the law FnExactIsModel. (Printed by gen/model8.py.)
-/
import Derived.Test.YtkkhaamklbolmaaModel4
import Derived.Test.YtkkhaamklbolmaaModel5
import Derived.Test.YtkkhaamklbolmaaModel7
namespace Go.Proofs.Ytkkhaamklbolmaa
open Go.RowKit Go.Sort
set_option linter.unusedVariables false
set_option linter.unusedSimpArgs false

theorem modelRow (w : World) (u v : Value) (T : TypeId) : Row (w.alloc (.cells #[u, v] T)) w.heap.size T 2 (modelM u v) := row_lit w #[u, v] T 2 (modelM u v) (by simp) (fun i hi => by unfold modelM; rcases (by omega : i = 0 ∨ i = 1) with rfl | rfl <;> rfl)
set_option maxRecDepth 20000 in
set_option maxHeartbeats 4000000 in
theorem law_IsModel (w : World) (A : Option Addr) (n c : Nat) (D : OptD) (P : Loc) (A2 : Option Addr) (m c2 : Nat) (E : RulD) (Q : Loc) (h : OptsF w A n c D P) (h2 : RulsF w A2 m c2 E Q) :
    Calls Try.prog 11 #[.agg #[.slice A n c, .slice A2 m c2]] w fun e w' => e = .returned (.bool true) ∧ Below w.heap.size w w' := by
  have H := Lib.hid h
  have H2 := Lib.hid h2
  clear h h2
  have B0 := Lib.hid ((Below.refl w.heap.size w).alloc (Nat.le_refl _) (.cells #[.slice A n c, .slice A2 m c2] 60))
  have R0 := Lib.hid (modelRow w (.slice A n c) (.slice A2 m c2) 60)
  have H0 := Lib.hid (H.out.call B0.out)
  have K0 := Lib.hid (H2.out.call B0.out)
  have SZ := Lib.hid (szModel_any _ A n c D P A2 m c2 E Q 1048576 H0.out K0.out (by omega) (by omega))
  go_enter Try.func11, Try.ntmps11
  go_wp2_with fail
  refine SZ.out.mono ?_; rintro e w1 ⟨t, rfl, t1, t2, t3, b1⟩
  have R1 := Lib.hid (R0.out.call b1)
  have B1 := Lib.hid (B0.out.trans (b1.mono B0.out.size))
  have T3 := Lib.hid t3
  clear t3 b1 SZ H0 K0 R0 B0
  by_cases ht : t < 0
  · go_wp2_with fail
    go_ret
    exact ⟨rfl, B1.out⟩
  obtain ⟨⟨n1, n2⟩, n3, n4⟩ := T3.out (by omega)
  have TM := Lib.hid (fun (W : World) (hb : Below w.heap.size w W) => toModel_any W A n c D P A2 m c2 E Q (H.out.call hb) (H2.out.call hb) n1 n2 n3 n4)
  have SM := Lib.hid (fun (W : World) (X : Option Addr) (p : Nat) (PX : Loc) (Z : Option Addr) (q : Nat) (PZ : Loc) (hx : OptsF W X n p D PX) (hz : RulsF W Z m q E PZ) => spec_IsModel W X n p D PX Z m q E PZ hx hz)
  have MM := Lib.hid (fun (W : World) (X : Option Addr) (p : Nat) (PX : Loc) (Z : Option Addr) (q : Nat) (PZ : Loc) (hx : OptsF W X n p D PX) (hz : RulsF W Z m q E PZ) => impl_IsModel W X n p D PX Z m q E PZ hx hz)
  generalize mdlB n D m E = R at *
  have hrr : (R != R) = false := by simp
  clear n1 n2 n3 n4 T3
  have x0 : w1.cell? ⟨w.heap.size, 0, none⟩ = some (.slice A n c) := R1.out.cell (i := 0) (by omega)
  have x1 : w1.cell? ⟨w.heap.size, 1, none⟩ = some (.slice A2 m c2) := R1.out.cell (i := 1) (by omega)
  go_wp2_with fail
  refine (TM.out _ B1.out).mono ?_; rintro e w2 ⟨g2, P2, k2, Q2, rfl, o2, r2, b2⟩
  have R2 := Lib.hid (R1.out.call b2)
  have B2 := Lib.hid (B1.out.trans (b2.mono B1.out.size))
  have O2 := Lib.hid o2
  have S2 := Lib.hid r2
  clear b2 o2 r2 x0 x1 R1
  go_wp2_with fail
  refine (SM.out _ _ _ _ _ _ _ O2.out S2.out).mono ?_; rintro e w3 ⟨rfl, b3⟩
  have R3 := Lib.hid (R2.out.call b3)
  have B3 := Lib.hid (B2.out.trans (b3.mono B2.out.size))
  clear b3 O2 S2 R2
  have x0 : w3.cell? ⟨w.heap.size, 0, none⟩ = some (.slice A n c) := R3.out.cell (i := 0) (by omega)
  have x1 : w3.cell? ⟨w.heap.size, 1, none⟩ = some (.slice A2 m c2) := R3.out.cell (i := 1) (by omega)
  go_wp2_with fail
  refine (TM.out _ B3.out).mono ?_; rintro e w4 ⟨g4, P4, k4, Q4, rfl, o4, r4, b4⟩
  have R4 := Lib.hid ((R3.out.call b4).alloc (.cells #[.slice (some ⟨g4, 0, none⟩) n n, .slice (some ⟨k4, 0, none⟩) m m] 66))
  have X4 := Lib.hid (modelRow w4 (.slice (some ⟨g4, 0, none⟩) n n) (.slice (some ⟨k4, 0, none⟩) m m) 66)
  have B4 := Lib.hid ((B3.out.trans (b4.mono B3.out.size)).alloc (by have := B3.out.size; have := b4.size; omega) (.cells #[.slice (some ⟨g4, 0, none⟩) n n, .slice (some ⟨k4, 0, none⟩) m m] 66))
  have O4 := Lib.hid (o4.call ((Below.refl w4.heap.size w4).alloc (Nat.le_refl _) (.cells #[.slice (some ⟨g4, 0, none⟩) n n, .slice (some ⟨k4, 0, none⟩) m m] 66)))
  have S4 := Lib.hid (r4.call ((Below.refl w4.heap.size w4).alloc (Nat.le_refl _) (.cells #[.slice (some ⟨g4, 0, none⟩) n n, .slice (some ⟨k4, 0, none⟩) m m] 66)))
  clear b4 o4 r4 x0 x1 R3
  go_wp2_with fail
  refine (MM.out _ _ _ _ _ _ _ O4.out S4.out).mono ?_; rintro e w5 ⟨rfl, b5⟩
  have R5 := Lib.hid (R4.out.call b5)
  have X5 := Lib.hid (X4.out.call b5)
  have B5 := Lib.hid (B4.out.trans (b5.mono B4.out.size))
  have O5 := Lib.hid (O4.out.call b5)
  have S5 := Lib.hid (S4.out.call b5)
  clear b5 R4 X4 O4 S4
  have x0 : w5.cell? ⟨w.heap.size, 0, none⟩ = some (.slice A n c) := R5.out.cell (i := 0) (by omega)
  have x1 : w5.cell? ⟨w.heap.size, 1, none⟩ = some (.slice A2 m c2) := R5.out.cell (i := 1) (by omega)
  have y0 : w5.cell? ⟨w4.heap.size, 0, none⟩ = some (.slice (some ⟨g4, 0, none⟩) n n) := X5.out.cell (i := 0) (by omega)
  have y1 : w5.cell? ⟨w4.heap.size, 1, none⟩ = some (.slice (some ⟨k4, 0, none⟩) m m) := X5.out.cell (i := 1) (by omega)
  go_wp2_with fail
  go_region_law (first
    | (go_simp
       go_at_call 44
       refine (TM.out _ (by have h := B5.out; repeat' (first | (with_reducible exact Below.refl _ _) | assumption | (with_reducible refine below_then (by assumption) ?_ ?_) | (with_reducible refine Below.alloc ?_ ?_ _) | (with_reducible refine below_drewN ?_ _) | (with_reducible refine Below.drew ?_) | (with_reducible refine Below.setCell ?_ ?_ _) | omega | (simp; done) | (simp; omega)))).mono ?_
       rintro e w6 ⟨g6, P6, k6, Q6, rfl, o6, r6, b6⟩
       have X6 := Lib.hid ((X5.out.drew).call b6)
       have O6 := Lib.hid (OptsF.call (w := w5.drew) (O5.out.call (Below.refl _ _).drew) b6)
       have S6 := Lib.hid (RulsF.call (w := w5.drew) (S5.out.call (Below.refl _ _).drew) b6)
       have B6 := Lib.hid ((show Below w.heap.size w w5.drew from B5.out.drew).trans (b6.mono (by have := B5.out.size; exact this)))
       have O6b := Lib.hid o6
       have S6b := Lib.hid r6
       have y2 : w6.cell? ⟨w4.heap.size, 0, none⟩ = some (.slice (some ⟨g4, 0, none⟩) n n) := X6.out.cell (i := 0) (by omega)
       have y3 : w6.cell? ⟨w4.heap.size, 1, none⟩ = some (.slice (some ⟨k4, 0, none⟩) m m) := X6.out.cell (i := 1) (by omega)
       clear b6 o6 r6)
    | (go_simp
       go_at_call 46
       refine (eqModel_same _ _ _ n _ _ D _ _ _ _ m _ _ E _ _ O6.out O6b.out S6.out S6b.out).mono ?_
       rintro e w7 ⟨rfl, b7⟩
       have B7 := Lib.hid (B6.out.trans (b7.mono B6.out.size))
       clear b7))
  all_goals
    go_wp2_with fail
    go_ret
    exact ⟨rfl, B7.out⟩
end Go.Proofs.Ytkkhaamklbolmaa
