/-
  The draw of a model; the law on the choices of a drawn model. (Printed by gen/choice9.py.)
-/
import Derived.Test.YtkkhaamklbolmaaChoice8
namespace Go.Proofs.Ytkkhaamklbolmaa
open Go.RowKit Go.Sort
set_option linter.unusedVariables false
set_option linter.unusedSimpArgs false

theorem fin_draw {Post : Ending → World → Prop} {t : Array Value} {W : World} {r : Nat} {a b : Value} (ht : t[2]? = some (.pointer (some ⟨r, 0, none⟩))) (h0 : W.cell? ⟨r, 0, none⟩ = some a) (h1 : W.cell? ⟨r, 1, none⟩ = some b)
    (hP : Post (.returned (.agg #[a, b])) W) : bodyPost Try.prog Try.f47 Post Exit.ret { tmps := t, defers := [] } W :=
  bodyPost_ret (v := .agg #[a, b]) (by simp [results, Try.results47, go_sem, ht, h0, h1]) rfl hP
theorem Bytes.call {w w' : World} {A : Option Addr} {len : Nat} (h : Bytes w A len) (hb : Below w.heap.size w w') : Bytes w' A len := ⟨h.1, fun j hj => by
  obtain ⟨b, o, x, e, hB, h0, h1, hc⟩ := h.2 j hj
  exact ⟨b, o, x, e, Nat.lt_of_lt_of_le hB hb.size, h0, h1, (hb.cell (p := ⟨b, o + j, none⟩) hB).trans hc⟩⟩
set_option maxRecDepth 20000 in
set_option maxHeartbeats 4000000 in
theorem DrawChoicesOf_any (w : World) (A : Option Addr) (len cap : Nat) (hb : Bytes w A len) : Calls Try.prog 47 #[.slice A len cap] w (DrawM w) := by
  obtain ⟨w0, hw0⟩ : ∃ w0, w0 = w.alloc (.cells #[.slice none 0 0, .slice none 0 0] 66) := ⟨_, rfl⟩
  have b0 : Below w.heap.size w w0 := by rw [hw0]; exact (Below.refl _ _).alloc (Nat.le_refl _) _
  have s0 : w0.heap.size = w.heap.size + 1 := by rw [hw0]; simp
  have R0 := Lib.hid (show Row w0 w.heap.size 66 2 (modelM (.slice none 0 0) (.slice none 0 0)) by rw [hw0]; exact row_lit w _ _ 2 _ (by simp) (fun i hi => by unfold modelM; rcases (by omega : i = 0 ∨ i = 1) with rfl | rfl <;> rfl))
  have HB0 := Lib.hid (hb.call b0)
  have B0 := Lib.hid b0
  have W0 := Lib.hid hw0
  clear hw0 b0 hb
  go_enter Try.func47, Try.ntmps47
  go_wp2_with fail
  rw [← W0.out]
  refine (l1New_any _ _ _ _ HB0.out).mono ?_
  rintro e w1 ⟨g, rfl, c1, b1⟩
  have hg0 := c1.base
  have C1 := Lib.hid c1
  have B1 := Lib.hid b1
  clear c1 b1
  go_wp2_with fail
  refine (l7Model_any _ g _ C1.out).mono ?_
  rintro e w2 ⟨A1, n1, c1', A2, m1, c2', rfl, mf, b2⟩
  have MF := Lib.hid mf
  have B2 := Lib.hid (B1.out.trans b2)
  clear mf b2
  have r2 := R0.out.call B2.out
  have rc0 := r2.cell (i := 0) (by omega)
  have rc1 := r2.cell (i := 1) (by omega)
  have rf0 := r2.frozen 0
  have rf1 := r2.frozen 1
  have rlt := r2.lt
  have R2 := Lib.hid r2
  clear r2
  go_wp2_with fail
  have R3 := (row_setM (row_setM R2.out (.slice A1 n1 c1')).1 (.slice A2 m1 c2')).2
  obtain ⟨cm, hm, _, _⟩ := R2.out
  obtain ⟨D, P, E, Q, hO, hR⟩ := (MF.out.keep hm (grown_trans (setCell_grown w2 ⟨w.heap.size, 0, none⟩ (.slice A1 n1 c1')) (setCell_grown _ ⟨w.heap.size, 1, none⟩ (.slice A2 m1 c2')))).reads
  refine fin_draw (r := w.heap.size) (a := .slice A1 n1 c1') (b := .slice A2 m1 c2') rfl (R3.cell (i := 0) (by omega)) (R3.cell (i := 1) (by omega)) ?_
  have B3 := B0.out.trans (B2.out.mono (show w.heap.size ≤ w0.heap.size by omega))
  exact ⟨_, _, _, D, P, _, _, _, E, Q, rfl, hO, hR, (B3.setCell (by show w.heap.size ≤ w.heap.size; omega) _).setCell (by show w.heap.size ≤ w.heap.size; omega) _⟩
theorem law_Choices (w : World) (A0 : Option Addr) (len cap : Nat) (hb : Bytes w A0 len) :
    Calls Try.prog 12 #[.slice A0 len cap] w fun e w' => e = .returned (.bool true) ∧ Below w.heap.size w w' :=
  law_Choices_of w A0 len cap hb (fun W h => DrawChoicesOf_any W A0 len cap h)
end Go.Proofs.Ytkkhaamklbolmaa
