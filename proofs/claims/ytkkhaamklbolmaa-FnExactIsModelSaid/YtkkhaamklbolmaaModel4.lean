/-
  toModel. (Printed by gen/model4.py.)
-/
import Derived.Test.YtkkhaamklbolmaaModel3
namespace Go.Proofs.Ytkkhaamklbolmaa
open Go.RowKit
set_option linter.unusedVariables false
set_option linter.unusedSimpArgs false

theorem grown_cellSet (w : World) (p : Addr) (v : Value) : w.grownBy (w.setCell p v) (some p.block) := grown_setCell (World.grownBy.refl w (some p.block)) (.inl rfl) v
theorem OptsF.old {w : World} {g n cap B : Nat} {D : OptD} {P : Loc} (h : OptsF w (some ⟨g, 0, none⟩) n cap D P) (hB : B ≤ g) (hP : ∀ i, i < n → ∀ b u, P.A i = some ⟨b, u, none⟩ → B ≤ b) (p : Addr) (hp : p.block < B) (v : Value) : OptsF (w.setCell p v) (some ⟨g, 0, none⟩) n cap D P :=
  ⟨h.sl.own (grown_cellSet w p v) (fun b u e => by injection e with e; injection e with e1 _; intro e2; injection e2 with e2; omega), h.z, fun i hi => ⟨(h.vals i hi).sl.own (grown_cellSet w p v) (fun b u e => by have := hP i hi b u e; intro e2; injection e2 with e2; omega), (h.vals i hi).size⟩⟩
theorem RulsF.old {w : World} {g n cap B : Nat} {D : RulD} {P : Loc} (h : RulsF w (some ⟨g, 0, none⟩) n cap D P) (hB : B ≤ g) (hP : ∀ i, i < n → ∀ b u, P.A i = some ⟨b, u, none⟩ → B ≤ b) (p : Addr) (hp : p.block < B) (v : Value) : RulsF (w.setCell p v) (some ⟨g, 0, none⟩) n cap D P :=
  ⟨h.sl.own (grown_cellSet w p v) (fun b u e => by injection e with e; injection e with e1 _; intro e2; injection e2 with e2; omega), fun i hi => ⟨(h.conds i hi).sl.own (grown_cellSet w p v) (fun b u e => by have := hP i hi b u e; intro e2; injection e2 with e2; omega), (h.conds i hi).b_kd, (h.conds i hi).z_op, (h.conds i hi).z_vl⟩⟩
/-- a new model -/
def NewModel (w : World) (n : Nat) (D : OptD) (m : Nat) (E : RulD) (e : Ending) (w' : World) : Prop := ∃ g P g2 Q, e = .returned (.agg #[.slice (some ⟨g, 0, none⟩) n n, .slice (some ⟨g2, 0, none⟩) m m]) ∧ OptsF w' (some ⟨g, 0, none⟩) n n D P ∧ RulsF w' (some ⟨g2, 0, none⟩) m m E Q ∧ Below w.heap.size w w'
set_option maxHeartbeats 2000000 in
theorem toModel_any (w : World) (A : Option Addr) (n c : Nat) (D : OptD) (P : Loc) (A2 : Option Addr) (m c2 : Nat) (E : RulD) (Q : Loc) (h : OptsF w A n c D P) (h2 : RulsF w A2 m c2 E Q) (hn : n ≤ 1048576) (hv : ∀ i, i < n → D.n i ≤ 1048576) (hm : m ≤ 1048576) (hv2 : ∀ i, i < m → E.n i ≤ 1048576) :
    Calls Try.prog 44 #[.agg #[.slice A n c, .slice A2 m c2]] w (NewModel w n D m E) := by
  have H := Lib.hid h
  have H2 := Lib.hid h2
  have HV := Lib.hid hv
  have HV2 := Lib.hid hv2
  clear h h2 hv hv2
  go_enter Try.func44, Try.ntmps44
  go_wp2_with fail
  refine (toOptionS_any _ A n c D P (H.out.call (by repeat' (first | (with_reducible exact Below.refl _ _) | assumption | (with_reducible refine below_then (by assumption) ?_ ?_) | (with_reducible refine Below.alloc ?_ ?_ _) | (with_reducible refine below_drewN ?_ _) | (with_reducible refine Below.drew ?_) | (with_reducible refine Below.setCell ?_ ?_ _) | omega | (simp; done) | (simp; omega)))) hn HV.out).mono ?_; rintro e w1 ⟨P1, rfl, ho, hP1, hb1⟩
  simp only [World.size_alloc] at ho hP1
  have O1 := Lib.hid ho
  have OP := Lib.hid hP1
  clear ho hP1
  have hz_w1 : w.heap.size + 3 ≤ w1.heap.size := by have := hb1.size; first | omega | (simp at this; omega)
  have l_w1_0 : w.heap.size < w1.heap.size := by omega
  have c_w1_0_0 : w1.cell? ⟨w.heap.size, 0, none⟩ = some (.slice A n c) := by rw [hb1.cell (p := ⟨w.heap.size, 0, none⟩) (by go_size)]; first | assumption | (simp [go_sem]; done) | (simp [go_sem, *]; done)
  have f_w1_0_0 : w1.frozen? ⟨w.heap.size, 0, none⟩ = false := by rw [hb1.frozen (p := ⟨w.heap.size, 0, none⟩) (by go_size)]; first | assumption | (simp [go_sem]; done) | (simp [go_sem, *]; done)
  have c_w1_0_1 : w1.cell? ⟨w.heap.size, 1, none⟩ = some (.slice A2 m c2) := by rw [hb1.cell (p := ⟨w.heap.size, 1, none⟩) (by go_size)]; first | assumption | (simp [go_sem]; done) | (simp [go_sem, *]; done)
  have f_w1_0_1 : w1.frozen? ⟨w.heap.size, 1, none⟩ = false := by rw [hb1.frozen (p := ⟨w.heap.size, 1, none⟩) (by go_size)]; first | assumption | (simp [go_sem]; done) | (simp [go_sem, *]; done)
  have l_w1_1 : w.heap.size + 1 < w1.heap.size := by omega
  have c_w1_1_0 : w1.cell? ⟨w.heap.size + 1, 0, none⟩ = some (.slice none 0 0) := by rw [hb1.cell (p := ⟨w.heap.size + 1, 0, none⟩) (by go_size)]; first | assumption | (simp [go_sem]; done) | (simp [go_sem, *]; done)
  have f_w1_1_0 : w1.frozen? ⟨w.heap.size + 1, 0, none⟩ = false := by rw [hb1.frozen (p := ⟨w.heap.size + 1, 0, none⟩) (by go_size)]; first | assumption | (simp [go_sem]; done) | (simp [go_sem, *]; done)
  have c_w1_1_1 : w1.cell? ⟨w.heap.size + 1, 1, none⟩ = some (.slice none 0 0) := by rw [hb1.cell (p := ⟨w.heap.size + 1, 1, none⟩) (by go_size)]; first | assumption | (simp [go_sem]; done) | (simp [go_sem, *]; done)
  have f_w1_1_1 : w1.frozen? ⟨w.heap.size + 1, 1, none⟩ = false := by rw [hb1.frozen (p := ⟨w.heap.size + 1, 1, none⟩) (by go_size)]; first | assumption | (simp [go_sem]; done) | (simp [go_sem, *]; done)
  have l_w1_2 : w.heap.size + 1 + 1 < w1.heap.size := by omega
  have c_w1_2_0 : w1.cell? ⟨w.heap.size + 1 + 1, 0, none⟩ = some (.slice none 0 0) := by rw [hb1.cell (p := ⟨w.heap.size + 1 + 1, 0, none⟩) (by go_size)]; first | assumption | (simp [go_sem]; done) | (simp [go_sem, *]; done)
  have f_w1_2_0 : w1.frozen? ⟨w.heap.size + 1 + 1, 0, none⟩ = false := by rw [hb1.frozen (p := ⟨w.heap.size + 1 + 1, 0, none⟩) (by go_size)]; first | assumption | (simp [go_sem]; done) | (simp [go_sem, *]; done)
  have c_w1_2_1 : w1.cell? ⟨w.heap.size + 1 + 1, 1, none⟩ = some (.slice none 0 0) := by rw [hb1.cell (p := ⟨w.heap.size + 1 + 1, 1, none⟩) (by go_size)]; first | assumption | (simp [go_sem]; done) | (simp [go_sem, *]; done)
  have f_w1_2_1 : w1.frozen? ⟨w.heap.size + 1 + 1, 1, none⟩ = false := by rw [hb1.frozen (p := ⟨w.heap.size + 1 + 1, 1, none⟩) (by go_size)]; first | assumption | (simp [go_sem]; done) | (simp [go_sem, *]; done)
  have B1 := Lib.hid (show Below w.heap.size w w1 from by repeat' (first | (with_reducible exact Below.refl _ _) | assumption | (with_reducible refine below_then (by assumption) ?_ ?_) | (with_reducible refine Below.alloc ?_ ?_ _) | (with_reducible refine below_drewN ?_ _) | (with_reducible refine Below.drew ?_) | (with_reducible refine Below.setCell ?_ ?_ _) | omega | (simp; done) | (simp; omega)))
  go_wp2_with fail
  obtain ⟨Y, hY⟩ : ∃ Y, Y = w1.setCell ⟨w.heap.size + 1 + 1, 0, none⟩ (.slice (some ⟨w.heap.size + 1 + 1 + 1, 0, none⟩) n n) := ⟨_, rfl⟩
  have BY := Lib.hid (show Below w.heap.size w Y by rw [hY]; exact B1.out.setCell (by show w.heap.size ≤ w.heap.size + 1 + 1; omega) _)
  have OY := Lib.hid (show OptsF Y (some ⟨w.heap.size + 1 + 1 + 1, 0, none⟩) n n D P1 by rw [hY]; exact O1.out.old (B := w.heap.size + 1 + 1 + 1) (Nat.le_refl _) OP.out ⟨w.heap.size + 1 + 1, 0, none⟩ (by show w.heap.size + 1 + 1 < _; omega) _)
  have sY : Y.heap.size = w1.heap.size := by rw [hY]; simp
  have y10 : Y.cell? ⟨w.heap.size + 1, 0, none⟩ = some (.slice none 0 0) := by rw [hY]; first | (simp [go_sem, *]; done) | (rw [World.cell?_setCell_ne]; assumption)
  have y11 : Y.cell? ⟨w.heap.size + 1, 1, none⟩ = some (.slice none 0 0) := by rw [hY]; first | (simp [go_sem, *]; done) | skip
  have y20 : Y.cell? ⟨w.heap.size + 1 + 1, 0, none⟩ = some (.slice (some ⟨w.heap.size + 1 + 1 + 1, 0, none⟩) n n) := by rw [hY]; first | (simp [go_sem, *]; done) | skip
  have y21 : Y.cell? ⟨w.heap.size + 1 + 1, 1, none⟩ = some (.slice none 0 0) := by rw [hY]; first | (simp [go_sem, *]; done) | skip
  have q10 : Y.frozen? ⟨w.heap.size + 1, 0, none⟩ = false := by rw [hY]; first | (simp [go_sem, *]; done) | skip
  have q11 : Y.frozen? ⟨w.heap.size + 1, 1, none⟩ = false := by rw [hY]; first | (simp [go_sem, *]; done) | skip
  have q20 : Y.frozen? ⟨w.heap.size + 1 + 1, 0, none⟩ = false := by rw [hY]; first | (simp [go_sem, *]; done) | skip
  have q21 : Y.frozen? ⟨w.heap.size + 1 + 1, 1, none⟩ = false := by rw [hY]; first | (simp [go_sem, *]; done) | skip
  rw [← hY]
  clear hY
  refine (toCondNodeSS_any Y A2 m c2 E Q (H2.out.call BY.out) hm HV2.out).mono ?_; rintro e w2 ⟨Q1, rfl, hr, hQ1, hb2⟩
  have O2 := Lib.hid (OY.out.call hb2)
  have R2 := Lib.hid hr
  have RQ := Lib.hid hQ1
  have B2 := Lib.hid (BY.out.trans (hb2.mono BY.out.size))
  have lY : w.heap.size + 3 ≤ Y.heap.size := by omega
  have l2 := hb2.size
  have r10 : w2.cell? ⟨w.heap.size + 1, 0, none⟩ = some (.slice none 0 0) := (hb2.cell (p := ⟨w.heap.size + 1, 0, none⟩) (by show w.heap.size + 1 < _; omega)).trans y10
  have r11 : w2.cell? ⟨w.heap.size + 1, 1, none⟩ = some (.slice none 0 0) := (hb2.cell (p := ⟨w.heap.size + 1, 1, none⟩) (by show w.heap.size + 1 < _; omega)).trans y11
  have r20 : w2.cell? ⟨w.heap.size + 1 + 1, 0, none⟩ = some (.slice (some ⟨w.heap.size + 1 + 1 + 1, 0, none⟩) n n) := (hb2.cell (p := ⟨w.heap.size + 1 + 1, 0, none⟩) (by show w.heap.size + 1 + 1 < _; omega)).trans y20
  have r21 : w2.cell? ⟨w.heap.size + 1 + 1, 1, none⟩ = some (.slice none 0 0) := (hb2.cell (p := ⟨w.heap.size + 1 + 1, 1, none⟩) (by show w.heap.size + 1 + 1 < _; omega)).trans y21
  have p10 := (hb2.frozen (p := ⟨w.heap.size + 1, 0, none⟩) (by show w.heap.size + 1 < _; omega)).trans q10
  have p11 := (hb2.frozen (p := ⟨w.heap.size + 1, 1, none⟩) (by show w.heap.size + 1 < _; omega)).trans q11
  have p20 := (hb2.frozen (p := ⟨w.heap.size + 1 + 1, 0, none⟩) (by show w.heap.size + 1 + 1 < _; omega)).trans q20
  have p21 := (hb2.frozen (p := ⟨w.heap.size + 1 + 1, 1, none⟩) (by show w.heap.size + 1 + 1 < _; omega)).trans q21
  have FO := Lib.hid (fun (W : World) (h : OptsF W (some ⟨w.heap.size + 1 + 1 + 1, 0, none⟩) n n D P1) (p : Addr) (hp : p.block < w.heap.size + 1 + 1 + 1) (v : Value) => h.old (Nat.le_refl _) OP.out p hp v)
  have FR := Lib.hid (fun (W : World) (h : RulsF W (some ⟨Y.heap.size, 0, none⟩) m m E Q1) (p : Addr) (hp : p.block < w.heap.size + 1 + 1 + 1) (v : Value) => h.old (Nat.le_refl _) RQ.out p (by omega) v)
  have m1 : w.heap.size + 1 < w2.heap.size := by omega
  rw [sY] at FR R2
  have m2 : w.heap.size + 1 + 1 < w2.heap.size := by omega
  clear hr hQ1 hb2 y10 y11 y20 y21 q10 q11 q20 q21
  go_wp2_with fail
  refine bodyPost_ret (by simp [results, Try.results44, go_sem, r10, r11, r20, r21, p10, p11, p20, p21, m1, m2]; try rfl) rfl ?_
  refine ⟨_, P1, _, Q1, rfl, ?_, ?_, by have h := B2.out; repeat' (first | (with_reducible exact Below.refl _ _) | assumption | (with_reducible refine below_then (by assumption) ?_ ?_) | (with_reducible refine Below.alloc ?_ ?_ _) | (with_reducible refine below_drewN ?_ _) | (with_reducible refine Below.drew ?_) | (with_reducible refine Below.setCell ?_ ?_ _) | omega | (simp; done) | (simp; omega))⟩
  · have h := O2.out
    repeat' (first | (with_reducible assumption) | refine FO.out _ ?_ _ ?_ _ | (show _ < _; simp; done) | (show _ < _; omega) | (simp; omega))
  · have h := R2.out
    repeat' (first | (with_reducible assumption) | refine FR.out _ ?_ _ ?_ _ | (show _ < _; simp; done) | (show _ < _; omega) | (simp; omega))

end Go.Proofs.Ytkkhaamklbolmaa
