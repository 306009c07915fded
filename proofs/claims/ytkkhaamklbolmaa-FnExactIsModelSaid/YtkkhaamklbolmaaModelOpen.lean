/-
  A model that came in, opened.
-/
import Derived.Test.YtkkhaamklbolmaaModel2
import Derived.Test.YtkkhaamklbolmaaCondNodeOpen
import Derived.Deep.Slices
import Derived.Deep.Strs
import Derived.ChangeArms
namespace Go.Proofs.Ytkkhaamklbolmaa
open Go.RowKit Go.WideShapes Go.Deep
set_option linter.unusedVariables false

section
variable {H : Type} {enc : TypeId × Value → H} {w : World} {base : Nat} {spare : Nat → Bool} {held : Bool} {fuel : Nat} {v : Value} {x : DataW H × List MemPlace}
theorem strs_reads (h : DataW.trod enc Try.prog w base spare held fuel 29 [v] = some x) : ∃ q : Option Addr × Nat × Nat × (Nat → ByteArray), v = .slice q.1 q.2.1 q.2.2.1 ∧ StrsF w q.1 q.2.1 q.2.2.1 q.2.2.2 := by
  rcases Go.Deep.open_strs Try.underlying29 Try.underlying9 (by kernel_rfl) h with ⟨hcs, _⟩ | ⟨a, l, c, mm, Sx, hcs, _, hl, hm, hmm, _, hcell⟩
  · simp at hcs
    exact ⟨(none, 0, 0, fun _ => ByteArray.empty), hcs, StrsF.empty _ _ _ (by simp) _⟩
  · simp at hcs
    have k := strs_open (w := w) (x := a) (l := l) (c := c) hl (by unfold maxLen at hm; omega) (fun i (hi : i < l) => hcell i (by rw [hmm]; split <;> omega))
    exact ⟨(some a, l, c, _), hcs, k⟩
theorem conds_reads (h : DataW.trod enc Try.prog w base spare held fuel 22 [v] = some x) : ∃ q : Option Addr × Nat × Nat × (Nat → Int) × (Nat → ByteArray) × (Nat → ByteArray), v = .slice q.1 q.2.1 q.2.2.1 ∧ CondNodeF w q.1 q.2.1 q.2.2.1 q.2.2.2.1 q.2.2.2.2.1 q.2.2.2.2.2 := by
  rcases condNode_open h with hcs | ⟨a, l, c, g0, g1, g2, hcs, hk⟩
  · simp at hcs
    exact ⟨(none, 0, 0, default, default, default), hcs, CondNodeF.empty _ _ _ (by simp) _ _ _⟩
  · simp at hcs
    exact ⟨(some a, l, c, g0, g1, g2), hcs, hk⟩
set_option maxRecDepth 100000 in
theorem opts_open (h : DataW.trod enc Try.prog w base spare held fuel 57 [v] = some x) : ∃ A n c D P, v = .slice A n c ∧ OptsF w A n c D P := by
  rcases open_slice Try.underlying57 h with ⟨h0, _⟩ | ⟨a, len, cap, m, n, D, Pl, hcs, hb, hl, hm, hmm, _, hx⟩
  · simp at h0
    exact ⟨none, 0, 0, ⟨default, default, default⟩, ⟨default, default⟩, h0, ⟨SliceF.empty _ _ _ (by simp) _ _, fun i hi => absurd hi (by omega), fun i hi => absurd hi (by omega)⟩⟩
  have ce : Try.prog.cellsOf 126 = 2 := by kernel_rfl
  have c0 : Try.prog.cellsOf 9 = 1 := by kernel_rfl
  have c1 : Try.prog.cellsOf 29 = 1 := by kernel_rfl
  have hlm : len ≤ m := by rw [hmm]; split <;> omega
  have each : ∀ i, i < m → ∃ q : ByteArray × Option Addr × Nat × Nat × (Nat → ByteArray), w.cell? (a.add (i * 2)) = some (.string q.1) ∧ w.cell? (a.add (i * 2 + 1)) = some (.slice q.2.1 q.2.2.1 q.2.2.2.1) ∧ q.1.size ≤ maxLen ∧ StrsF w q.2.1 q.2.2.1 q.2.2.2.1 q.2.2.2.2 := by
    intro i hi
    obtain ⟨cs', h1, h2⟩ := hx i hi
    rw [ce] at h1
    obtain ⟨_, hlen, hcell⟩ := World.cells?_some h1
    obtain ⟨xs, k, hk, hxy, _, hxl, hf⟩ := DataW.trod_struct Try.underlying126 h2
    have hxl : xs.length = 2 := hxl
    match xs, hxl, cs', hlen with
    | [y0, y1], _, [v0, v1], _ =>
      have g0 : DataW.trod enc Try.prog w base spare held k 9 [v0] = some y0 := by
        have t : DataW.trod enc Try.prog w base spare held k 9 (([v0, v1].drop 0).take (Try.prog.cellsOf 9)) = some y0 := hf 0 _ rfl
        rw [c0] at t; exact t
      have g1 : DataW.trod enc Try.prog w base spare held k 29 [v1] = some y1 := by
        have t : DataW.trod enc Try.prog w base spare held k 29 (([v0, v1].drop 1).take (Try.prog.cellsOf 29)) = some y1 := hf 1 _ rfl
        rw [c1] at t; exact t
      obtain ⟨z0, e0, _, w0⟩ := DataW.trod_string Try.underlying9 g0
      have k0 := hcell 0 (by omega)
      obtain ⟨q, e1, w1⟩ := strs_reads g1
      have k1 := hcell 1 (by omega)
      rw [add_add] at k0 k1
      simp at e0
      subst e0 e1
      exact ⟨(z0, q), by simpa using k0, by simpa using k1, w0, w1⟩
  obtain ⟨q, hq⟩ := choose_lt each
  simp at hcs
  refine ⟨some a, len, cap, ⟨fun i => (q i).1, fun i => (q i).2.2.1, fun i => (q i).2.2.2.2⟩, ⟨fun i => (q i).2.1, fun i => (q i).2.2.2.1⟩, hcs, ?_⟩
  obtain ⟨b, o, s⟩ := a
  have hs : 0 < len → s = none := fun h0 => by
    have h1 := (hq 0 (by omega)).1
    simpa [Addr.add] using World.cell?_spot h1
  refine ⟨⟨by unfold maxLen at hm; omega, hl, fun j hj => ?_⟩, fun i hi => by have := (hq i (by omega)).2.2.1; unfold maxLen at this; exact this, fun i hi => (hq i (by omega)).2.2.2⟩
  have hs' := hs (by omega)
  subst hs'
  obtain ⟨hc0, hc1, _, _⟩ := hq j (by omega)
  rw [add_plain] at hc0 hc1
  refine ⟨b, o, rfl, block_lt_of_cell hc0, fun q hq => ?_⟩
  rcases (by omega : q = 0 ∨ q = 1) with rfl | rfl
  · simpa [optC, Nat.add_assoc] using hc0
  · simpa [optC, Nat.add_assoc] using hc1
set_option maxRecDepth 100000 in
theorem ruls_open (h : DataW.trod enc Try.prog w base spare held fuel 58 [v] = some x) : ∃ A n c D P, v = .slice A n c ∧ RulsF w A n c D P := by
  rcases open_slice1 Try.underlying58 (by kernel_rfl) h with ⟨h0, _⟩ | ⟨a, len, cap, m, n, V, D, Pl, hcs, hb, hl, hm, hmm, _, hx⟩
  · simp at h0
    exact ⟨none, 0, 0, ⟨default, default, default, default⟩, ⟨default, default⟩, h0, ⟨SliceF.empty _ _ _ (by simp) _ _, fun i hi => absurd hi (by omega)⟩⟩
  have hlm : len ≤ m := by rw [hmm]; split <;> omega
  obtain ⟨q, hq⟩ := choose_lt (fun i (hi : i < m) => conds_reads (hx i hi).2)
  simp at hcs
  refine ⟨some a, len, cap, ⟨fun i => (q i).2.1, fun i => (q i).2.2.2.1, fun i => (q i).2.2.2.2.1, fun i => (q i).2.2.2.2.2⟩, ⟨fun i => (q i).1, fun i => (q i).2.2.1⟩, hcs, ?_⟩
  obtain ⟨b, o, s⟩ := a
  have hs : 0 < len → s = none := fun h0 => by
    have h1 := (hx 0 (by omega)).1
    simpa [Addr.add] using World.cell?_spot h1
  refine ⟨⟨by unfold maxLen at hm; omega, hl, fun j hj => ?_⟩, fun i hi => (hq i (by omega)).2⟩
  have hs' := hs (by omega)
  subst hs'
  have hc0 := (hx j (by omega)).1
  rw [(hq j (by omega)).1, add_plain] at hc0
  refine ⟨b, o, rfl, block_lt_of_cell hc0, fun q hq => ?_⟩
  obtain rfl : q = 0 := by omega
  simpa [rulC] using hc0
end
end Go.Proofs.Ytkkhaamklbolmaa
