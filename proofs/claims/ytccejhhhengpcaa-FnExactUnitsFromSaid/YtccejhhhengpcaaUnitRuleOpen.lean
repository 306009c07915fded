/-
  A slice of UnitRules that came in, opened.
-/
import Derived.Test.YtccejhhhengpcaaUnitRule
import Derived.Deep.Slices
import Derived.ChangeArms
namespace Go.Proofs.Ytccejhhhengpcaa
open Go.RowKit Go.WideShapes Go.Deep
set_option linter.unusedVariables false

set_option maxRecDepth 100000 in
theorem unitRule_open {H : Type} {enc : TypeId × Value → H} {w : World} {base : Nat} {spare : Nat → Bool} {held : Bool} {fuel : Nat} {cs : List Value} {x : DataW H × List MemPlace}
    (h : DataW.trod enc Try.prog w base spare held fuel 22 cs = some x) :
    cs = [.slice none 0 0] ∨ ∃ (a : Addr) (len cap : Nat) (fr : Nat → ByteArray) (to : Nat → ByteArray) (nu : Nat → Int) (de : Nat → Int), cs = [.slice (some a) len cap] ∧ UnitRuleF w (some a) len cap fr to nu de := by
  rcases open_slice Try.underlying22 h with ⟨h0, _⟩ | ⟨a, len, cap, m, n, D, Pl, rfl, hb, hl, hm, hmm, rfl, hx⟩
  · exact Or.inl h0
  right
  have ce : Try.prog.cellsOf 56 = 4 := by kernel_rfl
  have c0 : Try.prog.cellsOf 9 = 1 := by kernel_rfl
  have c1 : Try.prog.cellsOf 54 = 2 := by kernel_rfl
  have c2 : Try.prog.cellsOf 3 = 1 := by kernel_rfl
  have hlm : len ≤ m := by rw [hmm]; split <;> omega
  have each : ∀ i, i < m → ∃ q : ByteArray × ByteArray × Int × Int, w.cell? (a.add (i * 4)) = some (.string q.1) ∧ w.cell? (a.add (i * 4 + 1)) = some (.string q.2.1) ∧ w.cell? (a.add (i * 4 + 2)) = some (.int .i64 q.2.2.1) ∧ w.cell? (a.add (i * 4 + 3)) = some (.int .i64 q.2.2.2) ∧ q.1.size ≤ maxLen ∧ q.2.1.size ≤ maxLen ∧ (Lit.int .i64 q.2.2.1).wf = true ∧ (Lit.int .i64 q.2.2.2).wf = true := by
    intro i hi
    obtain ⟨cs', h1, h2⟩ := hx i hi
    rw [ce] at h1
    obtain ⟨_, hlen, hcell⟩ := World.cells?_some h1
    obtain ⟨xs, k, hk, hxy, _, hxl, hf⟩ := DataW.trod_struct Try.underlying56 h2
    have hxl : xs.length = 3 := hxl
    match xs, hxl, cs', hlen with
    | [y0, y1, y2], _, [v0, v1, v2, v3], _ =>
      have g0 : DataW.trod enc Try.prog w base spare held k 9 [v0] = some y0 := by
        have t : DataW.trod enc Try.prog w base spare held k 9 (([v0, v1, v2, v3].drop 0).take (Try.prog.cellsOf 9)) = some y0 := hf 0 _ rfl
        rw [c0] at t; exact t
      have g1 : DataW.trod enc Try.prog w base spare held k 9 [v1] = some y1 := by
        have t : DataW.trod enc Try.prog w base spare held k 9 (([v0, v1, v2, v3].drop 1).take (Try.prog.cellsOf 9)) = some y1 := hf 1 _ rfl
        rw [c0] at t; exact t
      have g2 : DataW.trod enc Try.prog w base spare held k 54 [v2, v3] = some y2 := by
        have t : DataW.trod enc Try.prog w base spare held k 54 (([v0, v1, v2, v3].drop 2).take (Try.prog.cellsOf 54)) = some y2 := hf 2 _ rfl
        rw [c1] at t; exact t
      obtain ⟨xs2, k2, hk2, hxy2, _, hxl2, hf2⟩ := DataW.trod_struct Try.underlying54 g2
      have hxl2 : xs2.length = 2 := hxl2
      match xs2, hxl2 with
      | [y3, y4], _ =>
        have g3 : DataW.trod enc Try.prog w base spare held k2 3 [v2] = some y3 := by
          have t : DataW.trod enc Try.prog w base spare held k2 3 (([v2, v3].drop 0).take (Try.prog.cellsOf 3)) = some y3 := hf2 0 _ rfl
          rw [c2] at t; exact t
        have g4 : DataW.trod enc Try.prog w base spare held k2 3 [v3] = some y4 := by
          have t : DataW.trod enc Try.prog w base spare held k2 3 (([v2, v3].drop 1).take (Try.prog.cellsOf 3)) = some y4 := hf2 1 _ rfl
          rw [c2] at t; exact t
        obtain ⟨z0, e0, _, w0⟩ := DataW.trod_string Try.underlying9 g0
        obtain ⟨z1, e1, _, w1⟩ := DataW.trod_string Try.underlying9 g1
        obtain ⟨z2, e2, _, w2⟩ := DataW.trod_int Try.underlying3 g3
        obtain ⟨z3, e3, _, w3⟩ := DataW.trod_int Try.underlying3 g4
        have k0 := hcell 0 (by omega)
        have k1 := hcell 1 (by omega)
        have k2' := hcell 2 (by omega)
        have k3 := hcell 3 (by omega)
        rw [add_add] at k0 k1 k2' k3
        simp at e0 e1 e2 e3
        subst e0 e1 e2 e3
        exact ⟨(z0, z1, z2, z3), by simpa using k0, by simpa using k1, by simpa using k2', by simpa using k3, w0, w1, w2, w3⟩
  obtain ⟨q, hq⟩ := choose_lt each
  refine ⟨a, len, cap, fun i => (q i).1, fun i => (q i).2.1, fun i => (q i).2.2.1, fun i => (q i).2.2.2, rfl, ?_⟩
  obtain ⟨b, o, s⟩ := a
  have hs : 0 < len → s = none := fun h0 => by
    have h1 := (hq 0 (by omega)).1
    simpa [Addr.add] using World.cell?_spot h1
  have e1 : IntKind.i64.min = -9223372036854775808 := rfl
  have e2 : IntKind.i64.max = 9223372036854775807 := rfl
  refine ⟨⟨by unfold maxLen at hm; omega, hl, fun j hj => ?_⟩, fun i hi => by obtain ⟨hc0, hc1, hc2, hc3, hw0, hw1, hw2, hw3⟩ := hq i (by omega); simpa [Lit.wf, e1, e2] using hw2, fun i hi => by obtain ⟨hc0, hc1, hc2, hc3, hw0, hw1, hw2, hw3⟩ := hq i (by omega); simpa [Lit.wf, e1, e2] using hw3, fun i hi => by obtain ⟨hc0, hc1, hc2, hc3, hw0, hw1, hw2, hw3⟩ := hq i (by omega); unfold maxLen at hw0; omega, fun i hi => by obtain ⟨hc0, hc1, hc2, hc3, hw0, hw1, hw2, hw3⟩ := hq i (by omega); unfold maxLen at hw1; omega⟩
  · have hs' := hs (by omega)
    subst hs'
    obtain ⟨hc0, hc1, hc2, hc3, hw0, hw1, hw2, hw3⟩ := hq j (by omega)
    rw [add_plain] at hc0 hc1 hc2 hc3
    refine ⟨b, o, rfl, block_lt_of_cell hc0, fun q hq => ?_⟩
    rcases (by omega : q = 0 ∨ q = 1 ∨ q = 2 ∨ q = 3) with rfl | rfl | rfl | rfl
    · simpa [unitRuleC, Nat.add_assoc] using hc0
    · simpa [unitRuleC, Nat.add_assoc] using hc1
    · simpa [unitRuleC, Nat.add_assoc] using hc2
    · simpa [unitRuleC, Nat.add_assoc] using hc3
end Go.Proofs.Ytccejhhhengpcaa
