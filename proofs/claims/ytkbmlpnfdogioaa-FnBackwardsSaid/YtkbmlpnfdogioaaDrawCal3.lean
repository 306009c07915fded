/-
  Contracts of the functions that draw a calendar and two numbers.
-/
import Derived.Test.YtkbmlpnfdogioaaDrawCal2
namespace Go.Proofs.Ytkbmlpnfdogioaa
open Go.RowKit
set_option linter.unusedVariables false
set_option linter.unusedSimpArgs false

/-- a new calendar and two numbers -/
def NewCal2 (w : World) (e : Ending) (w' : World) : Prop :=
  ∃ A n c f A' m c' dy hr a b, e = .returned (.tuple #[.agg #[.slice A n c, .slice A' m c'], .int .i64 a, .int .i64 b]) ∧ CalF w' A n c f A' m c' dy hr ∧ (-9223372036854775808 ≤ a ∧ a ≤ 9223372036854775807) ∧ (-9223372036854775808 ≤ b ∧ b ≤ 9223372036854775807) ∧ (∀ b o, A = some ⟨b, o, none⟩ → w.heap.size ≤ b) ∧ (∀ b o, A' = some ⟨b, o, none⟩ → w.heap.size ≤ b) ∧ Below w.heap.size w w'
theorem CalF.grown {w w' : World} {A : Option Addr} {n c : Nat} {f : Nat → Int} {B : Option Addr} {m c2 : Nat} {dy hr : Nat → Int} {r : Nat} (h : CalF w A n c f B m c2 dy hr) (hg : w.grownBy w' (some r)) (h1 : ∀ b o, A = some ⟨b, o, none⟩ → b ≠ r) (h2 : ∀ b o, B = some ⟨b, o, none⟩ → b ≠ r) : CalF w' A n c f B m c2 dy hr :=
  ⟨h.week.grown hg h1, h.exc.grown hg h2, h.day, h.hour⟩
theorem CalF.far {w : World} {A : Option Addr} {n c : Nat} {f : Nat → Int} {B : Option Addr} {m c2 : Nat} {dy hr : Nat → Int} (h : CalF w A n c f B m c2 dy hr) {p : Addr} (h1 : ∀ b o, A = some ⟨b, o, none⟩ → b ≠ p.block) (h2 : ∀ b o, B = some ⟨b, o, none⟩ → b ≠ p.block) (v : Value) : CalF (w.setCell p v) A n c f B m c2 dy hr :=
  h.grown (r := p.block) ⟨rfl, rfl, rfl, by simp [World.setCell], fun i _ hne => Below.heap_setCell _ _ _ _ (by rintro rfl; exact hne rfl)⟩ h1 h2
theorem bytes_call {w W : World} {A : Option Addr} {len : Nat} (h : Bytes w A len) (hb : Below w.heap.size w W) : Bytes W A len :=
  ⟨h.1, fun j hj => by
    obtain ⟨b, o, x, e, hB, h0, h1, hc⟩ := h.2 j hj
    exact ⟨b, o, x, e, Nat.lt_of_lt_of_le hB hb.size, h0, h1, (hb.cell (p := ⟨b, o + j, none⟩) hB).trans hc⟩⟩
theorem fin_two {Post : Ending → World → Prop} {t : Array Value} {W : World} {r : Nat} {a b x y : Value} (ht : t[2]? = some (.pointer (some ⟨r, 0, none⟩))) (h3 : t[3]? = some x) (h4 : t[4]? = some y) (h0 : W.cell? ⟨r, 0, none⟩ = some a) (h1 : W.cell? ⟨r, 1, none⟩ = some b)
    (hP : Post (.returned (.tuple #[.agg #[a, b], x, y])) W) : bodyPost Try.prog Try.f43 Post Exit.ret { tmps := t, defers := [] } W :=
  bodyPost_ret (v := .tuple #[.agg #[a, b], x, y]) (by simp [results, Try.results43, go_sem, ht, h3, h4, h0, h1]) rfl hP
set_option maxHeartbeats 1000000 in
theorem l4Two_any (w : World) (A : Option Addr) (len cap : Nat) (hb : Bytes w A len) :
    Calls Try.prog 43 #[.slice A len cap] w (NewCal2 w) := by
  have HB := Lib.hid (bytes_call hb ((Below.refl _ _).alloc (Nat.le_refl _) (.cells #[.slice none 0 0, .slice none 0 0] 30)))
  clear hb
  go_enter Try.func43, Try.ntmps43
  go_wp2_with fail
  refine (l1New_any _ _ _ _ HB.out).mono ?_
  rintro e w1 ⟨g, rfl, d1, hb1⟩
  have hg := d1.base
  simp only [World.size_alloc] at hg
  have R1 := Lib.hid ((row_lit w #[.slice none 0 0, .slice none 0 0] 30 2 (fun _ => .slice none 0 0) (by simp) (fun i hi => by rcases (by omega : i = 0 ∨ i = 1) with rfl | rfl <;> rfl)).call hb1)
  have B1 := Lib.hid (((Below.refl w.heap.size w).alloc (Nat.le_refl _) (.cells #[.slice none 0 0, .slice none 0 0] 30)).trans (hb1.mono (by simp)))
  have rl := R1.out.lt
  clear hb1
  go_wp2_with fail
  refine (l4Calendar_any _ g _ d1).mono ?_
  rintro e w2 ⟨A2, n, c, f, A3, m, c', dy, hr, rfl, hC, hA, hA', d2, hg2⟩
  have C2 := Lib.hid hC
  have HA := Lib.hid hA
  have HA' := Lib.hid hA'
  have W2 := Lib.hid hg2
  clear hC hA hA' hg2
  go_wp2_with fail
  refine (l4Day_any _ g _ d2).mono ?_
  rintro e w3 ⟨v, rfl, ⟨a, rfl, ha0, ha1⟩, d3, hg3⟩
  have W3 := Lib.hid (grown_trans W2.out hg3)
  have C3 := Lib.hid (C2.out.grown hg3 (fun b o e => (HA.out b o e).2) (fun b o e => (HA'.out b o e).2))
  clear hg3
  go_wp2_with fail
  refine (l4Day_any _ g _ d3).mono ?_
  rintro e w4 ⟨v, rfl, ⟨b, rfl, hb0, hb1⟩, d4, hg4⟩
  have W4 := Lib.hid (grown_trans W3.out hg4)
  have C4 := Lib.hid (C3.out.grown hg4 (fun b o e => (HA.out b o e).2) (fun b o e => (HA'.out b o e).2))
  clear hg4
  have R4 := Lib.hid (R1.out.grown W4.out (by omega))
  have q0 := R4.out.frozen 0
  have q1 := R4.out.frozen 1
  have ql : w.heap.size < w4.heap.size := R4.out.lt
  have qc := R4.out.cell (i := 0) (by omega)
  have qd := R4.out.cell (i := 1) (by omega)
  go_wp2_with fail
  refine fin_two (r := w.heap.size) (a := .slice A2 n c) (b := .slice A3 m c') rfl rfl rfl ?_ ?_ ?_
  · refine (Row.cell ((Row.set R4.out 0 _).set 1 _) (i := 0) (by omega)).trans ?_; simp
  · refine (Row.cell ((Row.set R4.out 0 _).set 1 _) (i := 1) (by omega)).trans ?_; simp
  · refine ⟨A2, n, c, f, A3, m, c', dy, hr, a, b, rfl, ?_, ⟨ha0, ha1⟩, ⟨hb0, hb1⟩, fun b o e => by have := (HA.out b o e).1; omega, fun b o e => by have := (HA'.out b o e).1; omega, ?_⟩
    · exact CalF.far (CalF.far C4.out (p := ⟨w.heap.size, 0, none⟩) (fun b o e => by have := (HA.out b o e).1; show b ≠ w.heap.size; omega) (fun b o e => by have := (HA'.out b o e).1; show b ≠ w.heap.size; omega) _) (p := ⟨w.heap.size, 1, none⟩) (fun b o e => by have := (HA.out b o e).1; show b ≠ w.heap.size; omega) (fun b o e => by have := (HA'.out b o e).1; show b ≠ w.heap.size; omega) _
    · exact Below.setCell (Below.setCell (B1.out.trans (grown_below W4.out (by omega) (by omega))) (Nat.le_refl _) _) (Nat.le_refl _) _
end Go.Proofs.Ytkbmlpnfdogioaa
