/-
  Rows and slices of integers: how they read.
-/
import Derived.Test.YtkbmlpnfdogioaaDraw
import Derived.Deep.OwnRows
namespace Go.Proofs.Ytkbmlpnfdogioaa
open Go.RowKit
set_option linter.unusedVariables false
set_option linter.unusedSimpArgs false

/-- block g is a row whose first n cells are f 0, .., and none of whose cells is frozen -/
def Row (w : World) (g : Nat) (T : TypeId) (n : Nat) (f : Nat → Value) : Prop := ∃ cs : Array Value, w.heap[g]? = some (.cells cs T (0, 0)) ∧ n ≤ cs.size ∧ ∀ i, i < n → cs[i]? = some (f i)
section
variable {w w' : World} {g n : Nat} {T : TypeId} {f f' : Nat → Value}
theorem Row.lt (h : Row w g T n f) : g < w.heap.size := by
  obtain ⟨cs, h, _⟩ := h
  by_cases hl : g < w.heap.size
  · exact hl
  · rw [Array.getElem?_eq_none (by omega)] at h; cases h
theorem Row.cell (h : Row w g T n f) {i : Nat} (hi : i < n) : w.cell? ⟨g, i, none⟩ = some (f i) := by
  obtain ⟨cs, h, _, hc⟩ := h
  simp [World.cell?, h, hc i hi]
theorem Row.frozen (h : Row w g T n f) (i : Nat) : w.frozen? ⟨g, i, none⟩ = false := by
  obtain ⟨cs, h, _⟩ := h
  simp [World.frozen?, h]
theorem Row.keep (h : Row w g T n f) (hk : w'.heap[g]? = w.heap[g]?) : Row w' g T n f := by
  obtain ⟨cs, h, h1, h2⟩ := h
  exact ⟨cs, hk.trans h, h1, h2⟩
theorem Row.call (h : Row w g T n f) (hb : Below w.heap.size w w') : Row w' g T n f := h.keep (hb.block g h.lt)
theorem Row.grown {r : Nat} (h : Row w g T n f) (hg : w.grownBy w' (some r)) (hr : r ≠ g) : Row w' g T n f := h.keep (hg.block g h.lt (by simp; omega))
theorem Row.alloc (h : Row w g T n f) (o : Obj) : Row (w.alloc o) g T n f := h.call ((Below.refl _ _).alloc (Nat.le_refl _) _)
theorem Row.drew (h : Row w g T n f) : Row w.drew g T n f := h
theorem Row.drewN (h : Row w g T n f) (k : Nat) : Row (w.drewN k) g T n f := h
theorem Row.congr (h : Row w g T n f) (he : ∀ i, i < n → f i = f' i) : Row w g T n f' := by
  obtain ⟨cs, h, h1, h2⟩ := h
  exact ⟨cs, h, h1, fun i hi => (h2 i hi).trans (by rw [he i hi])⟩
theorem Row.short {m : Nat} (h : Row w g T n f) (hm : m ≤ n) : Row w g T m f := by
  obtain ⟨cs, h, h1, h2⟩ := h
  exact ⟨cs, h, by omega, fun i hi => h2 i (by omega)⟩
theorem Row.set (h : Row w g T n f) (i : Nat) (v : Value) : Row (w.setCell ⟨g, i, none⟩ v) g T n (fun j => if j = i then v else f j) := by
  obtain ⟨cs, h, h1, h2⟩ := h
  refine ⟨cs.setIfInBounds i v, by simp [World.setCell, Array.getElem?_modify, h], by simpa using h1, fun j hj => ?_⟩
  by_cases e : j = i
  · subst e
    have hl : j < cs.size := by omega
    simp [hl]
  · simp only [if_neg e]
    rw [Array.getElem?_setIfInBounds_ne (by omega)]; exact h2 j hj
theorem Row.far (h : Row w g T n f) {p : Addr} (hp : p.block ≠ g) (v : Value) : Row (w.setCell p v) g T n f := h.keep (Below.heap_setCell _ _ _ _ (by omega))
theorem row_made (w : World) (z : Value) (n : Nat) (T : TypeId) : Row (w.alloc (.cells (madeCells #[z] n) T)) w.heap.size T n (fun _ => z) :=
  ⟨_, heap_alloc_new _ _, by rw [size_madeCells]; exact Nat.le_refl _, fun i hi => by simp [madeCells, hi, Nat.mod_one]⟩
theorem row_own {base : Nat} {cap : Nat} {xs : List Value} (h : w.ownsRow base T 1 (.slice (some ⟨g, 0, none⟩) n cap) n xs) : Row w g T n (fun i => xs.getD i undef) ∧ base ≤ g := by
  obtain ⟨hl, h | ⟨g', c', cur, hv, hb, hh, hn, hc, hs, ht⟩⟩ := h
  · simp at h
  · simp at hv
    obtain ⟨rfl, rfl⟩ := hv
    refine ⟨⟨cur, hh, by omega, fun i hi => ?_⟩, hb⟩
    have hi' : i < xs.length := by omega
    have e : xs.getD i undef = xs[i] := by simp [hi']
    show cur[i]? = some (xs.getD i undef)
    rw [e]
    have h3 : cur.toList[i]? = some xs[i] := by
      have h4 : (cur.toList.take (n * 1))[i]? = some xs[i] := by rw [ht]; exact List.getElem?_eq_getElem hi'
      rw [List.getElem?_take] at h4
      rw [if_pos (by omega)] at h4
      exact h4
    simpa using h3
end

/-- a slice that reads as f 0, .., f (n-1) -/
structure IntsF (w : World) (A : Option Addr) (n cap : Nat) (f : Nat → Int) : Prop where
  max : cap ≤ 9223372036854775807
  le : n ≤ cap
  cell : ∀ j, j < n → ∃ b o, A = some ⟨b, o, none⟩ ∧ b < w.heap.size ∧ w.cell? ⟨b, o + j, none⟩ = some (.int .i64 (f j)) ∧ -9223372036854775808 ≤ f j ∧ f j ≤ 9223372036854775807
section
variable {w w' : World} {A : Option Addr} {n cap : Nat} {f f' : Nat → Int}
theorem IntsF.call (h : IntsF w A n cap f) (hb : Below w.heap.size w w') : IntsF w' A n cap f :=
  ⟨h.max, h.le, fun j hj => by
    obtain ⟨b, o, e, hB, hc, h1⟩ := h.cell j hj
    exact ⟨b, o, e, Nat.lt_of_lt_of_le hB hb.size, (hb.cell (p := ⟨b, o + j, none⟩) hB).trans hc, h1⟩⟩
theorem IntsF.grown {r : Nat} (h : IntsF w A n cap f) (hg : w.grownBy w' (some r)) (hr : ∀ b o, A = some ⟨b, o, none⟩ → b ≠ r) : IntsF w' A n cap f :=
  ⟨h.max, h.le, fun j hj => by
    obtain ⟨b, o, e, hB, hc, h1⟩ := h.cell j hj
    exact ⟨b, o, e, Nat.lt_of_lt_of_le hB hg.size, (grown_cell hg (p := ⟨b, o + j, none⟩) hB (hr b o e)).trans hc, h1⟩⟩
theorem IntsF.alloc (h : IntsF w A n cap f) (o : Obj) : IntsF (w.alloc o) A n cap f := h.call ((Below.refl _ _).alloc (Nat.le_refl _) _)
theorem IntsF.drew (h : IntsF w A n cap f) : IntsF w.drew A n cap f := h.call (Below.refl _ _).drew
theorem IntsF.drewN (h : IntsF w A n cap f) (k : Nat) : IntsF (w.drewN k) A n cap f := h.call ⟨rfl, rfl, rfl, Nat.le_refl _, fun _ _ => rfl⟩
theorem IntsF.far (h : IntsF w A n cap f) {p : Addr} (hr : ∀ b o, A = some ⟨b, o, none⟩ → b ≠ p.block) (v : Value) : IntsF (w.setCell p v) A n cap f :=
  ⟨h.max, h.le, fun j hj => by
    obtain ⟨b, o, e, hB, hc, h1⟩ := h.cell j hj
    exact ⟨b, o, e, by simpa [World.setCell] using hB, (World.cell?_setCell_other _ _ _ _ (by intro e'; exact hr b o e (by rw [e']))).trans hc, h1⟩⟩
theorem IntsF.congr (h : IntsF w A n cap f) (he : ∀ i, i < n → f i = f' i) : IntsF w A n cap f' :=
  ⟨h.max, h.le, fun j hj => by
    obtain ⟨b, o, e, hB, hc, h1⟩ := h.cell j hj
    rw [he j hj] at hc h1
    exact ⟨b, o, e, hB, hc, h1⟩⟩
theorem IntsF.short {m : Nat} (h : IntsF w A n cap f) (hm : m ≤ n) : IntsF w A m cap f := ⟨h.max, by have := h.le; omega, fun j hj => h.cell j (by omega)⟩
theorem IntsF.bounds (h : IntsF w A n cap f) {j : Nat} (hj : j < n) : -9223372036854775808 ≤ f j ∧ f j ≤ 9223372036854775807 := by
  obtain ⟨_, _, _, _, _, h1⟩ := h.cell j hj; exact h1
theorem IntsF.of_row {g : Nat} {T : TypeId} (h : Row w g T n (fun i => .int .i64 (f i))) (hc : cap ≤ 9223372036854775807) (hn : n ≤ cap) (hf : ∀ i, i < n → -9223372036854775808 ≤ f i ∧ f i ≤ 9223372036854775807) : IntsF w (some ⟨g, 0, none⟩) n cap f :=
  ⟨hc, hn, fun j hj => ⟨g, 0, rfl, h.lt, by rw [Nat.zero_add]; exact h.cell hj, hf j hj⟩⟩
theorem IntsF.empty (w : World) (A : Option Addr) (cap : Nat) (h : cap ≤ 9223372036854775807) (f : Nat → Int) : IntsF w A 0 cap f := ⟨h, Nat.zero_le _, fun j hj => absurd hj (by omega)⟩
end
theorem ints_open {w : World} {x : Addr} {len cap : Nat} {zs : List Int} (hl : len ≤ cap) (hm : cap ≤ 9223372036854775807) (hz : zs.length = cap) (hc : ∀ i, i < zs.length → w.cell? (x.add i) = some (.int .i64 (zs.getD i 0))) (hw : ∀ n ∈ zs, (Lit.int .i64 n).wf = true) : IntsF w (some x) len cap (fun i => zs.getD i 0) := by
  refine ⟨hm, hl, fun j hj => ?_⟩
  obtain ⟨b, o, s⟩ := x
  have h0 := hc j (by omega)
  have hs : s = none := by
    have h1 := hc 0 (by omega)
    simpa [Addr.add] using World.cell?_spot h1
  subst hs
  have h2 : w.cell? ⟨b, o + j, none⟩ = some (.int .i64 (zs.getD j 0)) := by rw [← h0, WideShapes.add_plain]
  have hj' : j < zs.length := by omega
  have h5 : (Lit.int .i64 (zs.getD j 0)).wf = true := by
    rw [List.getD_eq_getElem?_getD, List.getElem?_eq_getElem hj']; exact hw _ (List.getElem_mem _)
  have e1 : IntKind.i64.min = -9223372036854775808 := rfl
  have e2 : IntKind.i64.max = 9223372036854775807 := rfl
  have h6 : -9223372036854775808 ≤ zs.getD j 0 ∧ zs.getD j 0 ≤ 9223372036854775807 := by simpa [Lit.wf, e1, e2] using h5
  exact ⟨b, o, rfl, block_lt_of_cell h2, h2, h6⟩

theorem int_info : (Try.prog.info? 3).map (fun i => (i.zero, i.size, i.bytes)) = some (some (.int .i64 0), 1, 8) := by kernel_rfl

end Go.Proofs.Ytkbmlpnfdogioaa
