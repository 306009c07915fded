/-
  Worlds, rows of cells, slices and how they read, slices of the call's own that grow by append: no program in sight.
-/
import Derived.Test.YtkkhaamklbolmaaKept
import Derived.WalkKit
import Derived.Handy
import Derived.Lib.Hide
import Derived.Deep.AppendLies
import Derived.OpenShut
import Derived.WideShapes
import Derived.Laws.Rows
import Derived.Deep.OwnRows
import Derived.Maps.AppendAt
import Derived.OwnWalk
import Derived.Deep.RegionLaw
namespace Go.Proofs.Ytkkhaamklbolmaa
open Go.RowKit
set_option linter.unusedVariables false
set_option linter.unusedSimpArgs false

/-- only block g has turned, and new blocks have come -/
theorem grown_trans {a b c : World} {g : Nat} (h : a.grownBy b (some g)) (k : b.grownBy c (some g)) : a.grownBy c (some g) :=
  ⟨k.os.trans h.os, k.tape.trans h.tape, k.output.trans h.output, Nat.le_trans h.size k.size, fun i hi hn => (k.block i (Nat.lt_of_lt_of_le hi h.size) hn).trans (h.block i hi hn)⟩
theorem grown_call {a b c : World} {g : Nat} (h : a.grownBy b (some g)) (k : Below b.heap.size b c) : a.grownBy c (some g) :=
  ⟨k.os.trans h.os, k.tape.trans h.tape, k.output.trans h.output, Nat.le_trans h.size k.size, fun i hi hn => (k.block i (Nat.lt_of_lt_of_le hi h.size)).trans (h.block i hi hn)⟩
theorem grown_alloc {a b : World} {g : Nat} (h : a.grownBy b (some g)) (o : Obj) : a.grownBy (b.alloc o) (some g) := grown_call h ((Below.refl _ _).alloc (Nat.le_refl _) _)
theorem grown_drew {a b : World} {g : Nat} (h : a.grownBy b (some g)) : a.grownBy b.drew (some g) := grown_call h (Below.refl _ _).drew
theorem grown_drewN {a b : World} {g : Nat} (h : a.grownBy b (some g)) (n : Nat) : a.grownBy (b.drewN n) (some g) := grown_call h ⟨rfl, rfl, rfl, Nat.le_refl _, fun _ _ => rfl⟩
theorem grown_setCell {a b : World} {g : Nat} (h : a.grownBy b (some g)) {p : Addr} (hp : p.block = g ∨ a.heap.size ≤ p.block) (v : Value) : a.grownBy (b.setCell p v) (some g) :=
  ⟨h.os, h.tape, h.output, by have := h.size; simpa [World.setCell] using this, fun i hi hn => by
    rw [Below.heap_setCell b p v i (by rintro rfl; rcases hp with hp | hp; exact hn (by rw [hp]); omega)]
    exact h.block i hi hn⟩
theorem grown_below {a b : World} {g B : Nat} (h : a.grownBy b (some g)) (hB : B ≤ g) (hz : B ≤ a.heap.size) : Below B a b :=
  ⟨h.os, h.tape, h.output, h.size, fun i hi => h.block i (by omega) (by simp; omega)⟩
theorem grown_cell {a b : World} {g : Nat} (h : a.grownBy b (some g)) {p : Addr} (hl : p.block < a.heap.size) (hn : p.block ≠ g) : b.cell? p = a.cell? p :=
  World.cell?_of_block (h.block _ hl (by simp; omega))
theorem grown_frozen {a b : World} {g : Nat} (h : a.grownBy b (some g)) {p : Addr} (hl : p.block < a.heap.size) (hn : p.block ≠ g) : b.frozen? p = a.frozen? p :=
  World.frozen?_of_block (h.block _ hl (by simp; omega))
theorem Kept.grown {F : List (Addr × Value)} {w X Y : World} {g : Nat} (hg : X.grownBy Y (some g)) (h0 : w.heap.size ≤ g) (hp : ∀ f ∈ F, f.1.block ≠ g) (h : Kept w F X) : Kept w F Y :=
  h.move hg.size (fun f hf => grown_cell hg (h.lt f hf) (hp f hf)) (grown_below hg h0 h.below.size)


/-- block g is a row whose first n cells are f 0, .., and none of whose cells is frozen -/
def Row (w : World) (g : Nat) (T : TypeId) (n : Nat) (f : Nat → Value) : Prop := ∃ cs : Array Value, w.heap[g]? = some (.cells cs T (0, 0)) ∧ n ≤ cs.size ∧ ∀ i, i < n → cs[i]? = some (f i)
section
variable {w w' : World} {g n : Nat} {T : TypeId} {f f' : Nat → Value}
theorem Row.lt (h : Row w g T n f) : g < w.heap.size := by
  obtain ⟨cs, h, _⟩ := h
  by_cases hl : g < w.heap.size
  · exact hl
  · rw [Array.getElem?_eq_none (by omega)] at h; cases h
theorem Row.cell (h : Row w g T n f) {i : Nat} (hi : i < n) : w.cell? ⟨g, i, none⟩ = some (f i) := by
  obtain ⟨cs, h, _, hc⟩ := h
  simp [World.cell?, h, hc i hi]
theorem Row.frozen (h : Row w g T n f) (i : Nat) : w.frozen? ⟨g, i, none⟩ = false := by
  obtain ⟨cs, h, _⟩ := h
  simp [World.frozen?, h]
theorem Row.keep (h : Row w g T n f) (hk : w'.heap[g]? = w.heap[g]?) : Row w' g T n f := by
  obtain ⟨cs, h, h1, h2⟩ := h
  exact ⟨cs, hk.trans h, h1, h2⟩
theorem Row.call (h : Row w g T n f) (hb : Below w.heap.size w w') : Row w' g T n f := h.keep (hb.block g h.lt)
theorem Row.grown {r : Nat} (h : Row w g T n f) (hg : w.grownBy w' (some r)) (hr : r ≠ g) : Row w' g T n f := h.keep (hg.block g h.lt (by simp; omega))
theorem Row.alloc (h : Row w g T n f) (o : Obj) : Row (w.alloc o) g T n f := h.call ((Below.refl _ _).alloc (Nat.le_refl _) _)
theorem Row.drew (h : Row w g T n f) : Row w.drew g T n f := h
theorem Row.drewN (h : Row w g T n f) (k : Nat) : Row (w.drewN k) g T n f := h
theorem Row.congr (h : Row w g T n f) (he : ∀ i, i < n → f i = f' i) : Row w g T n f' := by
  obtain ⟨cs, h, h1, h2⟩ := h
  exact ⟨cs, h, h1, fun i hi => (h2 i hi).trans (by rw [he i hi])⟩
theorem Row.short {m : Nat} (h : Row w g T n f) (hm : m ≤ n) : Row w g T m f := by
  obtain ⟨cs, h, h1, h2⟩ := h
  exact ⟨cs, h, by omega, fun i hi => h2 i (by omega)⟩
theorem Row.set (h : Row w g T n f) (i : Nat) (v : Value) : Row (w.setCell ⟨g, i, none⟩ v) g T n (fun j => if j = i then v else f j) := by
  obtain ⟨cs, h, h1, h2⟩ := h
  refine ⟨cs.setIfInBounds i v, by simp [World.setCell, Array.getElem?_modify, h], by simpa using h1, fun j hj => ?_⟩
  by_cases e : j = i
  · subst e
    have hl : j < cs.size := by omega
    simp [hl]
  · simp only [if_neg e]
    rw [Array.getElem?_setIfInBounds_ne (by omega)]; exact h2 j hj
theorem Row.far (h : Row w g T n f) {p : Addr} (hp : p.block ≠ g) (v : Value) : Row (w.setCell p v) g T n f := h.keep (Below.heap_setCell _ _ _ _ (by omega))
theorem row_made (w : World) (z : Value) (n : Nat) (T : TypeId) : Row (w.alloc (.cells (madeCells #[z] n) T)) w.heap.size T n (fun _ => z) :=
  ⟨_, heap_alloc_new _ _, by rw [size_madeCells]; exact Nat.le_refl _, fun i hi => by simp [madeCells, hi, Nat.mod_one]⟩
theorem row_own {base : Nat} {cap : Nat} {xs : List Value} (h : w.ownsRow base T 1 (.slice (some ⟨g, 0, none⟩) n cap) n xs) : Row w g T n (fun i => xs.getD i undef) ∧ base ≤ g := by
  obtain ⟨hl, h | ⟨g', c', cur, hv, hb, hh, hn, hc, hs, ht⟩⟩ := h
  · simp at h
  · simp at hv
    obtain ⟨rfl, rfl⟩ := hv
    refine ⟨⟨cur, hh, by omega, fun i hi => ?_⟩, hb⟩
    have hi' : i < xs.length := by omega
    have e : xs.getD i undef = xs[i] := by simp [hi']
    show cur[i]? = some (xs.getD i undef)
    rw [e]
    have h3 : cur.toList[i]? = some xs[i] := by
      have h4 : (cur.toList.take (n * 1))[i]? = some xs[i] := by rw [ht]; exact List.getElem?_eq_getElem hi'
      rw [List.getElem?_take] at h4
      rw [if_pos (by omega)] at h4
      exact h4
    simpa using h3
end

/-- a slice that reads as f 0, .., f (n-1) -/
structure IntsF (w : World) (A : Option Addr) (n cap : Nat) (f : Nat → Int) : Prop where
  max : cap ≤ 9223372036854775807
  le : n ≤ cap
  cell : ∀ j, j < n → ∃ b o, A = some ⟨b, o, none⟩ ∧ b < w.heap.size ∧ w.cell? ⟨b, o + j, none⟩ = some (.int .i64 (f j)) ∧ -9223372036854775808 ≤ f j ∧ f j ≤ 9223372036854775807
section
variable {w w' : World} {A : Option Addr} {n cap : Nat} {f f' : Nat → Int}
theorem IntsF.call (h : IntsF w A n cap f) (hb : Below w.heap.size w w') : IntsF w' A n cap f :=
  ⟨h.max, h.le, fun j hj => by
    obtain ⟨b, o, e, hB, hc, h1⟩ := h.cell j hj
    exact ⟨b, o, e, Nat.lt_of_lt_of_le hB hb.size, (hb.cell (p := ⟨b, o + j, none⟩) hB).trans hc, h1⟩⟩
theorem IntsF.grown {r : Nat} (h : IntsF w A n cap f) (hg : w.grownBy w' (some r)) (hr : ∀ b o, A = some ⟨b, o, none⟩ → b ≠ r) : IntsF w' A n cap f :=
  ⟨h.max, h.le, fun j hj => by
    obtain ⟨b, o, e, hB, hc, h1⟩ := h.cell j hj
    exact ⟨b, o, e, Nat.lt_of_lt_of_le hB hg.size, (grown_cell hg (p := ⟨b, o + j, none⟩) hB (hr b o e)).trans hc, h1⟩⟩
theorem IntsF.alloc (h : IntsF w A n cap f) (o : Obj) : IntsF (w.alloc o) A n cap f := h.call ((Below.refl _ _).alloc (Nat.le_refl _) _)
theorem IntsF.drew (h : IntsF w A n cap f) : IntsF w.drew A n cap f := h.call (Below.refl _ _).drew
theorem IntsF.drewN (h : IntsF w A n cap f) (k : Nat) : IntsF (w.drewN k) A n cap f := h.call ⟨rfl, rfl, rfl, Nat.le_refl _, fun _ _ => rfl⟩
theorem IntsF.far (h : IntsF w A n cap f) {p : Addr} (hr : ∀ b o, A = some ⟨b, o, none⟩ → b ≠ p.block) (v : Value) : IntsF (w.setCell p v) A n cap f :=
  ⟨h.max, h.le, fun j hj => by
    obtain ⟨b, o, e, hB, hc, h1⟩ := h.cell j hj
    exact ⟨b, o, e, by simpa [World.setCell] using hB, (World.cell?_setCell_other _ _ _ _ (by intro e'; exact hr b o e (by rw [e']))).trans hc, h1⟩⟩
theorem IntsF.congr (h : IntsF w A n cap f) (he : ∀ i, i < n → f i = f' i) : IntsF w A n cap f' :=
  ⟨h.max, h.le, fun j hj => by
    obtain ⟨b, o, e, hB, hc, h1⟩ := h.cell j hj
    rw [he j hj] at hc h1
    exact ⟨b, o, e, hB, hc, h1⟩⟩
theorem IntsF.short {m : Nat} (h : IntsF w A n cap f) (hm : m ≤ n) : IntsF w A m cap f := ⟨h.max, by have := h.le; omega, fun j hj => h.cell j (by omega)⟩
theorem IntsF.bounds (h : IntsF w A n cap f) {j : Nat} (hj : j < n) : -9223372036854775808 ≤ f j ∧ f j ≤ 9223372036854775807 := by
  obtain ⟨_, _, _, _, _, h1⟩ := h.cell j hj; exact h1
theorem IntsF.of_row {g : Nat} {T : TypeId} (h : Row w g T n (fun i => .int .i64 (f i))) (hc : cap ≤ 9223372036854775807) (hn : n ≤ cap) (hf : ∀ i, i < n → -9223372036854775808 ≤ f i ∧ f i ≤ 9223372036854775807) : IntsF w (some ⟨g, 0, none⟩) n cap f :=
  ⟨hc, hn, fun j hj => ⟨g, 0, rfl, h.lt, by rw [Nat.zero_add]; exact h.cell hj, hf j hj⟩⟩
theorem IntsF.empty (w : World) (A : Option Addr) (cap : Nat) (h : cap ≤ 9223372036854775807) (f : Nat → Int) : IntsF w A 0 cap f := ⟨h, Nat.zero_le _, fun j hj => absurd hj (by omega)⟩
end
theorem ints_open {w : World} {x : Addr} {len cap : Nat} {zs : List Int} (hl : len ≤ cap) (hm : cap ≤ 9223372036854775807) (hz : zs.length = cap) (hc : ∀ i, i < zs.length → w.cell? (x.add i) = some (.int .i64 (zs.getD i 0))) (hw : ∀ n ∈ zs, (Lit.int .i64 n).wf = true) : IntsF w (some x) len cap (fun i => zs.getD i 0) := by
  refine ⟨hm, hl, fun j hj => ?_⟩
  obtain ⟨b, o, s⟩ := x
  have h0 := hc j (by omega)
  have hs : s = none := by
    have h1 := hc 0 (by omega)
    simpa [Addr.add] using World.cell?_spot h1
  subst hs
  have h2 : w.cell? ⟨b, o + j, none⟩ = some (.int .i64 (zs.getD j 0)) := by rw [← h0, WideShapes.add_plain]
  have hj' : j < zs.length := by omega
  have h5 : (Lit.int .i64 (zs.getD j 0)).wf = true := by
    rw [List.getD_eq_getElem?_getD, List.getElem?_eq_getElem hj']; exact hw _ (List.getElem_mem _)
  have e1 : IntKind.i64.min = -9223372036854775808 := rfl
  have e2 : IntKind.i64.max = 9223372036854775807 := rfl
  have h6 : -9223372036854775808 ≤ zs.getD j 0 ∧ zs.getD j 0 ≤ 9223372036854775807 := by simpa [Lit.wf, e1, e2] using h5
  exact ⟨b, o, rfl, block_lt_of_cell h2, h2, h6⟩



/-- element j's cell q holds F j q -/
structure SliceF (w : World) (A : Option Addr) (n cap s : Nat) (F : Nat → Nat → Value) : Prop where
  max : cap ≤ 9223372036854775807
  le : n ≤ cap
  cell : ∀ j, j < n → ∃ b o, A = some ⟨b, o, none⟩ ∧ b < w.heap.size ∧ ∀ q, q < s → w.cell? ⟨b, o + j * s + q, none⟩ = some (F j q)
section
variable {w w' : World} {A : Option Addr} {n cap s : Nat} {F F' : Nat → Nat → Value}
theorem SliceF.call (h : SliceF w A n cap s F) (hb : Below w.heap.size w w') : SliceF w' A n cap s F :=
  ⟨h.max, h.le, fun j hj => by
    obtain ⟨b, o, e, hB, hc⟩ := h.cell j hj
    exact ⟨b, o, e, Nat.lt_of_lt_of_le hB hb.size, fun q hq => (hb.cell (p := ⟨b, o + j * s + q, none⟩) hB).trans (hc q hq)⟩⟩
theorem SliceF.grown {r : Nat} (h : SliceF w A n cap s F) (hg : w.grownBy w' (some r)) (hr : ∀ b o, A = some ⟨b, o, none⟩ → b ≠ r) : SliceF w' A n cap s F :=
  ⟨h.max, h.le, fun j hj => by
    obtain ⟨b, o, e, hB, hc⟩ := h.cell j hj
    exact ⟨b, o, e, Nat.lt_of_lt_of_le hB hg.size, fun q hq => (grown_cell hg (p := ⟨b, o + j * s + q, none⟩) hB (hr b o e)).trans (hc q hq)⟩⟩
theorem SliceF.alloc (h : SliceF w A n cap s F) (o : Obj) : SliceF (w.alloc o) A n cap s F := h.call ((Below.refl _ _).alloc (Nat.le_refl _) _)
theorem SliceF.drewN (h : SliceF w A n cap s F) (k : Nat) : SliceF (w.drewN k) A n cap s F := h.call ⟨rfl, rfl, rfl, Nat.le_refl _, fun _ _ => rfl⟩
theorem SliceF.congr (h : SliceF w A n cap s F) (he : ∀ j q, j < n → q < s → F j q = F' j q) : SliceF w A n cap s F' :=
  ⟨h.max, h.le, fun j hj => by
    obtain ⟨b, o, e, hB, hc⟩ := h.cell j hj
    exact ⟨b, o, e, hB, fun q hq => (hc q hq).trans (by rw [he j q hj hq])⟩⟩
theorem SliceF.empty (w : World) (A : Option Addr) (cap : Nat) (h : cap ≤ 9223372036854775807) (s : Nat) (F : Nat → Nat → Value) : SliceF w A 0 cap s F := ⟨h, Nat.zero_le _, fun j hj => absurd hj (by omega)⟩
theorem SliceF.short {m : Nat} (h : SliceF w A n cap s F) (hm : m ≤ n) : SliceF w A m cap s F := ⟨h.max, by have := h.le; omega, fun j hj => h.cell j (by omega)⟩
theorem SliceF.of_row {g : Nat} {T : TypeId} {f : Nat → Value} (h : Row w g T (n * s) f) (hc : cap ≤ 9223372036854775807) (hn : n ≤ cap) (he : ∀ j q, j < n → q < s → f (j * s + q) = F j q) : SliceF w (some ⟨g, 0, none⟩) n cap s F :=
  ⟨hc, hn, fun j hj => ⟨g, 0, rfl, h.lt, fun q hq => by
    have h1 : j * s + q < n * s := by
      have : (j + 1) * s ≤ n * s := Nat.mul_le_mul_right _ hj
      rw [Nat.add_mul, Nat.one_mul] at this
      omega
    rw [Nat.zero_add, ← he j q hj hq]; exact h.cell h1⟩⟩
end

/-- the cells of n elements of s cells -/
def flat (s : Nat) (F : Nat → Nat → Value) (n : Nat) : List Value := (List.range (n * s)).map (fun i => F (i / s) (i % s))
theorem flat_length (s : Nat) (F : Nat → Nat → Value) (n : Nat) : (flat s F n).length = n * s := by simp [flat]
theorem flat_get {s : Nat} {F : Nat → Nat → Value} {n i : Nat} (h : i < n * s) : (flat s F n)[i]? = some (F (i / s) (i % s)) := by
  simp [flat, h]
theorem flat_at {s : Nat} {F : Nat → Nat → Value} {n j q : Nat} (hj : j < n) (hq : q < s) : (flat s F n)[j * s + q]? = some (F j q) := by
  have h1 : j * s + q < n * s := by
    have : (j + 1) * s ≤ n * s := Nat.mul_le_mul_right _ hj
    rw [Nat.add_mul, Nat.one_mul] at this
    omega
  have h2 : (j * s + q) / s = j := by rw [Nat.add_comm, Nat.add_mul_div_right _ _ (by omega), Nat.div_eq_of_lt hq]; omega
  have h3 : (j * s + q) % s = q := by rw [Nat.add_comm, Nat.add_mul_mod_self_right, Nat.mod_eq_of_lt hq]
  rw [flat_get h1, h2, h3]
theorem flat_congr {s : Nat} {F F' : Nat → Nat → Value} {n : Nat} (h : ∀ j q, j < n → q < s → F j q = F' j q) : flat s F n = flat s F' n := by
  unfold flat
  refine List.map_congr_left (fun i hi => ?_)
  have hi := List.mem_range.1 hi
  have hs : 0 < s := by
    rcases Nat.eq_zero_or_pos s with h | h
    · subst h; omega
    · exact h
  exact h _ _ (by rw [Nat.div_lt_iff_lt_mul hs]; exact hi) (Nat.mod_lt _ hs)
theorem flat_add {s : Nat} {F G : Nat → Nat → Value} {n m : Nat} (h : ∀ j q, j < m → q < s → F (n + j) q = G j q) : flat s F n ++ flat s G m = flat s F (n + m) := by
  apply List.ext_getElem?
  intro i
  rcases Nat.eq_zero_or_pos s with hs | hs
  · subst hs; simp [flat]
  by_cases h1 : i < n * s
  · rw [List.getElem?_append_left (by rw [flat_length]; exact h1), flat_get h1, flat_get (by rw [Nat.add_mul]; omega)]
  · rw [List.getElem?_append_right (by rw [flat_length]; omega), flat_length]
    by_cases h2 : i < (n + m) * s
    · rw [Nat.add_mul] at h2
      rw [flat_get (by omega), flat_get (by rw [Nat.add_mul]; omega)]
      have e : i = (i - n * s) + n * s := by omega
      have e1 : i / s = n + (i - n * s) / s := by
        conv => lhs; rw [e, Nat.add_mul_div_right _ _ hs]
        omega
      have e2 : i % s = (i - n * s) % s := by
        conv => lhs; rw [e, Nat.add_mul_mod_self_right]
      rw [e1, e2, h _ _ (by rw [Nat.div_lt_iff_lt_mul hs]; omega) (Nat.mod_lt _ hs)]
    · rw [List.getElem?_eq_none (by rw [flat_length]; rw [Nat.add_mul] at h2; omega), List.getElem?_eq_none (by rw [flat_length]; omega)]

theorem row_lit (w : World) (xs : Array Value) (T : TypeId) (n : Nat) (f : Nat → Value) (hn : n ≤ xs.size) (he : ∀ i, i < n → xs[i]? = some (f i)) : Row (w.alloc (.cells xs T)) w.heap.size T n f :=
  ⟨xs, heap_alloc_new w _, hn, he⟩
/-- v is a slice of n elements of s cells, F 0, .., the call's own from block B on (or nil) -/
structure OwnV (B : Nat) (w : World) (T : TypeId) (s : Nat) (v : Value) (n : Nat) (F : Nat → Nat → Value) : Prop where
  own : w.ownsRow B T s v n (flat s F n)
section
variable {B s n : Nat} {T : TypeId} {v : Value} {w w' : World} {F F' : Nat → Nat → Value}
theorem OwnV.lt (h : OwnV B w T s v n F) {k : Nat} (hk : v.ownBlock = some k) : B ≤ k ∧ k < w.heap.size := h.own.lt k hk
theorem OwnV.grown {r : Option Nat} (h : OwnV B w T s v n F) (hg : w.grownBy w' r) (hr : v.ownBlock = none ∨ v.ownBlock ≠ r) : OwnV B w' T s v n F := ⟨h.own.kept hg hr⟩
theorem OwnV.call (h : OwnV B w T s v n F) (hb : Below w.heap.size w w') : OwnV B w' T s v n F :=
  h.grown (r := none) ⟨hb.os, hb.tape, hb.output, hb.size, fun i hi _ => hb.block i hi⟩ (by cases v.ownBlock <;> simp)
theorem OwnV.alloc (h : OwnV B w T s v n F) (o : Obj) : OwnV B (w.alloc o) T s v n F := h.call ((Below.refl _ _).alloc (Nat.le_refl _) _)
theorem OwnV.drewN (h : OwnV B w T s v n F) (k : Nat) : OwnV B (w.drewN k) T s v n F := h.call ⟨rfl, rfl, rfl, Nat.le_refl _, fun _ _ => rfl⟩
theorem OwnV.congr (h : OwnV B w T s v n F) (he : ∀ j q, j < n → q < s → F j q = F' j q) : OwnV B w T s v n F' := ⟨flat_congr he ▸ h.own⟩
theorem OwnV.nil (B : Nat) (w : World) (T : TypeId) (s : Nat) (F : Nat → Nat → Value) : OwnV B w T s (.slice none 0 0) 0 F :=
  ⟨by rw [show flat s F 0 = [] by simp [flat]]; exact World.ownsRow_nil w B T s⟩
theorem OwnV.lit (w : World) {B : Nat} (hB : B ≤ w.heap.size) (T : TypeId) (s n : Nat) (xs : Array Value) (F : Nat → Nat → Value) (hx : xs.toList = flat s F n) (hn : n ≤ 1000000000) :
    OwnV B (w.alloc (.cells xs T)) T s (.slice (some ⟨w.heap.size, 0, none⟩) n n) n F := by
  have hz : xs.size = n * s := by rw [← Array.length_toList, hx, flat_length]
  exact ⟨flat_length _ _ _, .inr ⟨w.heap.size, n, xs, rfl, hB, heap_alloc_new w _, Nat.le_refl _, by unfold maxLen; omega, hz, by rw [List.take_of_length_le (by rw [Array.length_toList, hz]; exact Nat.le_refl _), hx]⟩⟩
/-- how it reads -/
theorem OwnV.slice (h : OwnV B w T s v n F) : ∃ A cap, v = .slice A n cap ∧ SliceF w A n cap s F ∧ (∀ b o, A = some ⟨b, o, none⟩ → o = 0 ∧ v.ownBlock = some b) := by
  obtain ⟨hl, ⟨hv, h0⟩ | ⟨g, cap, cur, hv, hb, hh, hn, hc, hs, ht⟩⟩ := h.own
  · subst h0
    exact ⟨none, 0, hv, SliceF.empty _ _ _ (by omega) _ _, fun b o e => by cases e⟩
  · refine ⟨_, cap, hv, ⟨by unfold maxLen at hc; omega, hn, fun j hj => ⟨g, 0, rfl, (Array.getElem?_eq_some_iff.1 hh).1, fun q hq => ?_⟩⟩, fun b o e => by injection e with e; injection e with e1 e2 _; subst e1; subst e2; exact ⟨rfl, by rw [hv]; rfl⟩⟩
    have h1 : j * s + q < n * s := by
      have : (j + 1) * s ≤ n * s := Nat.mul_le_mul_right _ hj
      rw [Nat.add_mul, Nat.one_mul] at this
      omega
    have h2 := flat_at (F := F) hj hq
    rw [← ht, List.getElem?_take, if_pos h1, Array.getElem?_toList] at h2
    simp [World.cell?, hh, h2]
theorem OwnV.set (h : OwnV B w T s v n F) {g j q : Nat} (hg : v.ownBlock = some g) (hj : j < n) (hq : q < s) (u : Value) : OwnV B (w.setCell ⟨g, j * s + q, none⟩ u) T s v n (fun a b => if a = j ∧ b = q then u else F a b) := by
  obtain ⟨hl, ⟨hv, h0⟩ | ⟨g', cap, cur, hv, hb, hh, hn, hc, hs, ht⟩⟩ := h.own
  · omega
  · subst hv
    simp [Value.ownBlock] at hg
    subst hg
    have h1 : j * s + q < n * s := by
      have : (j + 1) * s ≤ n * s := Nat.mul_le_mul_right _ hj
      rw [Nat.add_mul, Nat.one_mul] at this
      omega
    have hz : n * s ≤ cap * s := Nat.mul_le_mul_right _ hn
    refine ⟨flat_length _ _ _, .inr ⟨g', cap, cur.setIfInBounds (j * s + q) u, rfl, hb, by simp [World.setCell, Array.getElem?_modify, hh], hn, hc, by simpa using hs, ?_⟩⟩
    apply List.ext_getElem?
    intro i
    by_cases hi : i < n * s
    · have hd := flat_get (F := F) hi
      rw [← ht, List.getElem?_take, if_pos hi] at hd
      rw [flat_get hi, List.getElem?_take, if_pos hi]
      have hs0 : 0 < s := by omega
      by_cases e : i = j * s + q
      · subst e
        have h2 : (j * s + q) / s = j := by rw [Nat.add_comm, Nat.add_mul_div_right _ _ (by omega), Nat.div_eq_of_lt hq]; omega
        have h3 : (j * s + q) % s = q := by rw [Nat.add_comm, Nat.add_mul_mod_self_right, Nat.mod_eq_of_lt hq]
        rw [if_pos ⟨h2, h3⟩, Array.getElem?_toList, Array.getElem?_setIfInBounds_self_of_lt (by omega)]
      · have e2 : ¬ (i / s = j ∧ i % s = q) := by
          rintro ⟨rfl, rfl⟩
          exact e (by rw [Nat.mul_comm]; exact (Nat.div_add_mod i s).symm)
        rw [if_neg e2]
        simp only [Array.getElem?_toList] at hd ⊢
        rw [Array.getElem?_setIfInBounds_ne (by omega)]
        exact hd
    · rw [List.getElem?_take, if_neg hi, List.getElem?_eq_none (by rw [flat_length]; omega)]
theorem OwnV.far (h : OwnV B w T s v n F) {p : Addr} (hp : v.ownBlock ≠ some p.block) (u : Value) : OwnV B (w.setCell p u) T s v n F :=
  h.grown (r := some p.block) ⟨rfl, rfl, rfl, by simp [World.setCell], fun i _ hne => Below.heap_setCell _ _ _ _ (by rintro rfl; exact hne rfl)⟩ (.inr hp)
theorem OwnV.base {B' : Nat} (h : OwnV B w T s v n F) (hB : B' ≤ B) : OwnV B' w T s v n F := by
  obtain ⟨hl, h' | ⟨g', cap, cur, hv, hb, rest⟩⟩ := h.own
  · exact ⟨hl, .inl h'⟩
  · exact ⟨hl, .inr ⟨g', cap, cur, hv, by omega, rest⟩⟩
theorem OwnV.frozen (h : OwnV B w T s v n F) {g : Nat} (hg : v.ownBlock = some g) (i : Nat) : w.frozen? ⟨g, i, none⟩ = false := by
  obtain ⟨hl, ⟨hv, h0⟩ | ⟨g', cap, cur, hv, hb, hh, hn, hc, hs, ht⟩⟩ := h.own
  · subst hv; simp [Value.ownBlock] at hg
  · subst hv
    simp [Value.ownBlock] at hg
    subst hg
    simp [World.frozen?, hh]
theorem OwnV.cell (h : OwnV B w T s v n F) {g : Nat} (hg : v.ownBlock = some g) {j q : Nat} (hj : j < n) (hq : q < s) : w.cell? ⟨g, j * s + q, none⟩ = some (F j q) := by
  obtain ⟨A, cap, hv, hS, hA⟩ := h.slice
  obtain ⟨b, o, e, hB, hc⟩ := hS.cell j hj
  obtain ⟨rfl, hb⟩ := hA b o e
  rw [hg] at hb
  injection hb with hb
  subst hb
  have := hc q hq
  rwa [Nat.zero_add] at this
/-- a row of integers reads as a slice of integers -/
theorem OwnV.ints {f : Nat → Int} (h : OwnV B w T 1 v n (fun j _ => .int .i64 (f j))) (hf : ∀ i, i < n → -9223372036854775808 ≤ f i ∧ f i ≤ 9223372036854775807) : ∃ A cap, v = .slice A n cap ∧ IntsF w A n cap f ∧ (∀ b o, A = some ⟨b, o, none⟩ → v.ownBlock = some b) := by
  obtain ⟨A, cap, hv, hS, hA⟩ := h.slice
  refine ⟨A, cap, hv, ⟨hS.max, hS.le, fun j hj => ?_⟩, fun b o e => (hA b o e).2⟩
  obtain ⟨b, o, e, hB, hc⟩ := hS.cell j hj
  have := hc 0 (by omega)
  simp only [Nat.mul_one, Nat.add_zero] at this
  exact ⟨b, o, e, hB, this, (hf j hj).1, (hf j hj).2⟩
/-- append(v, x..) of m elements that lie at ad -/
theorem wp_appM {P : Program} (w : World) {K : Act → World → Prop} {o : Oper} {a : Act} {Q : Exit → Act → World → Prop} (x y : Operand) (t : TypeId)
    (ho : o.op = .call { callee := .builtin .append, args := #[x, y], argTypes := #[t, t] })
    {B : Nat} {T : TypeId} {i : TypeInfo} {z : Value} {s bytes : Nat} (ht : P.underlying t = some (.slice T)) (hi : P.info? T = some i) (hz : i.zero = some z)
    (hsize : i.size = s) (hby : i.bytes = bytes) (hzs : z.cells.size = s) (hs0 : 0 < s) {v : Value} {n : Nat} {F : Nat → Nat → Value}
    (hv : a.eval x = v) (hown : OwnV B w T s v n F) (hB : B ≤ w.heap.size) (ad : Addr) (m c : Nat) (hx : a.eval y = .slice (some ad) m c)
    (hc : ∀ j q, j < m → q < s → w.cell? (ad.add (j * s + q)) = some (F (n + j) q)) (h1 : ∀ j q, j < m → q < s → (F (n + j) q).oneCell' = true)
    (hn : n + m ≤ 1000000000) (hb : bytes ≤ 64)
    (h : ∀ v' w', OwnV B w' T s v' (n + m) F → w.grownBy w' v.ownBlock → (v'.ownBlock = v.ownBlock ∨ v'.ownBlock = some w.heap.size) → K (a.put o.dst v') w') : o.wp P a w K Q := by
  have hf : ∀ i u, (flat s (fun j q => F (n + j) q) m)[i]? = some u → i / s < m ∧ i % s < s ∧ u = F (n + i / s) (i % s) ∧ i = i / s * s + i % s := by
    intro i u hu
    have hlt : i < m * s := by
      by_cases hh : i < m * s
      · exact hh
      · rw [List.getElem?_eq_none (by rw [flat_length]; omega)] at hu; cases hu
    rw [flat_get hlt] at hu
    injection hu with hu
    exact ⟨by rw [Nat.div_lt_iff_lt_mul hs0]; exact hlt, Nat.mod_lt _ hs0, hu.symm, by rw [Nat.mul_comm]; exact (Nat.div_add_mod i s).symm⟩
  obtain ⟨v', w', hr, h2, h3, h4, h5⟩ := run_append_own_at (P := P) w B t o.type T i z s bytes ht hi hz hsize hby hzs hs0 v n _ hown.own ad m c (flat s (fun j q => F (n + j) q) m) (flat_length _ _ _) (by
    intro i u hu
    obtain ⟨h1, h2, rfl, h3⟩ := hf i u hu
    have e := hc _ _ h1 h2
    rwa [show i / s * s + i % s = i from h3.symm] at e) (by
    intro u hu
    obtain ⟨i, hi⟩ := List.mem_iff_getElem?.1 hu
    obtain ⟨h1', h2, rfl, h3⟩ := hf i u hi
    exact h1 _ _ h1' h2) (by unfold maxLen; omega) (by
    have : (n + m) * bytes ≤ (n + m) * 64 := Nat.mul_le_mul_left _ hb
    omega) hB
  rw [flat_add (fun j q _ _ => rfl)] at h2
  unfold Oper.wp execOp
  simp only [ho, resolve, invoke, builtin, Sem.run_bind, Sem.run_pure, Result.andThen_ok, List.map_toArray, List.map_cons, List.map_nil, hv, hx, hr]
  exact h v' w' ⟨h2⟩ h3 h5
/-- append(v, x) of one element, whose cells have just been laid: in world W, which is w and that block (draws do not matter) -/
theorem wp_appS {P : Program} (w : World) {K : Act → World → Prop} {o : Oper} {a : Act} {Q : Exit → Act → World → Prop} (x y : Operand) (t : TypeId)
    (ho : o.op = .call { callee := .builtin .append, args := #[x, y], argTypes := #[t, t] })
    {B : Nat} {T : TypeId} {i : TypeInfo} {z : Value} {s bytes : Nat} (ht : P.underlying t = some (.slice T)) (hi : P.info? T = some i) (hz : i.zero = some z)
    (hsize : i.size = s) (hby : i.bytes = bytes) (hzs : z.cells.size = s) (hs0 : 0 < s) {v : Value} {n : Nat} {F : Nat → Nat → Value} {xs : Array Value}
    (hv : a.eval x = v) (hown : OwnV B w T s v n F) (hB : B ≤ w.heap.size) {W : World} (hW : W.heap = (w.alloc (.cells xs T)).heap ∧ W.os = w.os ∧ W.tape = w.tape ∧ W.output = w.output) (hx : a.eval y = .slice (some ⟨w.heap.size, 0, none⟩) 1 1)
    (hc : ∀ q, q < s → xs[q]? = some (F n q)) (h1 : ∀ q, q < s → (F n q).oneCell' = true)
    (hn : n + 1 ≤ 1000000000) (hb : bytes ≤ 64)
    (h : ∀ v' w', OwnV B w' T s v' (n + 1) F → w.grownBy w' v.ownBlock → (v'.ownBlock = v.ownBlock ∨ ∃ k, v'.ownBlock = some k ∧ w.heap.size ≤ k) → K (a.put o.dst v') w') : o.wp P a W K Q := by
  have hb0 : Below w.heap.size w W := ⟨hW.2.1, hW.2.2.1, hW.2.2.2, by rw [hW.1]; simp, fun k hk => by rw [hW.1]; exact heap_alloc_old w _ hk⟩
  refine wp_appM W x y t ho ht hi hz hsize hby hzs hs0 hv (hown.call hb0) (by rw [hW.1]; simp; omega) ⟨w.heap.size, 0, none⟩ 1 1 hx (fun j q hj hq => ?_) (fun j q hj hq => ?_) hn hb (fun v' w' h1 h2 h3 => ?_)
  · obtain rfl : j = 0 := by omega
    rw [WideShapes.add_plain]
    have e : W.cell? ⟨w.heap.size, 0 + (0 * s + q), none⟩ = (w.alloc (.cells xs T)).cell? ⟨w.heap.size, 0 + (0 * s + q), none⟩ := World.cell?_of_block (by rw [hW.1])
    rw [e]
    simp [World.cell?_alloc_new, hc q hq]
  · obtain rfl : j = 0 := by omega
    exact h1 q hq
  · have hgr : w.grownBy w' v.ownBlock := ⟨h2.os.trans hb0.os, h2.tape.trans hb0.tape, h2.output.trans hb0.output, Nat.le_trans hb0.size h2.size, fun k hk hne => (h2.block k (Nat.lt_of_lt_of_le hk hb0.size) hne).trans (hb0.block k hk)⟩
    refine h v' w' h1 hgr ?_
    rcases h3 with h3 | h3
    · exact .inl h3
    · exact .inr ⟨_, h3, hb0.size⟩
/-- in a walk -/
theorem appM {P : Program} (w : World) {ops : Array Oper} {rest : List Oper} {o : Oper} {a : Act} {Q : Exit → Act → World → Prop} (hgd : o.guard = none) (x y : Operand) (t : TypeId)
    (ho : o.op = .call { callee := .builtin .append, args := #[x, y], argTypes := #[t, t] })
    {B : Nat} {T : TypeId} {i : TypeInfo} {z : Value} {s bytes : Nat} (ht : P.underlying t = some (.slice T)) (hi : P.info? T = some i) (hz : i.zero = some z)
    (hsize : i.size = s) (hby : i.bytes = bytes) (hzs : z.cells.size = s) (hs0 : 0 < s) {v : Value} {n : Nat} {F : Nat → Nat → Value}
    (hv : a.eval x = v) (hown : OwnV B w T s v n F) (hB : B ≤ w.heap.size) (ad : Addr) (m c : Nat) (hx : a.eval y = .slice (some ad) m c)
    (hc : ∀ j q, j < m → q < s → w.cell? (ad.add (j * s + q)) = some (F (n + j) q)) (h1 : ∀ j q, j < m → q < s → (F (n + j) q).oneCell' = true)
    (hn : n + m ≤ 1000000000) (hb : bytes ≤ 64)
    (h : ∀ v' w', OwnV B w' T s v' (n + m) F → w.grownBy w' v.ownBlock → (v'.ownBlock = v.ownBlock ∨ v'.ownBlock = some w.heap.size) → wpList P ops Q rest (a.put o.dst v') w') : wpList P ops Q (o :: rest) a w :=
  wpList_plain hgd fun _ hK => wp_appM w x y t ho ht hi hz hsize hby hzs hs0 hv hown hB ad m c hx hc h1 hn hb fun v' w' a1 a2 a3 => hK _ _ (h v' w' a1 a2 a3)
theorem appS {P : Program} (w : World) {ops : Array Oper} {rest : List Oper} {o : Oper} {a : Act} {Q : Exit → Act → World → Prop} (hgd : o.guard = none) (x y : Operand) (t : TypeId)
    (ho : o.op = .call { callee := .builtin .append, args := #[x, y], argTypes := #[t, t] })
    {B : Nat} {T : TypeId} {i : TypeInfo} {z : Value} {s bytes : Nat} (ht : P.underlying t = some (.slice T)) (hi : P.info? T = some i) (hz : i.zero = some z)
    (hsize : i.size = s) (hby : i.bytes = bytes) (hzs : z.cells.size = s) (hs0 : 0 < s) {v : Value} {n : Nat} {F : Nat → Nat → Value} {xs : Array Value}
    (hv : a.eval x = v) (hown : OwnV B w T s v n F) (hB : B ≤ w.heap.size) (hx : a.eval y = .slice (some ⟨w.heap.size, 0, none⟩) 1 1)
    (hc : ∀ q, q < s → xs[q]? = some (F n q)) (h1 : ∀ q, q < s → (F n q).oneCell' = true)
    (hn : n + 1 ≤ 1000000000) (hb : bytes ≤ 64)
    (h : ∀ v' w', OwnV B w' T s v' (n + 1) F → w.grownBy w' v.ownBlock → (v'.ownBlock = v.ownBlock ∨ ∃ k, v'.ownBlock = some k ∧ w.heap.size ≤ k) → wpList P ops Q rest (a.put o.dst v') w') : wpList P ops Q (o :: rest) a (w.alloc (.cells xs T)) :=
  wpList_plain hgd fun _ hK => wp_appS w x y t ho ht hi hz hsize hby hzs hs0 hv hown hB ⟨rfl, rfl, rfl, rfl⟩ hx hc h1 hn hb fun v' w' a1 a2 a3 => hK _ _ (h v' w' a1 a2 a3)
/-- in a region that draws -/
theorem step_appM {P : Program} (w : World) {K : Act → World → Prop} {E : Prop} {ops : Array Oper} {o : Oper} {a : Act} {Q : Exit → Act → World → Prop} (hgd : o.guard = none) (x y : Operand) (t : TypeId)
    (ho : o.op = .call { callee := .builtin .append, args := #[x, y], argTypes := #[t, t] })
    {B : Nat} {T : TypeId} {i : TypeInfo} {z : Value} {s bytes : Nat} (ht : P.underlying t = some (.slice T)) (hi : P.info? T = some i) (hz : i.zero = some z)
    (hsize : i.size = s) (hby : i.bytes = bytes) (hzs : z.cells.size = s) (hs0 : 0 < s) {v : Value} {n : Nat} {F : Nat → Nat → Value}
    (hv : a.eval x = v) (hown : OwnV B w T s v n F) (hB : B ≤ w.heap.size) (ad : Addr) (m c : Nat) (hx : a.eval y = .slice (some ad) m c)
    (hc : ∀ j q, j < m → q < s → w.cell? (ad.add (j * s + q)) = some (F (n + j) q)) (h1 : ∀ j q, j < m → q < s → (F (n + j) q).oneCell' = true)
    (hn : n + m ≤ 1000000000) (hb : bytes ≤ 64)
    (h : ∀ v' w', OwnV B w' T s v' (n + m) F → w.grownBy w' v.ownBlock → (v'.ownBlock = v.ownBlock ∨ v'.ownBlock = some w.heap.size) → K (a.put o.dst v') w') : if Region.wanted o (yielded ops a.tmps) = true then Oper.wp P o a w K Q else E := by
  have hw : Region.wanted o (yielded ops a.tmps) = true := by simp [Region.wanted, hgd]
  rw [if_pos hw]
  exact wp_appM w x y t ho ht hi hz hsize hby hzs hs0 hv hown hB ad m c hx hc h1 hn hb h
theorem step_appS {P : Program} (w : World) {K : Act → World → Prop} {E : Prop} {ops : Array Oper} {o : Oper} {a : Act} {Q : Exit → Act → World → Prop} (hgd : o.guard = none) (x y : Operand) (t : TypeId)
    (ho : o.op = .call { callee := .builtin .append, args := #[x, y], argTypes := #[t, t] })
    {B : Nat} {T : TypeId} {i : TypeInfo} {z : Value} {s bytes : Nat} (ht : P.underlying t = some (.slice T)) (hi : P.info? T = some i) (hz : i.zero = some z)
    (hsize : i.size = s) (hby : i.bytes = bytes) (hzs : z.cells.size = s) (hs0 : 0 < s) {v : Value} {n : Nat} {F : Nat → Nat → Value} {xs : Array Value}
    (hv : a.eval x = v) (hown : OwnV B w T s v n F) (hB : B ≤ w.heap.size) {W : World} (hW : W.heap = (w.alloc (.cells xs T)).heap ∧ W.os = w.os ∧ W.tape = w.tape ∧ W.output = w.output) (hx : a.eval y = .slice (some ⟨w.heap.size, 0, none⟩) 1 1)
    (hc : ∀ q, q < s → xs[q]? = some (F n q)) (h1 : ∀ q, q < s → (F n q).oneCell' = true)
    (hn : n + 1 ≤ 1000000000) (hb : bytes ≤ 64)
    (h : ∀ v' w', OwnV B w' T s v' (n + 1) F → w.grownBy w' v.ownBlock → (v'.ownBlock = v.ownBlock ∨ ∃ k, v'.ownBlock = some k ∧ w.heap.size ≤ k) → K (a.put o.dst v') w') : if Region.wanted o (yielded ops a.tmps) = true then Oper.wp P o a W K Q else E := by
  have hw : Region.wanted o (yielded ops a.tmps) = true := by simp [Region.wanted, hgd]
  rw [if_pos hw]
  exact wp_appS w x y t ho ht hi hz hsize hby hzs hs0 hv hown hB hW hx hc h1 hn hb h
end

/-! ### what an append leaves as it was -/
theorem OwnV.drew {B s n : Nat} {T : TypeId} {v : Value} {w : World} {F : Nat → Nat → Value} (h : OwnV B w T s v n F) : OwnV B w.drew T s v n F := h.call (Below.refl _ _).drew
theorem grown_own {a b c : World} {g : Nat} {o : Option Nat} (h : a.grownBy b (some g)) (k : b.grownBy c o) (ho : ∀ r, o = some r → a.heap.size ≤ r) : a.grownBy c (some g) :=
  ⟨k.os.trans h.os, k.tape.trans h.tape, k.output.trans h.output, Nat.le_trans h.size k.size, fun i hi hn => (k.block i (Nat.lt_of_lt_of_le hi h.size) (by
    rintro e; have := ho i e.symm; omega)).trans (h.block i hi hn)⟩
theorem below_own {B : Nat} {a b c : World} {o : Option Nat} (h : Below B a b) (k : b.grownBy c o) (ho : ∀ r, o = some r → B ≤ r) (hz : B ≤ b.heap.size) : Below B a c :=
  h.trans ⟨k.os, k.tape, k.output, k.size, fun i hi => k.block i (by omega) (by rintro e; have := ho i e.symm; omega)⟩
theorem Row.own {w w' : World} {x n : Nat} {T : TypeId} {f : Nat → Value} {o : Option Nat} (h : Row w x T n f) (k : w.grownBy w' o) (ho : o ≠ some x) : Row w' x T n f := h.keep (k.block x h.lt (fun e => ho e.symm))
theorem SliceF.own {w w' : World} {A : Option Addr} {n cap s : Nat} {F : Nat → Nat → Value} {o : Option Nat} (h : SliceF w A n cap s F) (k : w.grownBy w' o) (hr : ∀ b u, A = some ⟨b, u, none⟩ → o ≠ some b) : SliceF w' A n cap s F :=
  ⟨h.max, h.le, fun j hj => by
    obtain ⟨b, u, e, hB, hc⟩ := h.cell j hj
    exact ⟨b, u, e, Nat.lt_of_lt_of_le hB k.size, fun q hq => (World.cell?_of_block (k.block b hB (fun x => hr b u e x.symm))).trans (hc q hq)⟩⟩
end Go.Proofs.Ytkkhaamklbolmaa
