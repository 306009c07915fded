/-
  Rows of picks: how they read, what keeps them; the ways to choose a value for each option (plain).
-/
import Derived.Test.YtkkhaamklbolmaaDrawCond2
import Derived.Test.YtkkhaamklbolmaaModel7
namespace Go.Proofs.Ytkkhaamklbolmaa
open Go.RowKit Go.Sort
set_option linter.unusedVariables false
set_option linter.unusedSimpArgs false

/-- the blocks of cells of type T are kept -/
def KeepT (T : TypeId) (w w' : World) : Prop := ∀ (g : Nat) (cs : Array Value), w.heap[g]? = some (Obj.cells cs T (0, 0)) → w'.heap[g]? = w.heap[g]?
theorem KeepT.refl (T : TypeId) (w : World) : KeepT T w w := fun _ _ _ => rfl
theorem KeepT.trans {T : TypeId} {a b c : World} (h : KeepT T a b) (k : KeepT T b c) : KeepT T a c := fun g cs e => (k g cs ((h g cs e).trans e)).trans (h g cs e)
theorem keep_below {T : TypeId} {a b : World} (h : Below a.heap.size a b) : KeepT T a b := fun g cs e => h.block g (by
  by_cases hl : g < a.heap.size
  · exact hl
  · rw [Array.getElem?_eq_none (by omega)] at e; cases e)
theorem keep_own {T U : TypeId} {a b : World} {B s n : Nat} {v : Value} {F : Nat → Nat → Value} (ho : OwnV B a U s v n F) (hTU : T ≠ U) (h : a.grownBy b v.ownBlock) : KeepT T a b := fun g cs e => by
  have hl : g < a.heap.size := by
    by_cases hl : g < a.heap.size
    · exact hl
    · rw [Array.getElem?_eq_none (by omega)] at e; cases e
  refine h.block g hl fun e2 => ?_
  obtain ⟨_, ⟨hv, _⟩ | ⟨g', cap, cur, hv, _, hh, _⟩⟩ := ho.own
  · rw [hv] at e2; cases e2
  · rw [hv] at e2
    injection e2 with e2
    subst e2
    rw [hh] at e
    injection e with e
    injection e with _ e4 _
    exact hTU e4.symm
theorem keep_cur {T : TypeId} {a b : World} {g : Nat} {cs0 : Array Value} {U : TypeId} (hc : a.heap[g]? = some (.cells cs0 U (0, 0))) (hTU : T ≠ U) (h : a.grownBy b (some g)) : KeepT T a b := fun k cs e => by
  have hl : k < a.heap.size := by
    by_cases hl : k < a.heap.size
    · exact hl
    · rw [Array.getElem?_eq_none (by omega)] at e; cases e
  refine h.block k hl fun e2 => ?_
  injection e2 with e2
  subst e2
  rw [hc] at e
  injection e with e
  injection e with _ e4 _
  exact hTU e4.symm
theorem Row.keepT {w w' : World} {g n : Nat} {T : TypeId} {f : Nat → Value} (h : Row w g T n f) (k : KeepT T w w') : Row w' g T n f := by
  obtain ⟨cs, hh, hn, hc⟩ := h
  exact ⟨cs, (k g cs hh).trans hh, hn, hc⟩
/-- v is a slice of the picks X, in a block of its own kind -/
def PkIn (w : World) (v : Value) (X : List Pk) : Prop := ∃ (g : Nat) (c : Nat), v = .slice (some ⟨g, 0, none⟩) X.length c ∧ X.length ≤ c ∧ c ≤ 9223372036854775807 ∧ (X = [] ∨ Row w g 52 (X.length * 2) (fun i => pkC X (i / 2) (i % 2)))
theorem PkIn.keep {w w' : World} {v : Value} {X : List Pk} (h : PkIn w v X) (k : KeepT 52 w w') : PkIn w' v X := by
  obtain ⟨g, c, hv, h1, h2, h3⟩ := h
  refine ⟨g, c, hv, h1, h2, ?_⟩
  rcases h3 with h3 | r
  · exact .inl h3
  · exact .inr (r.keepT k)
theorem PkIn.slice {w : World} {v : Value} {X : List Pk} (h : PkIn w v X) : ∃ g c, v = .slice (some ⟨g, 0, none⟩) X.length c ∧ SliceF w (some ⟨g, 0, none⟩) X.length c 2 (pkC X) := by
  obtain ⟨g, c, hv, h1, h2, h3⟩ := h
  refine ⟨g, c, hv, ?_⟩
  rcases h3 with h3 | r
  · subst h3; exact SliceF.empty _ _ _ h2 _ _
  · exact SliceF.of_row r h2 h1 (fun j q hj hq => by
      have d1 : (j * 2 + q) / 2 = j := by omega
      have d2 : (j * 2 + q) % 2 = q := by omega
      show pkC X ((j * 2 + q) / 2) ((j * 2 + q) % 2) = _
      rw [d1, d2])
theorem PkIn.of_own {w : World} {B : Nat} {v : Value} {X : List Pk} (h : OwnV B w 52 2 v X.length (pkC X)) (hn : 0 < X.length) : PkIn w v X := by
  obtain ⟨g, c, hv⟩ := h.formN hn
  obtain ⟨A, c2, hv2, hS, hA⟩ := h.slice
  have ho := h.own
  rw [hv] at ho hv2
  injection hv2 with e1 _ e3
  subst e1; subst e3
  refine ⟨g, c, hv, hS.le, hS.max, .inr ?_⟩
  obtain ⟨cs, hh, hs, hn2, ht⟩ := row_ownS ho
  have hle : X.length * 2 ≤ c * 2 := Nat.mul_le_mul_right _ hn2
  refine ⟨cs, hh, by omega, fun i hi => ?_⟩
  have h1 : (cs.toList.take (X.length * 2))[i]? = (flat 2 (pkC X) X.length)[i]? := by rw [ht]
  rw [List.getElem?_take, if_pos hi, flat_get hi] at h1
  simpa using h1
theorem heap_at {w : World} {k : Nat} (o : Obj) (h : k = w.heap.size) : (w.alloc o).heap[k]? = some o := by subst h; exact heap_alloc_new w o
theorem heap_before {w : World} {k : Nat} {x : Obj} (h : w.heap[k]? = some x) (o : Obj) : (w.alloc o).heap[k]? = some x := by
  have hl : k < w.heap.size := (Array.getElem?_eq_some_iff.1 h).1
  rw [heap_alloc_old w o hl]; exact h
theorem heap_drew {w : World} {k : Nat} {x : Option Obj} (h : w.heap[k]? = x) : w.drew.heap[k]? = x := h
theorem own_empty {W : World} {B g : Nat} (h : W.heap[g]? = some (Obj.cells #[] 52 (0, 0))) (hB : B ≤ g) (F : Nat → Nat → Value) : OwnV B W 52 2 (.slice (some ⟨g, 0, none⟩) 0 0) 0 F :=
  ⟨by simp [flat], .inr ⟨g, 0, #[], rfl, hB, h, Nat.le_refl _, by unfold maxLen; omega, by simp, by simp [flat]⟩⟩
theorem slice_at {w : World} {g n c : Nat} {F : Nat → Nat → Value} (h : SliceF w (some ⟨g, 0, none⟩) n c 2 F) {W : World} (hb : Below w.heap.size w W) : ∀ j q, j < n → q < 2 → W.cell? ((⟨g, 0, none⟩ : Addr).add (j * 2 + q)) = some (F j q) := by
  intro j q hj hq
  obtain ⟨b, o, e, hB, hc⟩ := h.cell j hj
  injection e with e
  injection e with e1 e2 _
  subst e1; subst e2
  rw [WideShapes.add_plain]
  have := hc q hq
  rw [Nat.zero_add] at this ⊢
  exact (hb.cell (p := ⟨g, j * 2 + q, none⟩) hB).trans this
def valC (V : Nat → Value) (j q : Nat) : Value := V j
/-- v is a slice of the rows R, the call's own from block B on -/
def RowsF (B : Nat) (w : World) (v : Value) (R : List (List Pk)) : Prop := ∃ V : Nat → Value, OwnV B w 38 1 v R.length (valC V) ∧ ∀ j, j < R.length → PkIn w (V j) (R.getD j [])
theorem RowsF.call {B : Nat} {w w' : World} {v : Value} {R : List (List Pk)} (h : RowsF B w v R) (hb : Below w.heap.size w w') : RowsF B w' v R := by
  obtain ⟨V, ho, hp⟩ := h
  exact ⟨V, ho.call hb, fun j hj => (hp j hj).keep (keep_below hb)⟩
theorem RowsF.base {B C : Nat} {w : World} {v : Value} {R : List (List Pk)} (h : RowsF B w v R) (hb : C ≤ B) : RowsF C w v R := by
  obtain ⟨V, ho, hp⟩ := h
  exact ⟨V, ho.base hb, hp⟩
/-! ### all ways -/
def partL (D : OptD) (i : Nat) (X : List Pk) (k : Nat) : List (List Pk) := (List.range k).map fun k => X ++ [(D.nm i, D.vs i k)]
def nextL (D : OptD) (i : Nat) (L : List (List Pk)) : List (List Pk) := L.flatMap fun X => partL D i X (D.n i)
def allL (D : OptD) : Nat → List (List Pk)
  | 0 => [[]]
  | i + 1 => nextL D i (allL D i)
theorem partL_len (D : OptD) (i : Nat) (X : List Pk) (k : Nat) : (partL D i X k).length = k := by simp [partL]
theorem partL_succ (D : OptD) (i : Nat) (X : List Pk) (k : Nat) : partL D i X (k + 1) = partL D i X k ++ [X ++ [(D.nm i, D.vs i k)]] := by simp [partL, List.range_succ]
theorem nextL_app (D : OptD) (i : Nat) (L : List (List Pk)) (X : List Pk) : nextL D i (L ++ [X]) = nextL D i L ++ partL D i X (D.n i) := by simp [nextL]
theorem nextL_len (D : OptD) (i : Nat) (L : List (List Pk)) : (nextL D i L).length = L.length * D.n i := by
  induction L with
  | nil => simp [nextL]
  | cons X L ih =>
    have : nextL D i (X :: L) = partL D i X (D.n i) ++ nextL D i L := by simp [nextL]
    rw [this, List.length_append, partL_len, ih, List.length_cons, Nat.add_mul, Nat.one_mul, Nat.add_comm]
theorem allL_len {D : OptD} : ∀ {i : Nat}, (∀ j, j < i → D.n j ≤ 4) → (allL D i).length ≤ 4 ^ i
  | 0, _ => by simp [allL]
  | i + 1, h => by
    show (nextL D i (allL D i)).length ≤ _
    rw [nextL_len, Nat.pow_succ]
    exact Nat.mul_le_mul (allL_len fun j hj => h j (by omega)) (h i (by omega))
theorem allL_each {D : OptD} : ∀ {i : Nat} {X : List Pk}, X ∈ allL D i → X.length = i ∧ ∀ x ∈ X, ∃ j k, j < i ∧ k < D.n j ∧ x = (D.nm j, D.vs j k)
  | 0, X, h => by simp [allL] at h; subst h; exact ⟨rfl, fun x hx => by simp at hx⟩
  | i + 1, X, h => by
    have h : X ∈ nextL D i (allL D i) := h
    simp only [nextL, partL, List.mem_flatMap, List.mem_map, List.mem_range] at h
    obtain ⟨Y, hY, k, hk, rfl⟩ := h
    obtain ⟨h1, h2⟩ := allL_each hY
    refine ⟨by simp [h1], fun x hx => ?_⟩
    rw [List.mem_append, List.mem_singleton] at hx
    rcases hx with hx | rfl
    · obtain ⟨j, k, a, b, c⟩ := h2 x hx; exact ⟨j, k, by omega, b, c⟩
    · exact ⟨i, k, by omega, hk, rfl⟩
/-- one more row behind the rows -/
theorem RowsF.add {B : Nat} {w w' : World} {v' : Value} {V : Nat → Value} {R : List (List Pk)} {x : Value} {X : List Pk} (hp : ∀ j, j < R.length → PkIn w (V j) (R.getD j [])) (hx : PkIn w x X) (k : KeepT 52 w w')
    (ho : OwnV B w' 38 1 v' (R.length + 1) (valC (fun j => if j = R.length then x else V j))) : RowsF B w' v' (R ++ [X]) := by
  refine ⟨fun j => if j = R.length then x else V j, by rw [List.length_append, List.length_singleton]; exact ho, fun j hj => ?_⟩
  rw [List.length_append, List.length_singleton] at hj
  by_cases e : j = R.length
  · subst e
    show PkIn w' (if R.length = R.length then x else V R.length) _
    rw [if_pos rfl]
    have : (R ++ [X]).getD R.length [] = X := by simp [List.getD_eq_getElem?_getD]
    rw [this]; exact hx.keep k
  · show PkIn w' (if j = R.length then x else V j) _
    rw [if_neg e]
    have : (R ++ [X]).getD j [] = R.getD j [] := by simp only [List.getD_eq_getElem?_getD, List.getElem?_append_left (show j < R.length by omega)]
    rw [this]; exact (hp j (by omega)).keep k
theorem rows_one {w : World} {B : Nat} (hB : B ≤ w.heap.size) : RowsF B ((w.alloc (.cells #[] 52)).alloc (.cells #[.slice (some ⟨w.heap.size, 0, none⟩) 0 0] 38)) (.slice (some ⟨w.heap.size + 1, 0, none⟩) 1 1) [[]] := by
  refine ⟨fun _ => .slice (some ⟨w.heap.size, 0, none⟩) 0 0, ?_, fun j hj => ?_⟩
  · have := OwnV.lit (w.alloc (.cells #[] 52)) (B := B) (by simp; omega) 38 1 1 #[.slice (some ⟨w.heap.size, 0, none⟩) 0 0] (valC (fun _ => .slice (some ⟨w.heap.size, 0, none⟩) 0 0)) (by simp [flat, valC, List.range_succ]) (by omega)
    simpa using this
  · obtain rfl : j = 0 := by simp at hj; exact hj
    exact ⟨_, 0, rfl, Nat.le_refl _, by omega, .inl rfl⟩
theorem rows_nil {w : World} {B : Nat} (hB : B ≤ w.heap.size) : RowsF B (w.alloc (.cells #[] 38)) (.slice (some ⟨w.heap.size, 0, none⟩) 0 0) [] :=
  ⟨fun _ => undef, OwnV.lit w hB _ 1 0 #[] _ (by simp [flat]) (by omega), fun j hj => absurd hj (by simp)⟩
theorem all_le {D : OptD} {n i : Nat} (hn : n ≤ 4) (hi : i ≤ n) (h : ∀ j, j < n → D.n j ≤ 4) : (allL D i).length ≤ 256 :=
  Nat.le_trans (allL_len fun j hj => h j (by omega)) (Nat.le_trans (Nat.pow_le_pow_right (by omega) (show i ≤ 4 by omega)) (by decide))
theorem nextL_take (D : OptD) (i : Nat) (L : List (List Pk)) {r : Nat} (hr : r < L.length) : nextL D i (L.take (r + 1)) = nextL D i (L.take r) ++ partL D i (L.getD r []) (D.n i) := by
  have e : L.take (r + 1) = L.take r ++ [L.getD r []] := by
    rw [List.take_add_one, List.getD_eq_getElem?_getD, List.getElem?_eq_getElem hr]; rfl
  rw [e, nextL_app]
theorem getD_mem {L : List (List Pk)} {r : Nat} (hr : r < L.length) : L.getD r [] ∈ L := by
  rw [List.getD_eq_getElem?_getD, List.getElem?_eq_getElem hr]; exact List.getElem_mem hr
/-- the rows behind one more, in the world that the append leaves -/
theorem rows_more {B C : Nat} {wr w8 w9 : World} {A2 A8 : Option Addr} {c2 p8 : Nat} {v9 : Value} {V2 : Nat → Value} {R : List (List Pk)} {X : List Pk} {x : Pk}
    (ho : OwnV B wr 38 1 (.slice A2 R.length c2) R.length (valC V2)) (hp : ∀ j, j < R.length → PkIn wr (V2 j) (R.getD j [])) (hb : Below wr.heap.size wr w8)
    (h8 : OwnV C w8 52 2 (.slice A8 (X.length + 1) p8) (X.length + 1) (pkC (X ++ [x]))) (h9 : OwnV B w9 38 1 v9 (R.length + 1) (valC (fun j => if j = R.length then .slice A8 (X.length + 1) p8 else V2 j)))
    (hg : w8.grownBy w9 (Value.slice A2 R.length c2).ownBlock) : RowsF B w9 v9 (R ++ [X ++ [x]]) := by
  have e : (X ++ [x]).length = X.length + 1 := by simp
  refine RowsF.add (fun j hj => (hp j hj).keep (keep_below hb)) (PkIn.of_own (X := X ++ [x]) (by rw [e]; exact h8) (by omega)) (keep_own (ho.call hb) (by decide) hg) h9
theorem valC_lt (V2 : Nat → Value) (x : Value) {n a : Nat} (h : a < n) (q : Nat) : valC V2 a q = valC (fun j => if j = n then x else V2 j) a q := by
  show V2 a = if a = n then x else V2 a
  rw [if_neg (by omega)]
theorem valC_new (V2 : Nat → Value) (x : Value) (n q : Nat) : valC (fun j => if j = n then x else V2 j) n q = x := by
  show (if n = n then x else V2 n) = x
  rw [if_pos rfl]
/-- the one element behind the picks, where its cells are known -/
theorem pick_new {W : World} {g : Nat} {X : List Pk} {nm val : ByteArray} (h0 : W.cell? ⟨g, 0, none⟩ = some (.string nm)) (h1 : W.cell? ⟨g, 1, none⟩ = some (.string val)) : ∀ j q, j < 1 → q < 2 → W.cell? ((⟨g, 0, none⟩ : Addr).add (j * 2 + q)) = some (pkC (X ++ [(nm, val)]) (X.length + j) q) := by
  intro j q hj hq
  obtain rfl : j = 0 := by omega
  rw [WideShapes.add_plain, Nat.add_zero, pkC_last]
  rcases (by omega : q = 0 ∨ q = 1) with rfl | rfl
  · exact h0
  · exact h1
theorem pick_fresh {w : World} {nm val : ByteArray} {T : TypeId} : (w.alloc (.cells #[.string nm, .string val] T)).cell? ⟨w.heap.size, 0, none⟩ = some (.string nm) ∧ (w.alloc (.cells #[.string nm, .string val] T)).cell? ⟨w.heap.size, 1, none⟩ = some (.string val) := by
  constructor <;> simp [World.cell?_alloc_new]
theorem picks_info : (Try.prog.info? 38).map (fun i => (i.zero, i.size, i.bytes)) = some (some (.slice none 0 0), 1, 24) := by kernel_rfl
end Go.Proofs.Ytkkhaamklbolmaa
