/-
  A row of the call's own that grows by append of one element at a time: its block, its elements as a function.
-/
import Derived.Test.YtkbmlpnfdogioaaLists
import Derived.Maps.AppendAt
import Derived.OwnWalk
namespace Go.Proofs.Ytkbmlpnfdogioaa
open Go.RowKit
set_option linter.unusedVariables false

/-- block g, from B on, is a row of n elements f 0, .., with room for cap -/
structure Own (B : Nat) (w : World) (T : TypeId) (g n cap : Nat) (f : Nat → Value) : Prop where
  base : B ≤ g
  own : w.ownsRow B T 1 (.slice (some ⟨g, 0, none⟩) n cap) n ((List.range n).map f)
section
variable {B g n cap : Nat} {T : TypeId} {w w' : World} {f f' : Nat → Value}
theorem Own.row (h : Own B w T g n cap f) : Row w g T n f := (row_own h.own).1.congr (fun i hi => by simp [hi])
theorem Own.lt (h : Own B w T g n cap f) : g < w.heap.size := h.row.lt
theorem Own.le (h : Own B w T g n cap f) : n ≤ cap := by
  obtain ⟨_, ⟨hv, _⟩ | ⟨g', c', cur, hv, _, _, hn, hc, _⟩⟩ := h.own
  · cases hv
  · injection hv with _ _ h3; omega
theorem Own.max (h : Own B w T g n cap f) : cap ≤ 9223372036854775807 := by
  obtain ⟨_, ⟨hv, _⟩ | ⟨g', c', cur, hv, _, _, hn, hc, _⟩⟩ := h.own
  · cases hv
  · injection hv with _ _ h3; unfold maxLen at hc; omega
theorem Own.grown {r : Nat} (h : Own B w T g n cap f) (hg : w.grownBy w' (some r)) (hr : r ≠ g) : Own B w' T g n cap f := ⟨h.base, h.own.kept hg (.inr (by simp [Value.ownBlock]; omega))⟩
theorem Own.call (h : Own B w T g n cap f) (hb : Below w.heap.size w w') : Own B w' T g n cap f :=
  ⟨h.base, h.own.kept (row := none) ⟨hb.os, hb.tape, hb.output, hb.size, fun i hi _ => hb.block i hi⟩ (.inr (by simp [Value.ownBlock]))⟩
theorem Own.alloc (h : Own B w T g n cap f) (o : Obj) : Own B (w.alloc o) T g n cap f := h.call ((Below.refl _ _).alloc (Nat.le_refl _) _)
theorem Own.drewN (h : Own B w T g n cap f) (k : Nat) : Own B (w.drewN k) T g n cap f := h.call ⟨rfl, rfl, rfl, Nat.le_refl _, fun _ _ => rfl⟩
theorem Own.congr (h : Own B w T g n cap f) (he : ∀ i, i < n → f i = f' i) : Own B w T g n cap f' := by
  have e : (List.range n).map f = (List.range n).map f' := List.map_congr_left (fun i hi => he i (List.mem_range.1 hi))
  exact ⟨h.base, e ▸ h.own⟩
theorem own_new (w : World) {B : Nat} (hB : B ≤ w.heap.size) (T : TypeId) (f : Nat → Value) : Own B (w.alloc (.cells #[] T)) T w.heap.size 0 0 f :=
  ⟨hB, World.ownsRow_lit w #[] 0 hB (by unfold maxLen; omega) rfl⟩
theorem Own.ints {f : Nat → Int} (h : Own B w T g n cap (fun i => .int .i64 (f i))) (hf : ∀ i, i < n → -9223372036854775808 ≤ f i ∧ f i ≤ 9223372036854775807) : IntsF w (some ⟨g, 0, none⟩) n cap f :=
  IntsF.of_row h.row h.max h.le hf
end
/-- append(s, v) where s is such a row -/
theorem app1 {P : Program} (w : World) {ops : Array Oper} {rest : List Oper} {o : Oper} {a : Act} {Q : Exit → Act → World → Prop} (hgd : o.guard = none) (s x : Operand) (t : TypeId)
    (ho : o.op = .call { callee := .builtin .append, args := #[s, x], argTypes := #[t, t] })
    {B : Nat} {T : TypeId} {i : TypeInfo} {z : Value} {bytes : Nat} (ht : P.underlying t = some (.slice T)) (hi : P.info? T = some i) (hz : i.zero = some z)
    (hsize : i.size = 1) (hby : i.bytes = bytes) (hzs : z.cells.size = 1) {g n cap : Nat} {f : Nat → Value} {v : Value}
    (hs : a.eval s = .slice (some ⟨g, 0, none⟩) n cap) (hx : a.eval x = .slice (some ⟨w.heap.size, 0, none⟩) 1 1) (hown : Own B w T g n cap f) (hB : B ≤ w.heap.size) (hv : v.oneCell' = true) (hf : f n = v) (hn : n ≤ 1000000000) (hb : bytes ≤ 64)
    (h : ∀ g' cap' w', Own B w' T g' (n + 1) cap' f → w.grownBy w' (some g) → (g' = g ∨ w.heap.size ≤ g') → wpList P ops Q rest (a.put o.dst (.slice (some ⟨g', 0, none⟩) (n + 1) cap')) w') :
    wpList P ops Q (o :: rest) a (w.alloc (.cells #[v] T)) := by
  refine wpList_append_own_at _ hgd s x t ho B T i z 1 bytes ht hi hz hsize hby hzs (by decide) _ n _ hs (hown.alloc _).own _ 1 1 [v] hx rfl (cell_one_new w v T) (by simpa using hv) (by unfold maxLen; omega) ?_ (by simp; omega) ?_
  · have : (n + 1) * bytes ≤ (n + 1) * 64 := Nat.mul_le_mul_left _ hb
    omega
  · intro v' w' hown' hgrow hnil hat
    have e : (List.range n).map f ++ [v] = (List.range (n + 1)).map f := by simp [List.range_succ, hf]
    rw [e] at hown'
    have hgr : w.grownBy w' (some g) := ⟨hgrow.os, hgrow.tape, hgrow.output, by have := hgrow.size; simp at this; omega, fun k hk hne => (hgrow.block k (by simp; omega) hne).trans (((Below.refl w.heap.size w).alloc (Nat.le_refl _) (.cells #[v] T)).block k hk)⟩
    obtain ⟨hl, ⟨_, h0⟩ | ⟨g', c', cur, rfl, rest'⟩⟩ := id hown'
    · omega
    · refine h g' c' w' ⟨rest'.1, hown'⟩ hgr ?_
      simp [Value.ownBlock] at hat
      omega
theorem Own.set {B g n cap : Nat} {T : TypeId} {w : World} {f : Nat → Value} (h : Own B w T g n cap f) {i : Nat} (hi : i < n) (v : Value) : Own B (w.setCell ⟨g, i, none⟩ v) T g n cap (fun j => if j = i then v else f j) := by
  refine ⟨h.base, ?_⟩
  obtain ⟨hl, ⟨hv, _⟩ | ⟨g', c', cur, hv, hb, hh, hn, hc, hs, ht⟩⟩ := h.own
  · cases hv
  · injection hv with h1 h2 h3
    injection h1 with h1; injection h1 with h1 _ _
    subst h1; subst h3
    have hR := (h.row.set i v)
    refine ⟨by simp, .inr ⟨g, cap, cur.setIfInBounds i v, rfl, hb, by simp [World.setCell, Array.getElem?_modify, hh], hn, hc, by simpa using hs, ?_⟩⟩
    obtain ⟨cs, hcs, hcn, hce⟩ := hR
    have e : cs = cur.setIfInBounds i v := by
      simp [World.setCell, Array.getElem?_modify, hh] at hcs
      exact hcs.symm
    subst e
    apply List.ext_getElem?
    intro j
    by_cases hj : j < n
    · rw [List.getElem?_take, if_pos (by omega), Array.getElem?_toList, hce j hj]
      simp [hj]
    · rw [List.getElem?_take, if_neg (by omega)]
      simp [hj]
theorem Own.far {B g n cap : Nat} {T : TypeId} {w : World} {f : Nat → Value} (h : Own B w T g n cap f) {p : Addr} (hp : p.block ≠ g) (v : Value) : Own B (w.setCell p v) T g n cap f :=
  h.grown (r := p.block) ⟨rfl, rfl, rfl, by simp [World.setCell], fun i _ hne => Below.heap_setCell _ _ _ _ (by rintro rfl; exact hne rfl)⟩ hp
end Go.Proofs.Ytkbmlpnfdogioaa
