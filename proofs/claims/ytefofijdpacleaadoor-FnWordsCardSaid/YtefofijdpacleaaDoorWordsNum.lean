/-
  Plain facts: words joined and cut again, cut and joined again (no program in sight).
-/
import Derived.Test.YtefofijdpacleaaDoorSplitNum
import Derived.Test.YtefofijdpacleaaDoorJoinD
namespace Go.Proofs.YtefofijdpacleaaDoor
open Go.Lib (splitB countB)
set_option linter.unusedVariables false

theorem join_two (x y : List UInt8) (r : List (List UInt8)) : Lib.join (x :: y :: r) [32] = x ++ 32 :: Lib.join (y :: r) [32] := by
  rw [Lib.join_cons, Lib.join_cons]
  simp [Lib.joinTail]
theorem join_ws : ∀ l : List UInt8, Lib.join (ws l) [32] = l
  | [] => by show Lib.join [[]] [32] = []; rw [Lib.join_one]
  | c :: r => by
    have ih := join_ws r
    cases hw : ws r with
    | nil => exact absurd hw (ws_ne r)
    | cons a t =>
      rw [hw] at ih
      by_cases e : c = 32
      · subst e
        rw [ws_sp, hw, join_two, ih]
        rfl
      · rw [ws_cons_ne e hw]
        rw [Lib.join_cons] at ih ⊢
        rw [List.cons_append, ih]
theorem ws_join : ∀ xs : List (List UInt8), xs ≠ [] → (∀ x ∈ xs, ∀ c ∈ x, c ≠ 32) → ws (Lib.join xs [32]) = xs
  | [], h, _ => absurd rfl h
  | [x], _, h => by rw [Lib.join_one]; exact ws_clean x (h x (List.mem_cons_self ..))
  | x :: y :: r, _, h => by
    rw [join_two, ws_app _ _ (h x (List.mem_cons_self ..)), ws_join (y :: r) (by simp) (fun z hz => h z (List.mem_cons_of_mem _ hz))]
/-- a clean word -/
def Clean (x : ByteArray) : Prop := x.size ≠ 0 ∧ ∀ q, (h : q < x.size) → x[q] ≠ 32
theorem Clean.mem {x : ByteArray} (h : Clean x) : ∀ c ∈ x.data.toList, c ≠ 32 := by
  intro c hc
  obtain ⟨i, hi⟩ := List.mem_iff_getElem?.1 hc
  have hl : i < x.size := by
    rcases Nat.lt_or_ge i x.size with h | h
    · exact h
    · rw [size_list'] at h; rw [List.getElem?_eq_none h] at hi; cases hi
  rw [get_list hl] at hi
  injection hi with hi
  rw [← hi]; exact h.2 i hl
theorem wsB_join {f : Nat → ByteArray} {n : Nat} (hn : n ≠ 0) (h : ∀ i, i < n → Clean (f i)) : wsB (joinS f n) = (List.range n).map f := by
  unfold wsB
  rw [joinS_eq, ws_join _ (by simp [hn]) (fun x hx => by
    obtain ⟨i, hi, rfl⟩ := List.mem_map.1 hx
    exact (h i (List.mem_range.1 hi)).mem), List.map_map]
  rfl
theorem full_join {f : Nat → ByteArray} {n : Nat} (hn : n ≠ 0) (h : ∀ i, i < n → Clean (f i)) : Full (joinS f n) ∧ (wsB (joinS f n)).length = n ∧ ∀ i, i < n → wordAt (joinS f n) i = f i := by
  have e := wsB_join hn h
  refine ⟨fun x hx => ?_, by rw [e]; simp, fun i hi => ?_⟩
  · rw [e] at hx
    obtain ⟨i, hi, rfl⟩ := List.mem_map.1 hx
    exact (h i (List.mem_range.1 hi)).1
  · unfold wordAt; rw [e]; simp [hi]
theorem join_wordAt (s : ByteArray) : joinS (wordAt s) (wsB s).length = s := by
  apply ByteArray.ext
  apply Array.toList_inj.1
  rw [joinS_eq]
  have e : (List.range (wsB s).length).map (fun i => (wordAt s i).data.toList) = ws s.data.toList := by
    apply List.ext_getElem?
    intro i
    by_cases hi : i < (wsB s).length
    · have h1 := wordAt_get hi
      unfold wsB at h1
      rw [List.getElem?_map] at h1
      obtain ⟨l, h2, h3⟩ := Option.map_eq_some_iff.1 h1
      simp [hi, h2, ← h3]
    · have hl : (wsB s).length = (ws s.data.toList).length := by unfold wsB; simp
      rw [List.getElem?_eq_none (by simp; omega), List.getElem?_eq_none (by omega)]
  rw [e, join_ws]
theorem sumZ_bound {f : Nat → ByteArray} {m : Nat} : ∀ n, (∀ i, i < n → (f i).size ≤ m) → sumZ f n ≤ n * m
  | 0, _ => by simp [sumZ]
  | n + 1, h => by
    have ih := sumZ_bound n (fun i hi => h i (by omega))
    have := h n (by omega)
    show sumZ f n + (f n).size ≤ _
    rw [Nat.add_mul, Nat.one_mul]; omega
end Go.Proofs.YtefofijdpacleaaDoor
