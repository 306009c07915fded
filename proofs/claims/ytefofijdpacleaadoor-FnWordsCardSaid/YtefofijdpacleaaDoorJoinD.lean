/-
  Joining words: contract of the program's JoinWords.
-/
import Derived.Test.YtefofijdpacleaaDoorStrEq
import Derived.Test.YtefofijdpacleaaDoorShelf4D
import Derived.Laws.Concat
namespace Go.Proofs.YtefofijdpacleaaDoor
open Go.RowKit
set_option linter.unusedVariables false
set_option linter.unusedSimpArgs false

/-- the first n texts with spaces between -/
def joinS (f : Nat → ByteArray) : Nat → ByteArray
  | 0 => ⟨#[]⟩
  | k + 1 => if k = 0 then joinS f k ++ f k else (joinS f k ++ ⟨#[32]⟩) ++ f k
theorem joinS_succ (f : Nat → ByteArray) {k : Nat} (h : k ≠ 0) : joinS f (k + 1) = (joinS f k ++ ⟨#[32]⟩) ++ f k := by
  show (if k = 0 then _ else _) = _
  rw [if_neg h]
theorem joinS_one (f : Nat → ByteArray) : joinS f (0 + 1) = joinS f 0 ++ f 0 := rfl
theorem size_append' (a b : ByteArray) : (a ++ b).size = a.size + b.size := by simp
theorem joinS_size (f : Nat → ByteArray) : ∀ n, (joinS f n).size ≤ sumZ f n + n
  | 0 => Nat.le_refl _
  | k + 1 => by
    have ih := joinS_size f k
    unfold joinS
    simp only [sumZ]
    split
    · rw [size_append']; omega
    · rw [size_append', size_append']
      have : (⟨#[32]⟩ : ByteArray).size = 1 := rfl
      omega
/-- the same by lists -/
theorem join_snoc (xs : List (List UInt8)) (x sep : List UInt8) (h : xs ≠ []) : Lib.join (xs ++ [x]) sep = Lib.join xs sep ++ (sep ++ x) := by
  cases xs with
  | nil => exact absurd rfl h
  | cons y r => rw [List.cons_append, Lib.join_cons, Lib.join_cons, Lib.joinTail, Lib.joinTail]; simp
theorem joinS_eq (f : Nat → ByteArray) : ∀ n, (joinS f n).data.toList = Lib.join ((List.range n).map (fun i => (f i).data.toList)) [32]
  | 0 => rfl
  | k + 1 => by
    have ih := joinS_eq f k
    rw [List.range_succ, List.map_append, List.map_cons, List.map_nil]
    unfold joinS
    by_cases e : k = 0
    · subst e
      simp [joinS, Lib.join_one]
    · rw [if_neg e, join_snoc _ _ _ (by simp; omega), ← ih]
      simp [ByteArray.data_append]
theorem joinS_lib (f : Nat → ByteArray) (n : Nat) : (⟨(Lib.join ((List.range n).map (fun i => (f i).data.toList)) [32]).toArray⟩ : ByteArray) = joinS f n := by
  apply ByteArray.ext
  rw [← joinS_eq]

theorem join_call (w : World) (A : Option Addr) (n cap : Nat) (f : Nat → ByteArray) (h : StrsF w A n cap f) (hn : n + sumZ f n ≤ 1048576) :
    Calls Tryd.prog 34 #[.slice A n cap, .string ⟨#[32]⟩] w fun e w' => e = .returned (.string (joinS f n)) ∧ Below w.heap.size w w' := by
  by_cases h0 : n = 0
  · subst h0
    refine (Tryd.strings_Join_none A cap ⟨#[32]⟩ w).mono ?_
    rintro e w' ⟨rfl, rfl⟩
    exact ⟨rfl, Below.refl _ _⟩
  · obtain ⟨b, o, rfl, hB, _⟩ := h.cell (show 0 < n by omega)
    have hx : ∀ (j : Nat) x, ((List.range n).map f)[j]? = some x → w.cell? ⟨b, o + j, none⟩ = some (.string x) := by
      intro j x hj
      have hlt : j < n := by
        by_cases hh : j < n
        · exact hh
        · rw [List.getElem?_eq_none (by simp; omega)] at hj; cases hj
      simp [hlt] at hj
      subst hj
      obtain ⟨b', o', e, _, hc⟩ := h.cell hlt
      injection e with e
      injection e with e1 e2 _
      subst e1; subst e2
      exact hc
    have hl : ((List.range n).map f).length = n := by simp
    have hm : ((List.range n).map f).map (·.data.toList) = (List.range n).map (fun i => (f i).data.toList) := by simp
    have e := Tryd.strings_Join b o cap ((List.range n).map f) ⟨#[32]⟩ w hx hB (by rw [hl]; omega) (by rw [hl]; exact h.sl.le) (by
      rw [hm]
      show (Lib.join _ [32]).length ≤ _
      rw [← joinS_eq, Array.length_toList]
      have := joinS_size f n
      show (joinS f n).size ≤ _
      omega)
    rw [hl, hm] at e
    refine e.mono ?_
    rintro e w' ⟨rfl, hb⟩
    refine ⟨?_, hb⟩
    show Ending.returned (.string ⟨(Lib.join _ [32]).toArray⟩) = _
    rw [joinS_lib]
theorem impl_JoinWords (w : World) (A : Option Addr) (n cap : Nat) (f : Nat → ByteArray) (h : StrsF w A n cap f) (hn : n + sumZ f n ≤ 1048576) :
    Calls Tryd.prog 21 #[.slice A n cap] w fun e w' => e = .returned (.string (joinS f n)) ∧ Below w.heap.size w w' := by
  go_enter Tryd.func21, Tryd.ntmps21
  go_wp2_with fail
  refine (join_call w A n cap f h hn).mono ?_
  rintro e w1 ⟨rfl, hb⟩
  go_wp2_with fail
  go_ret
  exact ⟨rfl, hb⟩
end Go.Proofs.YtefofijdpacleaaDoor
