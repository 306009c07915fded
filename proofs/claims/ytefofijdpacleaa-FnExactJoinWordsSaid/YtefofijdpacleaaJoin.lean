/-
  Joining words: contracts of the reference's and the program's JoinWords; the law FnExactJoinWords.
-/
import Derived.Test.YtefofijdpacleaaStrs
import Derived.Test.YtefofijdpacleaaShelf4
import Derived.Laws.Concat
namespace Go.Proofs.Ytefofijdpacleaa
open Go.RowKit
set_option linter.unusedVariables false
set_option linter.unusedSimpArgs false

/-- the first n texts with spaces between -/
def joinS (f : Nat → ByteArray) : Nat → ByteArray
  | 0 => ⟨#[]⟩
  | k + 1 => if k = 0 then joinS f k ++ f k else (joinS f k ++ ⟨#[32]⟩) ++ f k
theorem joinS_succ (f : Nat → ByteArray) {k : Nat} (h : k ≠ 0) : joinS f (k + 1) = (joinS f k ++ ⟨#[32]⟩) ++ f k := by
  show (if k = 0 then _ else _) = _
  rw [if_neg h]
theorem joinS_one (f : Nat → ByteArray) : joinS f (0 + 1) = joinS f 0 ++ f 0 := rfl
theorem size_append' (a b : ByteArray) : (a ++ b).size = a.size + b.size := by simp
theorem joinS_size (f : Nat → ByteArray) : ∀ n, (joinS f n).size ≤ sumZ f n + n
  | 0 => Nat.le_refl _
  | k + 1 => by
    have ih := joinS_size f k
    unfold joinS
    simp only [sumZ]
    split
    · rw [size_append']; omega
    · rw [size_append', size_append']
      have : (⟨#[32]⟩ : ByteArray).size = 1 := rfl
      omega
/-- the same by lists -/
theorem join_snoc (xs : List (List UInt8)) (x sep : List UInt8) (h : xs ≠ []) : Lib.join (xs ++ [x]) sep = Lib.join xs sep ++ (sep ++ x) := by
  cases xs with
  | nil => exact absurd rfl h
  | cons y r => rw [List.cons_append, Lib.join_cons, Lib.join_cons, Lib.joinTail, Lib.joinTail]; simp
theorem joinS_eq (f : Nat → ByteArray) : ∀ n, (joinS f n).data.toList = Lib.join ((List.range n).map (fun i => (f i).data.toList)) [32]
  | 0 => rfl
  | k + 1 => by
    have ih := joinS_eq f k
    rw [List.range_succ, List.map_append, List.map_cons, List.map_nil]
    unfold joinS
    by_cases e : k = 0
    · subst e
      simp [joinS, Lib.join_one]
    · rw [if_neg e, join_snoc _ _ _ (by simp; omega), ← ih]
      simp [ByteArray.data_append]
theorem joinS_lib (f : Nat → ByteArray) (n : Nat) : (⟨(Lib.join ((List.range n).map (fun i => (f i).data.toList)) [32]).toArray⟩ : ByteArray) = joinS f n := by
  apply ByteArray.ext
  rw [← joinS_eq]

set_option maxHeartbeats 1000000 in
theorem spec_JoinWords (w : World) (A : Option Addr) (n cap : Nat) (f : Nat → ByteArray) (h : StrsF w A n cap f) (hn : n + sumZ f n ≤ 1048576) :
    Calls Try.prog 8 #[.slice A n cap] w fun e w' => e = .returned (.string (joinS f n)) ∧ w' = w := by
  have H := Lib.hid h
  clear h
  go_enter Try.func8, Try.ntmps8
  go_wp2_with fail
  go_loop [3, 4] (fun s i => ∃ k : Nat, k ≤ n ∧ i = .int .i64 (k : Int) ∧ s = .string (joinS f k)) (fun _ i => n - (intOf i).toNat)
  case atStart => exact ⟨0, Nat.zero_le _, rfl, rfl⟩
  case round =>
    obtain ⟨k, hk, rfl, rfl⟩ := hrel
    by_cases hlt : k < n
    · have hlt' : (k : Int) < (n : Int) := by omega
      obtain ⟨b, o, rfl, hB, hc⟩ := H.out.cell hlt
      have hs : (f k).size ≤ 1048576 := by have := sumZ_one f hlt; omega
      have hz : (joinS f k).size ≤ 2097152 := by have := joinS_size f k; have := sumZ_le f (show k ≤ n by omega); omega
      by_cases hk0 : k = 0
      · subst hk0
        have a1 := run_string_add_sum (P := Try.prog) w (joinS f 0) (f 0) (by omega)
        simp only [Nat.add_zero] at hc
        have e1 := joinS_one f
        have E1 := Lib.hid e1
        clear e1
        generalize joinS f 0 = z at *
        go_wp2_with fail
        go_round
        case rel => exact ⟨0 + 1, by omega, by go_num, by rw [E1.out]⟩
        case measure => simp [intOf]; omega
      · have hk1 : 0 < (k : Int) := by omega
        have s1 : (joinS f k ++ ⟨#[32]⟩).size = (joinS f k).size + 1 := by rw [size_append']; rfl
        have a1 := run_string_add_sum (P := Try.prog) w (joinS f k) ⟨#[32]⟩ (by show _ + 1 ≤ _; omega)
        have a2 := run_string_add_sum (P := Try.prog) w (joinS f k ++ ⟨#[32]⟩) (f k) (by omega)
        have e1 := joinS_succ f hk0
        have E1 := Lib.hid e1
        clear e1 s1
        generalize joinS f k = z at *
        go_wp2_with fail
        go_round
        case rel => exact ⟨k + 1, by omega, by go_num, by rw [E1.out]⟩
        case measure => simp [intOf]; omega
    · obtain rfl : k = n := by omega
      go_wp2_with fail
      go_ret
      exact ⟨rfl, rfl⟩
theorem join_call (w : World) (A : Option Addr) (n cap : Nat) (f : Nat → ByteArray) (h : StrsF w A n cap f) (hn : n + sumZ f n ≤ 1048576) :
    Calls Try.prog 12 #[.slice A n cap, .string ⟨#[32]⟩] w fun e w' => e = .returned (.string (joinS f n)) ∧ Below w.heap.size w w' := by
  by_cases h0 : n = 0
  · subst h0
    refine (Try.strings_Join_none A cap ⟨#[32]⟩ w).mono ?_
    rintro e w' ⟨rfl, rfl⟩
    exact ⟨rfl, Below.refl _ _⟩
  · obtain ⟨b, o, rfl, hB, _⟩ := h.cell (show 0 < n by omega)
    have hx : ∀ (j : Nat) x, ((List.range n).map f)[j]? = some x → w.cell? ⟨b, o + j, none⟩ = some (.string x) := by
      intro j x hj
      have hlt : j < n := by
        by_cases hh : j < n
        · exact hh
        · rw [List.getElem?_eq_none (by simp; omega)] at hj; cases hj
      simp [hlt] at hj
      subst hj
      obtain ⟨b', o', e, _, hc⟩ := h.cell hlt
      injection e with e
      injection e with e1 e2 _
      subst e1; subst e2
      exact hc
    have hl : ((List.range n).map f).length = n := by simp
    have hm : ((List.range n).map f).map (·.data.toList) = (List.range n).map (fun i => (f i).data.toList) := by simp
    have e := Try.strings_Join b o cap ((List.range n).map f) ⟨#[32]⟩ w hx hB (by rw [hl]; omega) (by rw [hl]; exact h.sl.le) (by
      rw [hm]
      show (Lib.join _ [32]).length ≤ _
      rw [← joinS_eq, Array.length_toList]
      have := joinS_size f n
      show (joinS f n).size ≤ _
      omega)
    rw [hl, hm] at e
    refine e.mono ?_
    rintro e w' ⟨rfl, hb⟩
    refine ⟨?_, hb⟩
    show Ending.returned (.string ⟨(Lib.join _ [32]).toArray⟩) = _
    rw [joinS_lib]
theorem impl_JoinWords (w : World) (A : Option Addr) (n cap : Nat) (f : Nat → ByteArray) (h : StrsF w A n cap f) (hn : n + sumZ f n ≤ 1048576) :
    Calls Try.prog 10 #[.slice A n cap] w fun e w' => e = .returned (.string (joinS f n)) ∧ Below w.heap.size w w' := by
  go_enter Try.func10, Try.ntmps10
  go_wp2_with fail
  refine (join_call w A n cap f h hn).mono ?_
  rintro e w1 ⟨rfl, hb⟩
  go_wp2_with fail
  go_ret
  exact ⟨rfl, hb⟩
set_option maxHeartbeats 1000000 in
theorem law_JoinWords (w : World) (A : Option Addr) (n cap : Nat) (f : Nat → ByteArray) (h : StrsF w A n cap f) :
    Calls Try.prog 4 #[.slice A n cap] w fun e w' => e = .returned (.bool true) ∧ Below w.heap.size w w' := by
  have hm := h.le
  have H := Lib.hid h
  clear h
  by_cases hb : n + sumZ f n ≤ 1048576
  case neg =>
    have e1 : leftS f n 1048576 = -1 := by unfold leftS; rw [if_neg (by omega)]
    go_enter Try.func4, Try.ntmps4
    go_wp2_with fail
    refine (szStringS_any w A n cap f 1048576 H.out (by omega) (by omega)).mono ?_; rintro e w1 ⟨rfl, hw⟩; obtain rfl := hw.symm
    rw [e1]
    clear e1
    go_wp2_with fail
    go_ret
    exact ⟨rfl, Below.refl _ _⟩
  have hn : n ≤ 1048576 := by omega
  have e1 : leftS f n 1048576 = 1048576 - (n : Int) - (sumZ f n : Int) := by unfold leftS; rw [if_pos (by omega)]
  have e2 : ¬ leftS f n 1048576 < 0 := by rw [e1]; omega
  have e3 : decide (joinS f n = joinS f n) = true := by simp
  clear e1
  go_enter Try.func4, Try.ntmps4
  go_wp2_with fail
  refine (szStringS_any w A n cap f 1048576 H.out (by omega) (by omega)).mono ?_; rintro e w1 ⟨rfl, hw⟩; obtain rfl := hw.symm
  go_wp2_with fail
  refine (toStringS_any _ _ _ _ f H.out hn).mono ?_; rintro e w1 ⟨rfl, hr1, hb1⟩
  have R1 := Lib.hid hr1
  have B1 := Lib.hid hb1
  clear hr1 hb1
  go_wp2_with fail
  refine (spec_JoinWords _ _ _ _ f (StrsF.of_row R1.out (by omega) H.out.size) hb).mono ?_; rintro e w1' ⟨rfl, hw'⟩; obtain rfl := hw'.symm
  go_wp2_with fail
  refine (toStringS_any _ _ _ _ f (H.out.call B1.out) hn).mono ?_; rintro e w2 ⟨rfl, hr2, hb2⟩
  have R2 := Lib.hid hr2
  have B2 := Lib.hid (B1.out.trans (hb2.mono B1.out.size))
  clear hr2 hb2
  go_wp2_with fail
  refine (impl_JoinWords _ _ _ _ f (StrsF.of_row R2.out (by omega) H.out.size) hb).mono ?_; rintro e w3 ⟨rfl, hb3⟩
  have R3 := Lib.hid (R2.out.call hb3)
  have B3 := Lib.hid (B2.out.trans (hb3.mono B2.out.size))
  clear hb3
  go_wp2_with fail
  refine (toStringS_any _ _ _ _ f (H.out.call B3.out) hn).mono ?_; rintro e w4 ⟨rfl, hr4, hb4⟩
  have R4 := Lib.hid hr4
  have R3' := Lib.hid (R3.out.call hb4)
  have B4 := Lib.hid (B3.out.trans (hb4.mono B3.out.size))
  clear hr4 hb4
  go_wp2_with fail
  refine (eqStringS_same _ _ _ _ _ _ f (StrsF.of_row R3'.out (by omega) H.out.size) (StrsF.of_row R4.out (by omega) H.out.size)).mono ?_; rintro e w5 ⟨rfl, m5, rfl⟩
  go_wp2_with fail
  go_ret
  exact ⟨rfl, B4.out.trans ⟨rfl, rfl, rfl, Nat.le_refl _, fun _ _ => rfl⟩⟩
end Go.Proofs.Ytefofijdpacleaa
