/-
  Slices of unitRules: how they read; contracts of the laws' helpers toUnitRule, eqUnitRule, szUnitRule and of those on slices. (Printed by gen/rec.py.)
-/
import Derived.Test.YtccejhhhengpcaaStrEq
import Derived.Test.YtccejhhhengpcaaWorlds
namespace Go.Proofs.Ytccejhhhengpcaa
open Go.RowKit Go.Sort
set_option linter.unusedVariables false
set_option linter.unusedSimpArgs false

def unitRuleC (fr : Nat → ByteArray) (to : Nat → ByteArray) (nu : Nat → Int) (de : Nat → Int) (j q : Nat) : Value := if q = 0 then .string (fr j) else if q = 1 then .string (to j) else if q = 2 then .int .i64 (nu j) else .int .i64 (de j)
/-- a slice of them -/
structure UnitRuleF (w : World) (A : Option Addr) (n cap : Nat) (fr : Nat → ByteArray) (to : Nat → ByteArray) (nu : Nat → Int) (de : Nat → Int) : Prop where
  sl : SliceF w A n cap 4 (unitRuleC fr to nu de)
  b_nu : ∀ i, i < n → -9223372036854775808 ≤ nu i ∧ nu i ≤ 9223372036854775807
  b_de : ∀ i, i < n → -9223372036854775808 ≤ de i ∧ de i ≤ 9223372036854775807
  z_fr : ∀ i, i < n → (fr i).size ≤ 9223372036854775807
  z_to : ∀ i, i < n → (to i).size ≤ 9223372036854775807
section
variable {w w' : World} {A : Option Addr} {n cap : Nat} {fr : Nat → ByteArray} {to : Nat → ByteArray} {nu : Nat → Int} {de : Nat → Int}
theorem UnitRuleF.call (h : UnitRuleF w A n cap fr to nu de) (hb : Below w.heap.size w w') : UnitRuleF w' A n cap fr to nu de := ⟨h.sl.call hb, h.b_nu, h.b_de, h.z_fr, h.z_to⟩
theorem UnitRuleF.le (h : UnitRuleF w A n cap fr to nu de) : n ≤ 9223372036854775807 := by have := h.sl.max; have := h.sl.le; omega
theorem UnitRuleF.of (h : UnitRuleF w A n cap fr to nu de) {W : World} {B : Option Addr} {c : Nat} (hs : SliceF W B n c 4 (unitRuleC fr to nu de)) : UnitRuleF W B n c fr to nu de := ⟨hs, h.b_nu, h.b_de, h.z_fr, h.z_to⟩
theorem UnitRuleF.short (h : UnitRuleF w A n cap fr to nu de) {m : Nat} (hm : m ≤ n) : UnitRuleF w A m cap fr to nu de := ⟨h.sl.short hm, fun i hi => h.b_nu i (by omega), fun i hi => h.b_de i (by omega), fun i hi => h.z_fr i (by omega), fun i hi => h.z_to i (by omega)⟩
theorem UnitRuleF.cells (h : UnitRuleF w A n cap fr to nu de) {j : Nat} (hj : j < n) : ∃ b o, A = some ⟨b, o, none⟩ ∧ b < w.heap.size ∧ w.cell? ⟨b, o + j * 4, none⟩ = some (.string (fr j)) ∧ w.cell? ⟨b, o + j * 4 + 1, none⟩ = some (.string (to j)) ∧ w.cell? ⟨b, o + j * 4 + 2, none⟩ = some (.int .i64 (nu j)) ∧ w.cell? ⟨b, o + j * 4 + 3, none⟩ = some (.int .i64 (de j)) := by
  obtain ⟨b, o, e, hB, hc⟩ := h.sl.cell j hj
  exact ⟨b, o, e, hB, hc 0 (by omega), hc 1 (by omega), hc 2 (by omega), hc 3 (by omega)⟩
end
theorem UnitRuleF.empty (w : World) (A : Option Addr) (cap : Nat) (h : cap ≤ 9223372036854775807) (fr : Nat → ByteArray) (to : Nat → ByteArray) (nu : Nat → Int) (de : Nat → Int) : UnitRuleF w A 0 cap fr to nu de := ⟨SliceF.empty _ _ _ h _ _, fun i hi => absurd hi (by omega), fun i hi => absurd hi (by omega), fun i hi => absurd hi (by omega), fun i hi => absurd hi (by omega)⟩
theorem toRatio_any (a b : Int) (w : World) :
    Calls Try.prog 58 #[.agg #[.int .i64 a, .int .i64 b]] w fun e w' => e = .returned (.agg #[.int .i64 a, .int .i64 b]) ∧ Below w.heap.size w w' := by
  go_enter Try.func58, Try.ntmps58
  go_wp2
  go_returns
  exact ⟨rfl, by repeat' (first | (with_reducible exact Below.refl _ _) | assumption | (with_reducible refine below_then (by assumption) ?_ ?_) | (with_reducible refine Below.alloc ?_ ?_ _) | (with_reducible refine below_drewN ?_ _) | (with_reducible refine Below.drew ?_) | (with_reducible refine Below.setCell ?_ ?_ _) | omega | (simp; done) | (simp; omega))⟩
theorem eqRatio_same (a b : Int) (w : World) :
    Calls Try.prog 17 #[.agg #[.int .i64 a, .int .i64 b], .agg #[.int .i64 a, .int .i64 b]] w fun e w' => e = .returned (.bool true) ∧ Below w.heap.size w w' := by
  go_enter Try.func17, Try.ntmps17
  go_wp2
  go_ret
  exact ⟨rfl, by repeat' (first | (with_reducible exact Below.refl _ _) | assumption | (with_reducible refine below_then (by assumption) ?_ ?_) | (with_reducible refine Below.alloc ?_ ?_ _) | (with_reducible refine below_drewN ?_ _) | (with_reducible refine Below.drew ?_) | (with_reducible refine Below.setCell ?_ ?_ _) | omega | (simp; done) | (simp; omega))⟩
theorem toUnitRule_any (fr to : ByteArray) (nu de : Int) (w : World) :
    Calls Try.prog 38 #[.agg #[.string fr, .string to, .int .i64 nu, .int .i64 de]] w fun e w' => e = .returned (.agg #[.string fr, .string to, .int .i64 nu, .int .i64 de]) ∧ Below w.heap.size w w' := by
  go_enter Try.func38, Try.ntmps38
  go_wp2_with fail
  refine (toRatio_any _ _ _).mono ?_; rintro e w1 ⟨rfl, hb1⟩
  have hz1 : w.heap.size + 3 ≤ w1.heap.size := by have := hb1.size; first | omega | (simp at this; omega)
  have l1_0 : w.heap.size < w1.heap.size := by omega
  have c1_0_0 : w1.cell? ⟨w.heap.size, 0, none⟩ = some (.string fr) := by rw [hb1.cell (p := ⟨w.heap.size, 0, none⟩) (by go_size)]; first | assumption | (simp [go_sem]; done) | (simp [go_sem, *]; done)
  have f1_0_0 : w1.frozen? ⟨w.heap.size, 0, none⟩ = false := by rw [hb1.frozen (p := ⟨w.heap.size, 0, none⟩) (by go_size)]; first | assumption | (simp [go_sem]; done) | (simp [go_sem, *]; done)
  have c1_0_1 : w1.cell? ⟨w.heap.size, 1, none⟩ = some (.string to) := by rw [hb1.cell (p := ⟨w.heap.size, 1, none⟩) (by go_size)]; first | assumption | (simp [go_sem]; done) | (simp [go_sem, *]; done)
  have f1_0_1 : w1.frozen? ⟨w.heap.size, 1, none⟩ = false := by rw [hb1.frozen (p := ⟨w.heap.size, 1, none⟩) (by go_size)]; first | assumption | (simp [go_sem]; done) | (simp [go_sem, *]; done)
  have c1_0_2 : w1.cell? ⟨w.heap.size, 2, none⟩ = some (.int .i64 nu) := by rw [hb1.cell (p := ⟨w.heap.size, 2, none⟩) (by go_size)]; first | assumption | (simp [go_sem]; done) | (simp [go_sem, *]; done)
  have f1_0_2 : w1.frozen? ⟨w.heap.size, 2, none⟩ = false := by rw [hb1.frozen (p := ⟨w.heap.size, 2, none⟩) (by go_size)]; first | assumption | (simp [go_sem]; done) | (simp [go_sem, *]; done)
  have c1_0_3 : w1.cell? ⟨w.heap.size, 3, none⟩ = some (.int .i64 de) := by rw [hb1.cell (p := ⟨w.heap.size, 3, none⟩) (by go_size)]; first | assumption | (simp [go_sem]; done) | (simp [go_sem, *]; done)
  have f1_0_3 : w1.frozen? ⟨w.heap.size, 3, none⟩ = false := by rw [hb1.frozen (p := ⟨w.heap.size, 3, none⟩) (by go_size)]; first | assumption | (simp [go_sem]; done) | (simp [go_sem, *]; done)
  have l1_1 : w.heap.size + 1 < w1.heap.size := by omega
  have c1_1_0 : w1.cell? ⟨w.heap.size + 1, 0, none⟩ = some (.string ⟨#[]⟩) := by rw [hb1.cell (p := ⟨w.heap.size + 1, 0, none⟩) (by go_size)]; first | assumption | (simp [go_sem]; done) | (simp [go_sem, *]; done)
  have f1_1_0 : w1.frozen? ⟨w.heap.size + 1, 0, none⟩ = false := by rw [hb1.frozen (p := ⟨w.heap.size + 1, 0, none⟩) (by go_size)]; first | assumption | (simp [go_sem]; done) | (simp [go_sem, *]; done)
  have c1_1_1 : w1.cell? ⟨w.heap.size + 1, 1, none⟩ = some (.string ⟨#[]⟩) := by rw [hb1.cell (p := ⟨w.heap.size + 1, 1, none⟩) (by go_size)]; first | assumption | (simp [go_sem]; done) | (simp [go_sem, *]; done)
  have f1_1_1 : w1.frozen? ⟨w.heap.size + 1, 1, none⟩ = false := by rw [hb1.frozen (p := ⟨w.heap.size + 1, 1, none⟩) (by go_size)]; first | assumption | (simp [go_sem]; done) | (simp [go_sem, *]; done)
  have c1_1_2 : w1.cell? ⟨w.heap.size + 1, 2, none⟩ = some (.int .i64 0) := by rw [hb1.cell (p := ⟨w.heap.size + 1, 2, none⟩) (by go_size)]; first | assumption | (simp [go_sem]; done) | (simp [go_sem, *]; done)
  have f1_1_2 : w1.frozen? ⟨w.heap.size + 1, 2, none⟩ = false := by rw [hb1.frozen (p := ⟨w.heap.size + 1, 2, none⟩) (by go_size)]; first | assumption | (simp [go_sem]; done) | (simp [go_sem, *]; done)
  have c1_1_3 : w1.cell? ⟨w.heap.size + 1, 3, none⟩ = some (.int .i64 0) := by rw [hb1.cell (p := ⟨w.heap.size + 1, 3, none⟩) (by go_size)]; first | assumption | (simp [go_sem]; done) | (simp [go_sem, *]; done)
  have f1_1_3 : w1.frozen? ⟨w.heap.size + 1, 3, none⟩ = false := by rw [hb1.frozen (p := ⟨w.heap.size + 1, 3, none⟩) (by go_size)]; first | assumption | (simp [go_sem]; done) | (simp [go_sem, *]; done)
  have l1_2 : w.heap.size + 1 + 1 < w1.heap.size := by omega
  have c1_2_0 : w1.cell? ⟨w.heap.size + 1 + 1, 0, none⟩ = some (.string fr) := by rw [hb1.cell (p := ⟨w.heap.size + 1 + 1, 0, none⟩) (by go_size)]; first | assumption | (simp [go_sem]; done) | (simp [go_sem, *]; done)
  have f1_2_0 : w1.frozen? ⟨w.heap.size + 1 + 1, 0, none⟩ = false := by rw [hb1.frozen (p := ⟨w.heap.size + 1 + 1, 0, none⟩) (by go_size)]; first | assumption | (simp [go_sem]; done) | (simp [go_sem, *]; done)
  have c1_2_1 : w1.cell? ⟨w.heap.size + 1 + 1, 1, none⟩ = some (.string to) := by rw [hb1.cell (p := ⟨w.heap.size + 1 + 1, 1, none⟩) (by go_size)]; first | assumption | (simp [go_sem]; done) | (simp [go_sem, *]; done)
  have f1_2_1 : w1.frozen? ⟨w.heap.size + 1 + 1, 1, none⟩ = false := by rw [hb1.frozen (p := ⟨w.heap.size + 1 + 1, 1, none⟩) (by go_size)]; first | assumption | (simp [go_sem]; done) | (simp [go_sem, *]; done)
  have c1_2_2 : w1.cell? ⟨w.heap.size + 1 + 1, 2, none⟩ = some (.int .i64 0) := by rw [hb1.cell (p := ⟨w.heap.size + 1 + 1, 2, none⟩) (by go_size)]; first | assumption | (simp [go_sem]; done) | (simp [go_sem, *]; done)
  have f1_2_2 : w1.frozen? ⟨w.heap.size + 1 + 1, 2, none⟩ = false := by rw [hb1.frozen (p := ⟨w.heap.size + 1 + 1, 2, none⟩) (by go_size)]; first | assumption | (simp [go_sem]; done) | (simp [go_sem, *]; done)
  have c1_2_3 : w1.cell? ⟨w.heap.size + 1 + 1, 3, none⟩ = some (.int .i64 0) := by rw [hb1.cell (p := ⟨w.heap.size + 1 + 1, 3, none⟩) (by go_size)]; first | assumption | (simp [go_sem]; done) | (simp [go_sem, *]; done)
  have f1_2_3 : w1.frozen? ⟨w.heap.size + 1 + 1, 3, none⟩ = false := by rw [hb1.frozen (p := ⟨w.heap.size + 1 + 1, 3, none⟩) (by go_size)]; first | assumption | (simp [go_sem]; done) | (simp [go_sem, *]; done)
  go_wp2_with fail
  refine bodyPost_ret (by simp [results, Try.results38, go_sem, c1_1_0, c1_1_1, c1_1_2, c1_1_3]; try rfl) rfl ?_
  exact ⟨rfl, by repeat' (first | (with_reducible exact Below.refl _ _) | assumption | (with_reducible refine below_then (by assumption) ?_ ?_) | (with_reducible refine Below.alloc ?_ ?_ _) | (with_reducible refine below_drewN ?_ _) | (with_reducible refine Below.drew ?_) | (with_reducible refine Below.setCell ?_ ?_ _) | omega | (simp; done) | (simp; omega))⟩
theorem eqUnitRule_same (fr to : ByteArray) (nu de : Int) (w : World) :
    Calls Try.prog 42 #[.agg #[.string fr, .string to, .int .i64 nu, .int .i64 de], .agg #[.string fr, .string to, .int .i64 nu, .int .i64 de]] w fun e w' => e = .returned (.bool true) ∧ Below w.heap.size w w' := by
  have e_fr : (fr.toList != fr.toList) = false := by simp
  have e_to : (to.toList != to.toList) = false := by simp
  go_enter Try.func42, Try.ntmps42
  go_wp2_with fail
  refine (eqRatio_same _ _ _).mono ?_; rintro e w1 ⟨rfl, hb1⟩
  have hz1 : w.heap.size + 0 ≤ w1.heap.size := by have := hb1.size; first | omega | (simp at this; omega)
  go_wp2_with fail
  go_ret
  exact ⟨rfl, by repeat' (first | (with_reducible exact Below.refl _ _) | assumption | (with_reducible refine below_then (by assumption) ?_ ?_) | (with_reducible refine Below.alloc ?_ ?_ _) | (with_reducible refine below_drewN ?_ _) | (with_reducible refine Below.drew ?_) | (with_reducible refine Below.setCell ?_ ?_ _) | omega | (simp; done) | (simp; omega))⟩
theorem szUnitRule_any (fr : ByteArray) (to : ByteArray) (nu : Int) (de : Int) (w : World) (k : Int) (hk0 : 0 ≤ k) (hk : k ≤ 1048576) (z_fr : fr.size ≤ 9223372036854775807) (z_to : to.size ≤ 9223372036854775807) :
    Calls Try.prog 34 #[.agg #[.string fr, .string to, .int .i64 nu, .int .i64 de], .int .i64 k] w fun e w' => e = .returned (.int .i64 (if (fr.size : Int) + (to.size : Int) ≤ k then k - ((fr.size : Int) + (to.size : Int)) else -1)) ∧ Below w.heap.size w w' := by
  by_cases h0 : k - (fr.size : Int) < 0
  · rw [if_neg (by omega)]
    go_enter Try.func34, Try.ntmps34
    go_wp2
    go_ret
    exact ⟨rfl, by repeat' (first | (with_reducible exact Below.refl _ _) | assumption | (with_reducible refine below_then (by assumption) ?_ ?_) | (with_reducible refine Below.alloc ?_ ?_ _) | (with_reducible refine below_drewN ?_ _) | (with_reducible refine Below.drew ?_) | (with_reducible refine Below.setCell ?_ ?_ _) | omega | (simp; done) | (simp; omega))⟩
  by_cases h1 : k - (fr.size : Int) - (to.size : Int) < 0
  · rw [if_neg (by omega)]
    go_enter Try.func34, Try.ntmps34
    go_wp2
    go_ret
    exact ⟨rfl, by repeat' (first | (with_reducible exact Below.refl _ _) | assumption | (with_reducible refine below_then (by assumption) ?_ ?_) | (with_reducible refine Below.alloc ?_ ?_ _) | (with_reducible refine below_drewN ?_ _) | (with_reducible refine Below.drew ?_) | (with_reducible refine Below.setCell ?_ ?_ _) | omega | (simp; done) | (simp; omega))⟩
  obtain ⟨t, ht⟩ : ∃ t : Int, t = k - (fr.size : Int) - (to.size : Int) := ⟨_, rfl⟩
  rw [if_pos (by omega), show k - ((fr.size : Int) + (to.size : Int)) = t by omega]
  have ht' : k - (fr.size : Int) - (to.size : Int) = t := ht.symm
  clear ht
  go_enter Try.func34, Try.ntmps34
  go_wp2
  go_ret
  exact ⟨rfl, by repeat' (first | (with_reducible exact Below.refl _ _) | assumption | (with_reducible refine below_then (by assumption) ?_ ?_) | (with_reducible refine Below.alloc ?_ ?_ _) | (with_reducible refine below_drewN ?_ _) | (with_reducible refine Below.drew ?_) | (with_reducible refine Below.setCell ?_ ?_ _) | omega | (simp; done) | (simp; omega))⟩
/-- the sum of the lengths -/
def unitRuleSum (fr : Nat → ByteArray) (to : Nat → ByteArray) : Nat → Nat
  | 0 => 0
  | n + 1 => unitRuleSum fr to n + ((fr n).size + (to n).size)
theorem unitRuleSum_le (fr : Nat → ByteArray) (to : Nat → ByteArray) {i n : Nat} (h : i ≤ n) : unitRuleSum fr to i ≤ unitRuleSum fr to n := by
  induction n with
  | zero => obtain rfl : i = 0 := by omega
            exact Nat.le_refl _
  | succ n ih =>
    by_cases e : i = n + 1
    · subst e; exact Nat.le_refl _
    · have := ih (by omega)
      simp only [unitRuleSum]; omega
def unitRuleLeft (fr : Nat → ByteArray) (to : Nat → ByteArray) (n : Nat) (k : Int) : Int := if (n : Int) + (unitRuleSum fr to n : Int) ≤ k then k - (n : Int) - (unitRuleSum fr to n : Int) else -1
set_option maxHeartbeats 1000000 in
theorem szUnitRuleS_any (w : World) (A : Option Addr) (n c : Nat) (fr : Nat → ByteArray) (to : Nat → ByteArray) (nu : Nat → Int) (de : Nat → Int) (k : Int) (h : UnitRuleF w A n c fr to nu de) (hk0 : 0 ≤ k) (hk : k ≤ 1048576) :
    Calls Try.prog 10 #[.slice A n c, .int .i64 k] w fun e w' => e = .returned (.int .i64 (unitRuleLeft fr to n k)) ∧ Below w.heap.size w w' := by
  have hn := h.le
  obtain ⟨R, hR⟩ : ∃ R, R = unitRuleLeft fr to n k := ⟨_, rfl⟩
  have HR := Lib.hid hR
  rw [← hR]
  clear hR
  have H := Lib.hid h
  clear h
  by_cases h0 : k - (n : Int) < 0
  · have hno : unitRuleLeft fr to n k = -1 := by unfold unitRuleLeft; rw [if_neg (by omega)]
    go_enter Try.func10, Try.ntmps10
    go_wp2_with fail
    go_ret
    exact ⟨ret_int (HR.out.trans hno).symm, Below.refl _ _⟩
  go_enter Try.func10, Try.ntmps10
  go_wp2_with fail
  go_loopw [1, 5] (fun l i wr => ∃ j : Nat, j ≤ n ∧ i = .int .i64 (j : Int) ∧ (∃ z : Int, l = .int .i64 z ∧ 0 ≤ z ∧ z ≤ 1048576 ∧ z + (n : Int) + (unitRuleSum fr to j : Int) = k) ∧ Below w.heap.size w wr) (fun _ i _ => n - (intOf i).toNat)
  case atStart => exact ⟨0, Nat.zero_le _, rfl, ⟨k - n, rfl, by omega, by omega, by simp [unitRuleSum]⟩, Below.refl _ _⟩
  case round =>
    obtain ⟨j, hj, rfl, ⟨z, rfl, hz0, hz1, hz⟩, hbe⟩ := hrel
    have HZ := Lib.hid hz
    have BE := Lib.hid hbe
    clear hz hbe
    by_cases hlt : j < n
    · have hlt' : (j : Int) < (n : Int) := by omega
      obtain ⟨b, o, rfl, hB, c0, c1, c2, c3⟩ := (H.out.call BE.out).cells hlt
      have s_fr := H.out.z_fr j hlt
      have s_to := H.out.z_to j hlt
      have hle2 := unitRuleSum_le fr to (show j + 1 ≤ n by omega)
      by_cases hneg : ((fr j).size : Int) + ((to j).size : Int) ≤ z
      · have sz := szUnitRule_any (fr j) (to j) (nu j) (de j) wr z hz0 hz1 s_fr s_to
        rw [if_pos hneg] at sz
        have SZ := Lib.hid sz
        clear sz
        obtain ⟨t, ht⟩ : ∃ t : Int, t = z - (((fr j).size : Int) + ((to j).size : Int)) := ⟨_, rfl⟩
        rw [← ht] at SZ
        have t0 : ¬ t < 0 := by omega
        have t1 : t + (n : Int) + (unitRuleSum fr to (j + 1) : Int) = k := by have := HZ.out; simp only [unitRuleSum]; omega
        have t2 : t ≤ 1048576 := by omega
        have T1 := Lib.hid t1
        clear t1 hle2 ht hneg
        go_wp2_with fail
        refine SZ.out.mono ?_; rintro e w2 ⟨rfl, hb2⟩
        have BE2 := Lib.hid (BE.out.trans (hb2.mono BE.out.size))
        clear hb2
        go_wp2_with fail
        go_roundw
        case rel => exact ⟨j + 1, by omega, by go_num, ⟨_, rfl, by omega, by omega, T1.out⟩, BE2.out⟩
        case measure => simp [intOf]; omega
      · have hno : unitRuleLeft fr to n k = -1 := by unfold unitRuleLeft; rw [if_neg (by have := HZ.out; simp only [unitRuleSum] at hle2; omega)]
        have sz := szUnitRule_any (fr j) (to j) (nu j) (de j) wr z hz0 hz1 s_fr s_to
        rw [if_neg hneg] at sz
        have SZ := Lib.hid sz
        clear sz hle2 hneg
        go_wp2_with fail
        refine SZ.out.mono ?_; rintro e w2 ⟨rfl, hb2⟩
        have BE2 := Lib.hid (BE.out.trans (hb2.mono BE.out.size))
        clear hb2
        go_wp2_with fail
        go_ret
        exact ⟨ret_int (HR.out.trans hno).symm, BE2.out⟩
    · obtain rfl : j = n := by omega
      have hyes : unitRuleLeft fr to j k = z := by unfold unitRuleLeft; rw [if_pos (by have := HZ.out; omega)]; have := HZ.out; omega
      go_wp2_with fail
      go_ret
      exact ⟨ret_int (HR.out.trans hyes).symm, BE.out⟩
theorem unitRule_info : (Try.prog.info? 59).map (fun i => (i.zero, i.size, i.bytes)) = some (some (.agg #[.string ByteArray.empty, .string ByteArray.empty, .int .i64 0, .int .i64 0]), 4, 48) := by kernel_rfl
def unitRuleZ (i : Nat) : Value := if i % 4 = 0 then Value.string ByteArray.empty else if i % 4 = 1 then Value.string ByteArray.empty else if i % 4 = 2 then Value.int .i64 0 else Value.int .i64 0
theorem made_unitRule {n : Nat} {T : TypeId} {w : World} {g base : Nat} (h : w.ownsRow base T 4 (.slice (some ⟨g, 0, none⟩) n n) n (madeCells #[Value.string ByteArray.empty, Value.string ByteArray.empty, Value.int .i64 0, Value.int .i64 0] (n * 4)).toList) : Row w g T (n * 4) unitRuleZ := by
  obtain ⟨cs, hh, hs, hn, ht⟩ := row_ownS h
  refine ⟨cs, hh, by omega, fun i hi => ?_⟩
  have h1 : (cs.toList.take (n * 4))[i]? = (madeCells #[Value.string ByteArray.empty, Value.string ByteArray.empty, Value.int .i64 0, Value.int .i64 0] (n * 4)).toList[i]? := by rw [ht]
  rw [List.getElem?_take, if_pos hi] at h1
  have h2 : (madeCells #[Value.string ByteArray.empty, Value.string ByteArray.empty, Value.int .i64 0, Value.int .i64 0] (n * 4))[i]? = some (unitRuleZ i) := by
    have hm : i % 4 < 4 := Nat.mod_lt _ (by omega)
    simp only [madeCells, unitRuleZ]
    have e : (#[Value.string ByteArray.empty, Value.string ByteArray.empty, Value.int .i64 0, Value.int .i64 0] : Array Value).size = 4 := rfl
    rcases (by omega : i % 4 = 0 ∨ i % 4 = 1 ∨ i % 4 = 2 ∨ i % 4 = 3) with h | h | h | h <;> simp [hi, h]
  simpa [h2] using h1
/-- a new slice of them -/
def NewUnitRule (w : World) (n : Nat) (fr : Nat → ByteArray) (to : Nat → ByteArray) (nu : Nat → Int) (de : Nat → Int) (e : Ending) (w' : World) : Prop :=
  ∃ g, e = .returned (.slice (some ⟨g, 0, none⟩) n n) ∧ w.heap.size ≤ g ∧ UnitRuleF w' (some ⟨g, 0, none⟩) n n fr to nu de ∧ Row w' g 59 (n * 4) (fun i => unitRuleC fr to nu de (i / 4) (i % 4)) ∧ Below w.heap.size w w'
set_option maxHeartbeats 1000000 in
theorem toUnitRuleS_any (w : World) (A : Option Addr) (n c : Nat) (fr : Nat → ByteArray) (to : Nat → ByteArray) (nu : Nat → Int) (de : Nat → Int) (h : UnitRuleF w A n c fr to nu de) (hn : n ≤ 1048576) :
    Calls Try.prog 12 #[.slice A n c] w (NewUnitRule w n fr to nu de) := by
  have H := Lib.hid h
  clear h
  obtain ⟨i0, hi, hz0, hz1, hz2⟩ := info_parts unitRule_info
  go_enter Try.func12, Try.ntmps12
  go_wp2_with (refine wpList_make_full _ rfl _ _ 25 rfl w.heap.size 59 i0 (.agg #[.string ByteArray.empty, .string ByteArray.empty, .int .i64 0, .int .i64 0]) 4 Try.underlying25 hi hz0 hz1 .i64 .i64 _ _ n rfl rfl rfl rfl (by rw [hz2]; omega) (by unfold maxLen; omega) (Nat.le_refl _) ?_)
  intro w1 hown hgrow
  have hrow := made_unitRule hown
  have hb1 : Below w.heap.size w w1 := ⟨hgrow.os, hgrow.tape, hgrow.output, hgrow.size, fun i hi => hgrow.block i hi (by simp)⟩
  clear hown hgrow
  go_wp2_with fail
  go_loopw [4] (fun i wr => ∃ k : Nat, k ≤ n ∧ i = .int .i64 (k : Int) ∧ Row wr w.heap.size 59 (n * 4) (fun j => if j < k * 4 then unitRuleC fr to nu de (j / 4) (j % 4) else unitRuleZ j) ∧ Below w.heap.size w wr) (fun i _ => n - (intOf i).toNat)
  case atStart => exact ⟨0, Nat.zero_le _, rfl, hrow.congr (fun i _ => by simp), hb1⟩
  case round =>
    clear hrow hb1
    obtain ⟨k, hk, rfl, hrow, hbel⟩ := hrel
    have R := Lib.hid hrow
    have BE := Lib.hid hbel
    clear hrow hbel
    by_cases hlt : k < n
    · have hlt' : (k : Int) < (n : Int) := by omega
      obtain ⟨b, o, rfl, hB, c0, c1, c2, c3⟩ := (H.out.call BE.out).cells hlt
      go_wp2_with fail
      refine (toUnitRule_any (fr k) (to k) (nu k) (de k) _).mono ?_; rintro e w2 ⟨rfl, hb2⟩
      have R2 := Lib.hid (R.out.call hb2)
      have BE2 := Lib.hid (BE.out.trans (hb2.mono BE.out.size))
      clear hb2 c0 c1 c2 c3
      have g0 : w2.cell? ⟨w.heap.size, k * 4, none⟩ = some (.string ByteArray.empty) := (R2.out.cell (by omega)).trans (by rw [if_neg (by omega)]; unfold unitRuleZ; rw [if_pos (by omega)])
      have f0 := R2.out.frozen (k * 4)
      have g1 : w2.cell? ⟨w.heap.size, k * 4 + 1, none⟩ = some (.string ByteArray.empty) := (R2.out.cell (by omega)).trans (by rw [if_neg (by omega)]; unfold unitRuleZ; rw [if_neg (by omega)]; rw [if_pos (by omega)])
      have f1 := R2.out.frozen (k * 4 + 1)
      have g2 : w2.cell? ⟨w.heap.size, k * 4 + 2, none⟩ = some (.int .i64 0) := (R2.out.cell (by omega)).trans (by rw [if_neg (by omega)]; unfold unitRuleZ; rw [if_neg (by omega)]; rw [if_neg (by omega)]; rw [if_pos (by omega)])
      have f2 := R2.out.frozen (k * 4 + 2)
      have g3 : w2.cell? ⟨w.heap.size, k * 4 + 3, none⟩ = some (.int .i64 0) := (R2.out.cell (by omega)).trans (by rw [if_neg (by omega)]; unfold unitRuleZ; rw [if_neg (by omega)]; rw [if_neg (by omega)]; rw [if_neg (by omega)]; skip)
      have f3 := R2.out.frozen (k * 4 + 3)
      go_wp2_with fail
      go_roundw
      case rel =>
        refine ⟨k + 1, by omega, by go_num, ((((R2.out.set (k * 4) _).set (k * 4 + 1) _).set (k * 4 + 2) _).set (k * 4 + 3) _).congr (fun j hj => ?_), (Below.setCell (Below.setCell (Below.setCell (Below.setCell BE2.out (Nat.le_refl _) _) (Nat.le_refl _) _) (Nat.le_refl _) _) (Nat.le_refl _) _)⟩
        by_cases e3 : j = k * 4 + 3
        · subst e3
          have d1 : (k * 4 + 3) / 4 = k := by omega
          have d2 : (k * 4 + 3) % 4 = 3 := by omega
          rw [if_pos rfl, if_pos (by omega), d1, d2]; rfl
        rw [if_neg e3]
        by_cases e2 : j = k * 4 + 2
        · subst e2
          have d1 : (k * 4 + 2) / 4 = k := by omega
          have d2 : (k * 4 + 2) % 4 = 2 := by omega
          rw [if_pos rfl, if_pos (by omega), d1, d2]; rfl
        rw [if_neg e2]
        by_cases e1 : j = k * 4 + 1
        · subst e1
          have d1 : (k * 4 + 1) / 4 = k := by omega
          have d2 : (k * 4 + 1) % 4 = 1 := by omega
          rw [if_pos rfl, if_pos (by omega), d1, d2]; rfl
        rw [if_neg e1]
        by_cases e0 : j = k * 4
        · subst e0
          have d1 : (k * 4) / 4 = k := by omega
          have d2 : (k * 4) % 4 = 0 := by omega
          rw [if_pos rfl, if_pos (by omega), d1, d2]; rfl
        rw [if_neg e0]
        by_cases e9 : j < k * 4
        · rw [if_pos e9, if_pos (by omega)]
        · rw [if_neg e9, if_neg (by omega)]
      case measure => simp [intOf]; omega
    · obtain rfl : k = n := by omega
      go_wp2_with fail
      go_ret
      have hr := R.out.congr (f' := fun i => unitRuleC fr to nu de (i / 4) (i % 4)) (fun j hj => by rw [if_pos hj])
      refine ⟨_, rfl, Nat.le_refl _, H.out.of (SliceF.of_row hr (by omega) (Nat.le_refl _) (fun j q hj hq => ?_)), hr, BE.out⟩
      have d1 : (j * 4 + q) / 4 = j := by omega
      have d2 : (j * 4 + q) % 4 = q := by omega
      rw [d1, d2]
set_option maxHeartbeats 1000000 in
theorem eqUnitRuleS_same (w : World) (A A' : Option Addr) (n c c' : Nat) (fr : Nat → ByteArray) (to : Nat → ByteArray) (nu : Nat → Int) (de : Nat → Int) (h : UnitRuleF w A n c fr to nu de) (h' : UnitRuleF w A' n c' fr to nu de) :
    Calls Try.prog 14 #[.slice A n c, .slice A' n c'] w fun e w' => e = .returned (.bool true) ∧ Below w.heap.size w w' := by
  have hm := h.le
  have H := Lib.hid h
  have H' := Lib.hid h'
  clear h h'
  go_enter Try.func14, Try.ntmps14
  go_wp2_with fail
  go_loopw [5] (fun i wr => ∃ k : Nat, k ≤ n ∧ i = .int .i64 (k : Int) ∧ Below w.heap.size w wr) (fun i _ => n - (intOf i).toNat)
  case atStart => exact ⟨0, Nat.zero_le _, rfl, Below.refl _ _⟩
  case round =>
    obtain ⟨k, hk, rfl, hbel⟩ := hrel
    have BE := Lib.hid hbel
    clear hbel
    by_cases hlt : k < n
    · have hlt' : (k : Int) < (n : Int) := by omega
      obtain ⟨b, o, rfl, hB, c0, c1, c2, c3⟩ := (H.out.call BE.out).cells hlt
      obtain ⟨b', o', rfl, hB', d0, d1, d2, d3⟩ := (H'.out.call BE.out).cells hlt
      have gc0 := fun d os => cell_regrown c0 d os
      have gd0 := fun d os => cell_regrown d0 d os
      have gc1 := fun d os => cell_regrown c1 d os
      have gd1 := fun d os => cell_regrown d1 d os
      have gc2 := fun d os => cell_regrown c2 d os
      have gd2 := fun d os => cell_regrown d2 d os
      have gc3 := fun d os => cell_regrown c3 d os
      have gd3 := fun d os => cell_regrown d3 d os
      go_wp2_with fail
      refine wp_region_quiet_below (by kernel_rfl) (by kernel_rfl) ?_
      repeat (first | go_big_quiet_step ((go_at_call 42; exact Calls.regrown_of (eqUnitRule_same _ _ _ _ _))) | quiet_step ((go_at_call 42; exact Calls.regrown_of (eqUnitRule_same _ _ _ _ _))))
      refine wpQuiet_nil ?_
      intro _ hw'
      obtain ⟨⟨dq, osq⟩, hw''⟩ := hw'
      subst hw''
      have BE2 := Lib.hid (BE.out.trans ((below_regrown wr dq osq).mono BE.out.size))
      go_wp2_with fail
      go_roundw
      case rel => exact ⟨k + 1, by omega, by go_num, BE2.out⟩
      case measure => simp [intOf]; omega
    · obtain rfl : k = n := by omega
      go_wp2_with fail
      go_ret
      exact ⟨rfl, BE.out⟩
end Go.Proofs.Ytccejhhhengpcaa
