/-
  Slices of condNodes: how they read; contracts of the laws' helpers toCondNode, eqCondNode, szCondNode and of those on slices. (Printed by gen/rec.py.)
-/
import Derived.Test.YtkkhaamklbolmaaStrEq
import Derived.Test.YtkkhaamklbolmaaWorlds
namespace Go.Proofs.Ytkkhaamklbolmaa
open Go.RowKit Go.Sort
set_option linter.unusedVariables false
set_option linter.unusedSimpArgs false

def condNodeC (kd : Nat → Int) (op : Nat → ByteArray) (vl : Nat → ByteArray) (j q : Nat) : Value := if q = 0 then .int .i64 (kd j) else if q = 1 then .string (op j) else .string (vl j)
/-- a slice of them -/
structure CondNodeF (w : World) (A : Option Addr) (n cap : Nat) (kd : Nat → Int) (op : Nat → ByteArray) (vl : Nat → ByteArray) : Prop where
  sl : SliceF w A n cap 3 (condNodeC kd op vl)
  b_kd : ∀ i, i < n → -9223372036854775808 ≤ kd i ∧ kd i ≤ 9223372036854775807
  z_op : ∀ i, i < n → (op i).size ≤ 9223372036854775807
  z_vl : ∀ i, i < n → (vl i).size ≤ 9223372036854775807
section
variable {w w' : World} {A : Option Addr} {n cap : Nat} {kd : Nat → Int} {op : Nat → ByteArray} {vl : Nat → ByteArray}
theorem CondNodeF.call (h : CondNodeF w A n cap kd op vl) (hb : Below w.heap.size w w') : CondNodeF w' A n cap kd op vl := ⟨h.sl.call hb, h.b_kd, h.z_op, h.z_vl⟩
theorem CondNodeF.le (h : CondNodeF w A n cap kd op vl) : n ≤ 9223372036854775807 := by have := h.sl.max; have := h.sl.le; omega
theorem CondNodeF.of (h : CondNodeF w A n cap kd op vl) {W : World} {B : Option Addr} {c : Nat} (hs : SliceF W B n c 3 (condNodeC kd op vl)) : CondNodeF W B n c kd op vl := ⟨hs, h.b_kd, h.z_op, h.z_vl⟩
theorem CondNodeF.short (h : CondNodeF w A n cap kd op vl) {m : Nat} (hm : m ≤ n) : CondNodeF w A m cap kd op vl := ⟨h.sl.short hm, fun i hi => h.b_kd i (by omega), fun i hi => h.z_op i (by omega), fun i hi => h.z_vl i (by omega)⟩
theorem CondNodeF.cells (h : CondNodeF w A n cap kd op vl) {j : Nat} (hj : j < n) : ∃ b o, A = some ⟨b, o, none⟩ ∧ b < w.heap.size ∧ w.cell? ⟨b, o + j * 3, none⟩ = some (.int .i64 (kd j)) ∧ w.cell? ⟨b, o + j * 3 + 1, none⟩ = some (.string (op j)) ∧ w.cell? ⟨b, o + j * 3 + 2, none⟩ = some (.string (vl j)) := by
  obtain ⟨b, o, e, hB, hc⟩ := h.sl.cell j hj
  exact ⟨b, o, e, hB, hc 0 (by omega), hc 1 (by omega), hc 2 (by omega)⟩
end
theorem CondNodeF.empty (w : World) (A : Option Addr) (cap : Nat) (h : cap ≤ 9223372036854775807) (kd : Nat → Int) (op : Nat → ByteArray) (vl : Nat → ByteArray) : CondNodeF w A 0 cap kd op vl := ⟨SliceF.empty _ _ _ h _ _, fun i hi => absurd hi (by omega), fun i hi => absurd hi (by omega), fun i hi => absurd hi (by omega)⟩
theorem toCondNode_any (kd : Int) (op : ByteArray) (vl : ByteArray) (w : World) :
    Calls Try.prog 54 #[.agg #[.int .i64 kd, .string op, .string vl]] w fun e w' => e = .returned (.agg #[.int .i64 kd, .string op, .string vl]) ∧ Below w.heap.size w w' := by
  go_enter Try.func54, Try.ntmps54
  go_wp2
  go_returns
  exact ⟨rfl, by repeat' (first | (with_reducible exact Below.refl _ _) | assumption | (with_reducible refine below_then (by assumption) ?_ ?_) | (with_reducible refine Below.alloc ?_ ?_ _) | (with_reducible refine below_drewN ?_ _) | (with_reducible refine Below.drew ?_) | (with_reducible refine Below.setCell ?_ ?_ _) | omega | (simp; done) | (simp; omega))⟩
theorem eqCondNode_same (kd : Int) (op : ByteArray) (vl : ByteArray) (w : World) :
    Calls Try.prog 57 #[.agg #[.int .i64 kd, .string op, .string vl], .agg #[.int .i64 kd, .string op, .string vl]] w fun e w' => e = .returned (.bool true) ∧ Below w.heap.size w w' := by
  have e_op : (op.toList != op.toList) = false := by simp
  have e_vl : (vl.toList != vl.toList) = false := by simp
  go_enter Try.func57, Try.ntmps57
  go_wp2
  go_ret
  exact ⟨rfl, by repeat' (first | (with_reducible exact Below.refl _ _) | assumption | (with_reducible refine below_then (by assumption) ?_ ?_) | (with_reducible refine Below.alloc ?_ ?_ _) | (with_reducible refine below_drewN ?_ _) | (with_reducible refine Below.drew ?_) | (with_reducible refine Below.setCell ?_ ?_ _) | omega | (simp; done) | (simp; omega))⟩
theorem szCondNode_any (kd : Int) (op : ByteArray) (vl : ByteArray) (w : World) (k : Int) (hk0 : 0 ≤ k) (hk : k ≤ 1048576) (z_op : op.size ≤ 9223372036854775807) (z_vl : vl.size ≤ 9223372036854775807) :
    Calls Try.prog 52 #[.agg #[.int .i64 kd, .string op, .string vl], .int .i64 k] w fun e w' => e = .returned (.int .i64 (if (op.size : Int) + (vl.size : Int) ≤ k then k - ((op.size : Int) + (vl.size : Int)) else -1)) ∧ Below w.heap.size w w' := by
  by_cases h0 : k - (op.size : Int) < 0
  · rw [if_neg (by omega)]
    go_enter Try.func52, Try.ntmps52
    go_wp2
    go_ret
    exact ⟨rfl, by repeat' (first | (with_reducible exact Below.refl _ _) | assumption | (with_reducible refine below_then (by assumption) ?_ ?_) | (with_reducible refine Below.alloc ?_ ?_ _) | (with_reducible refine below_drewN ?_ _) | (with_reducible refine Below.drew ?_) | (with_reducible refine Below.setCell ?_ ?_ _) | omega | (simp; done) | (simp; omega))⟩
  by_cases h1 : k - (op.size : Int) - (vl.size : Int) < 0
  · rw [if_neg (by omega)]
    go_enter Try.func52, Try.ntmps52
    go_wp2
    go_ret
    exact ⟨rfl, by repeat' (first | (with_reducible exact Below.refl _ _) | assumption | (with_reducible refine below_then (by assumption) ?_ ?_) | (with_reducible refine Below.alloc ?_ ?_ _) | (with_reducible refine below_drewN ?_ _) | (with_reducible refine Below.drew ?_) | (with_reducible refine Below.setCell ?_ ?_ _) | omega | (simp; done) | (simp; omega))⟩
  obtain ⟨t, ht⟩ : ∃ t : Int, t = k - (op.size : Int) - (vl.size : Int) := ⟨_, rfl⟩
  rw [if_pos (by omega), show k - ((op.size : Int) + (vl.size : Int)) = t by omega]
  have ht' : k - (op.size : Int) - (vl.size : Int) = t := ht.symm
  clear ht
  go_enter Try.func52, Try.ntmps52
  go_wp2
  go_ret
  exact ⟨rfl, by repeat' (first | (with_reducible exact Below.refl _ _) | assumption | (with_reducible refine below_then (by assumption) ?_ ?_) | (with_reducible refine Below.alloc ?_ ?_ _) | (with_reducible refine below_drewN ?_ _) | (with_reducible refine Below.drew ?_) | (with_reducible refine Below.setCell ?_ ?_ _) | omega | (simp; done) | (simp; omega))⟩
/-- the sum of the lengths -/
def condNodeSum (op : Nat → ByteArray) (vl : Nat → ByteArray) : Nat → Nat
  | 0 => 0
  | n + 1 => condNodeSum op vl n + ((op n).size + (vl n).size)
theorem condNodeSum_le (op : Nat → ByteArray) (vl : Nat → ByteArray) {i n : Nat} (h : i ≤ n) : condNodeSum op vl i ≤ condNodeSum op vl n := by
  induction n with
  | zero => obtain rfl : i = 0 := by omega
            exact Nat.le_refl _
  | succ n ih =>
    by_cases e : i = n + 1
    · subst e; exact Nat.le_refl _
    · have := ih (by omega)
      simp only [condNodeSum]; omega
def condNodeLeft (op : Nat → ByteArray) (vl : Nat → ByteArray) (n : Nat) (k : Int) : Int := if (n : Int) + (condNodeSum op vl n : Int) ≤ k then k - (n : Int) - (condNodeSum op vl n : Int) else -1
set_option maxHeartbeats 1000000 in
theorem szCondNodeS_any (w : World) (A : Option Addr) (n c : Nat) (kd : Nat → Int) (op : Nat → ByteArray) (vl : Nat → ByteArray) (k : Int) (h : CondNodeF w A n c kd op vl) (hk0 : 0 ≤ k) (hk : k ≤ 1048576) :
    Calls Try.prog 13 #[.slice A n c, .int .i64 k] w fun e w' => e = .returned (.int .i64 (condNodeLeft op vl n k)) ∧ Below w.heap.size w w' := by
  have hn := h.le
  obtain ⟨R, hR⟩ : ∃ R, R = condNodeLeft op vl n k := ⟨_, rfl⟩
  have HR := Lib.hid hR
  rw [← hR]
  clear hR
  have H := Lib.hid h
  clear h
  by_cases h0 : k - (n : Int) < 0
  · have hno : condNodeLeft op vl n k = -1 := by unfold condNodeLeft; rw [if_neg (by omega)]
    go_enter Try.func13, Try.ntmps13
    go_wp2_with fail
    go_ret
    exact ⟨ret_int (HR.out.trans hno).symm, Below.refl _ _⟩
  go_enter Try.func13, Try.ntmps13
  go_wp2_with fail
  go_loopw [1, 5] (fun l i wr => ∃ j : Nat, j ≤ n ∧ i = .int .i64 (j : Int) ∧ (∃ z : Int, l = .int .i64 z ∧ 0 ≤ z ∧ z ≤ 1048576 ∧ z + (n : Int) + (condNodeSum op vl j : Int) = k) ∧ Below w.heap.size w wr) (fun _ i _ => n - (intOf i).toNat)
  case atStart => exact ⟨0, Nat.zero_le _, rfl, ⟨k - n, rfl, by omega, by omega, by simp [condNodeSum]⟩, Below.refl _ _⟩
  case round =>
    obtain ⟨j, hj, rfl, ⟨z, rfl, hz0, hz1, hz⟩, hbe⟩ := hrel
    have HZ := Lib.hid hz
    have BE := Lib.hid hbe
    clear hz hbe
    by_cases hlt : j < n
    · have hlt' : (j : Int) < (n : Int) := by omega
      obtain ⟨b, o, rfl, hB, c0, c1, c2⟩ := (H.out.call BE.out).cells hlt
      have s_op := H.out.z_op j hlt
      have s_vl := H.out.z_vl j hlt
      have hle2 := condNodeSum_le op vl (show j + 1 ≤ n by omega)
      by_cases hneg : ((op j).size : Int) + ((vl j).size : Int) ≤ z
      · have sz := szCondNode_any (kd j) (op j) (vl j) wr z hz0 hz1 s_op s_vl
        rw [if_pos hneg] at sz
        have SZ := Lib.hid sz
        clear sz
        obtain ⟨t, ht⟩ : ∃ t : Int, t = z - (((op j).size : Int) + ((vl j).size : Int)) := ⟨_, rfl⟩
        rw [← ht] at SZ
        have t0 : ¬ t < 0 := by omega
        have t1 : t + (n : Int) + (condNodeSum op vl (j + 1) : Int) = k := by have := HZ.out; simp only [condNodeSum]; omega
        have t2 : t ≤ 1048576 := by omega
        have T1 := Lib.hid t1
        clear t1 hle2 ht hneg
        go_wp2_with fail
        refine SZ.out.mono ?_; rintro e w2 ⟨rfl, hb2⟩
        have BE2 := Lib.hid (BE.out.trans (hb2.mono BE.out.size))
        clear hb2
        go_wp2_with fail
        go_roundw
        case rel => exact ⟨j + 1, by omega, by go_num, ⟨_, rfl, by omega, by omega, T1.out⟩, BE2.out⟩
        case measure => simp [intOf]; omega
      · have hno : condNodeLeft op vl n k = -1 := by unfold condNodeLeft; rw [if_neg (by have := HZ.out; simp only [condNodeSum] at hle2; omega)]
        have sz := szCondNode_any (kd j) (op j) (vl j) wr z hz0 hz1 s_op s_vl
        rw [if_neg hneg] at sz
        have SZ := Lib.hid sz
        clear sz hle2 hneg
        go_wp2_with fail
        refine SZ.out.mono ?_; rintro e w2 ⟨rfl, hb2⟩
        have BE2 := Lib.hid (BE.out.trans (hb2.mono BE.out.size))
        clear hb2
        go_wp2_with fail
        go_ret
        exact ⟨ret_int (HR.out.trans hno).symm, BE2.out⟩
    · obtain rfl : j = n := by omega
      have hyes : condNodeLeft op vl j k = z := by unfold condNodeLeft; rw [if_pos (by have := HZ.out; omega)]; have := HZ.out; omega
      go_wp2_with fail
      go_ret
      exact ⟨ret_int (HR.out.trans hyes).symm, BE.out⟩
theorem condNode_info : (Try.prog.info? 54).map (fun i => (i.zero, i.size, i.bytes)) = some (some (.agg #[.int .i64 0, .string ByteArray.empty, .string ByteArray.empty]), 3, 40) := by kernel_rfl
def condNodeZ (i : Nat) : Value := if i % 3 = 0 then Value.int .i64 0 else if i % 3 = 1 then Value.string ByteArray.empty else Value.string ByteArray.empty
theorem made_condNode {n : Nat} {T : TypeId} {w : World} {g base : Nat} (h : w.ownsRow base T 3 (.slice (some ⟨g, 0, none⟩) n n) n (madeCells #[Value.int .i64 0, Value.string ByteArray.empty, Value.string ByteArray.empty] (n * 3)).toList) : Row w g T (n * 3) condNodeZ := by
  obtain ⟨cs, hh, hs, hn, ht⟩ := row_ownS h
  refine ⟨cs, hh, by omega, fun i hi => ?_⟩
  have h1 : (cs.toList.take (n * 3))[i]? = (madeCells #[Value.int .i64 0, Value.string ByteArray.empty, Value.string ByteArray.empty] (n * 3)).toList[i]? := by rw [ht]
  rw [List.getElem?_take, if_pos hi] at h1
  have h2 : (madeCells #[Value.int .i64 0, Value.string ByteArray.empty, Value.string ByteArray.empty] (n * 3))[i]? = some (condNodeZ i) := by
    have hm : i % 3 < 3 := Nat.mod_lt _ (by omega)
    simp only [madeCells, condNodeZ]
    have e : (#[Value.int .i64 0, Value.string ByteArray.empty, Value.string ByteArray.empty] : Array Value).size = 3 := rfl
    rcases (by omega : i % 3 = 0 ∨ i % 3 = 1 ∨ i % 3 = 2) with h | h | h <;> simp [hi, h]
  simpa [h2] using h1
/-- a new slice of them -/
def NewCondNode (w : World) (n : Nat) (kd : Nat → Int) (op : Nat → ByteArray) (vl : Nat → ByteArray) (e : Ending) (w' : World) : Prop :=
  ∃ g, e = .returned (.slice (some ⟨g, 0, none⟩) n n) ∧ w.heap.size ≤ g ∧ CondNodeF w' (some ⟨g, 0, none⟩) n n kd op vl ∧ Row w' g 54 (n * 3) (fun i => condNodeC kd op vl (i / 3) (i % 3)) ∧ Below w.heap.size w w'
set_option maxHeartbeats 1000000 in
theorem toCondNodeS_any (w : World) (A : Option Addr) (n c : Nat) (kd : Nat → Int) (op : Nat → ByteArray) (vl : Nat → ByteArray) (h : CondNodeF w A n c kd op vl) (hn : n ≤ 1048576) :
    Calls Try.prog 15 #[.slice A n c] w (NewCondNode w n kd op vl) := by
  have H := Lib.hid h
  clear h
  obtain ⟨i0, hi, hz0, hz1, hz2⟩ := info_parts condNode_info
  go_enter Try.func15, Try.ntmps15
  go_wp2_with (refine wpList_make_full _ rfl _ _ 25 rfl w.heap.size 54 i0 (.agg #[.int .i64 0, .string ByteArray.empty, .string ByteArray.empty]) 3 Try.underlying25 hi hz0 hz1 .i64 .i64 _ _ n rfl rfl rfl rfl (by rw [hz2]; omega) (by unfold maxLen; omega) (Nat.le_refl _) ?_)
  intro w1 hown hgrow
  have hrow := made_condNode hown
  have hb1 : Below w.heap.size w w1 := ⟨hgrow.os, hgrow.tape, hgrow.output, hgrow.size, fun i hi => hgrow.block i hi (by simp)⟩
  clear hown hgrow
  go_wp2_with fail
  go_loopw [4] (fun i wr => ∃ k : Nat, k ≤ n ∧ i = .int .i64 (k : Int) ∧ Row wr w.heap.size 54 (n * 3) (fun j => if j < k * 3 then condNodeC kd op vl (j / 3) (j % 3) else condNodeZ j) ∧ Below w.heap.size w wr) (fun i _ => n - (intOf i).toNat)
  case atStart => exact ⟨0, Nat.zero_le _, rfl, hrow.congr (fun i _ => by simp), hb1⟩
  case round =>
    clear hrow hb1
    obtain ⟨k, hk, rfl, hrow, hbel⟩ := hrel
    have R := Lib.hid hrow
    have BE := Lib.hid hbel
    clear hrow hbel
    by_cases hlt : k < n
    · have hlt' : (k : Int) < (n : Int) := by omega
      obtain ⟨b, o, rfl, hB, c0, c1, c2⟩ := (H.out.call BE.out).cells hlt
      go_wp2_with fail
      refine (toCondNode_any (kd k) (op k) (vl k) _).mono ?_; rintro e w2 ⟨rfl, hb2⟩
      have R2 := Lib.hid (R.out.call hb2)
      have BE2 := Lib.hid (BE.out.trans (hb2.mono BE.out.size))
      clear hb2 c0 c1 c2
      have g0 : w2.cell? ⟨w.heap.size, k * 3, none⟩ = some (.int .i64 0) := (R2.out.cell (by omega)).trans (by rw [if_neg (by omega)]; unfold condNodeZ; rw [if_pos (by omega)])
      have f0 := R2.out.frozen (k * 3)
      have g1 : w2.cell? ⟨w.heap.size, k * 3 + 1, none⟩ = some (.string ByteArray.empty) := (R2.out.cell (by omega)).trans (by rw [if_neg (by omega)]; unfold condNodeZ; rw [if_neg (by omega)]; rw [if_pos (by omega)])
      have f1 := R2.out.frozen (k * 3 + 1)
      have g2 : w2.cell? ⟨w.heap.size, k * 3 + 2, none⟩ = some (.string ByteArray.empty) := (R2.out.cell (by omega)).trans (by rw [if_neg (by omega)]; unfold condNodeZ; rw [if_neg (by omega)]; rw [if_neg (by omega)]; skip)
      have f2 := R2.out.frozen (k * 3 + 2)
      go_wp2_with fail
      go_roundw
      case rel =>
        refine ⟨k + 1, by omega, by go_num, (((R2.out.set (k * 3) _).set (k * 3 + 1) _).set (k * 3 + 2) _).congr (fun j hj => ?_), (Below.setCell (Below.setCell (Below.setCell BE2.out (Nat.le_refl _) _) (Nat.le_refl _) _) (Nat.le_refl _) _)⟩
        by_cases e2 : j = k * 3 + 2
        · subst e2
          have d1 : (k * 3 + 2) / 3 = k := by omega
          have d2 : (k * 3 + 2) % 3 = 2 := by omega
          rw [if_pos rfl, if_pos (by omega), d1, d2]; rfl
        rw [if_neg e2]
        by_cases e1 : j = k * 3 + 1
        · subst e1
          have d1 : (k * 3 + 1) / 3 = k := by omega
          have d2 : (k * 3 + 1) % 3 = 1 := by omega
          rw [if_pos rfl, if_pos (by omega), d1, d2]; rfl
        rw [if_neg e1]
        by_cases e0 : j = k * 3
        · subst e0
          have d1 : (k * 3) / 3 = k := by omega
          have d2 : (k * 3) % 3 = 0 := by omega
          rw [if_pos rfl, if_pos (by omega), d1, d2]; rfl
        rw [if_neg e0]
        by_cases e9 : j < k * 3
        · rw [if_pos e9, if_pos (by omega)]
        · rw [if_neg e9, if_neg (by omega)]
      case measure => simp [intOf]; omega
    · obtain rfl : k = n := by omega
      go_wp2_with fail
      go_ret
      have hr := R.out.congr (f' := fun i => condNodeC kd op vl (i / 3) (i % 3)) (fun j hj => by rw [if_pos hj])
      refine ⟨_, rfl, Nat.le_refl _, H.out.of (SliceF.of_row hr (by omega) (Nat.le_refl _) (fun j q hj hq => ?_)), hr, BE.out⟩
      have d1 : (j * 3 + q) / 3 = j := by omega
      have d2 : (j * 3 + q) % 3 = q := by omega
      rw [d1, d2]
set_option maxHeartbeats 1000000 in
theorem eqCondNodeS_same (w : World) (A A' : Option Addr) (n c c' : Nat) (kd : Nat → Int) (op : Nat → ByteArray) (vl : Nat → ByteArray) (h : CondNodeF w A n c kd op vl) (h' : CondNodeF w A' n c' kd op vl) :
    Calls Try.prog 17 #[.slice A n c, .slice A' n c'] w fun e w' => e = .returned (.bool true) ∧ Below w.heap.size w w' := by
  have hm := h.le
  have H := Lib.hid h
  have H' := Lib.hid h'
  clear h h'
  go_enter Try.func17, Try.ntmps17
  go_wp2_with fail
  go_loopw [5] (fun i wr => ∃ k : Nat, k ≤ n ∧ i = .int .i64 (k : Int) ∧ Below w.heap.size w wr) (fun i _ => n - (intOf i).toNat)
  case atStart => exact ⟨0, Nat.zero_le _, rfl, Below.refl _ _⟩
  case round =>
    obtain ⟨k, hk, rfl, hbel⟩ := hrel
    have BE := Lib.hid hbel
    clear hbel
    by_cases hlt : k < n
    · have hlt' : (k : Int) < (n : Int) := by omega
      obtain ⟨b, o, rfl, hB, c0, c1, c2⟩ := (H.out.call BE.out).cells hlt
      obtain ⟨b', o', rfl, hB', d0, d1, d2⟩ := (H'.out.call BE.out).cells hlt
      have gc0 := fun d os => cell_regrown c0 d os
      have gd0 := fun d os => cell_regrown d0 d os
      have gc1 := fun d os => cell_regrown c1 d os
      have gd1 := fun d os => cell_regrown d1 d os
      have gc2 := fun d os => cell_regrown c2 d os
      have gd2 := fun d os => cell_regrown d2 d os
      go_wp2_with fail
      refine wp_region_quiet_below (by kernel_rfl) (by kernel_rfl) ?_
      repeat (first | go_big_quiet_step ((go_at_call 57; exact Calls.regrown_of (eqCondNode_same _ _ _ _))) | quiet_step ((go_at_call 57; exact Calls.regrown_of (eqCondNode_same _ _ _ _))))
      refine wpQuiet_nil ?_
      intro _ hw'
      obtain ⟨⟨dq, osq⟩, hw''⟩ := hw'
      subst hw''
      have BE2 := Lib.hid (BE.out.trans ((below_regrown wr dq osq).mono BE.out.size))
      go_wp2_with fail
      go_roundw
      case rel => exact ⟨k + 1, by omega, by go_num, BE2.out⟩
      case measure => simp [intOf]; omega
    · obtain rfl : k = n := by omega
      go_wp2_with fail
      go_ret
      exact ⟨rfl, BE.out⟩
end Go.Proofs.Ytkkhaamklbolmaa
