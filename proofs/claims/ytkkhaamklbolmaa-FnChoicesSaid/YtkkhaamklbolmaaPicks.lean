/-
  Slices of picks: how they read; contracts of the laws' helpers toPick, eqPick, szPick and of those on slices. (Printed by gen/rec.py.)
-/
import Derived.Test.YtkkhaamklbolmaaStrEq
import Derived.Test.YtkkhaamklbolmaaWorlds
namespace Go.Proofs.Ytkkhaamklbolmaa
open Go.RowKit Go.Sort
set_option linter.unusedVariables false
set_option linter.unusedSimpArgs false

def pickC (po : Nat → ByteArray) (pv : Nat → ByteArray) (j q : Nat) : Value := if q = 0 then .string (po j) else .string (pv j)
/-- a slice of them -/
structure PickF (w : World) (A : Option Addr) (n cap : Nat) (po : Nat → ByteArray) (pv : Nat → ByteArray) : Prop where
  sl : SliceF w A n cap 2 (pickC po pv)
  z_po : ∀ i, i < n → (po i).size ≤ 9223372036854775807
  z_pv : ∀ i, i < n → (pv i).size ≤ 9223372036854775807
section
variable {w w' : World} {A : Option Addr} {n cap : Nat} {po : Nat → ByteArray} {pv : Nat → ByteArray}
theorem PickF.call (h : PickF w A n cap po pv) (hb : Below w.heap.size w w') : PickF w' A n cap po pv := ⟨h.sl.call hb, h.z_po, h.z_pv⟩
theorem PickF.le (h : PickF w A n cap po pv) : n ≤ 9223372036854775807 := by have := h.sl.max; have := h.sl.le; omega
theorem PickF.of (h : PickF w A n cap po pv) {W : World} {B : Option Addr} {c : Nat} (hs : SliceF W B n c 2 (pickC po pv)) : PickF W B n c po pv := ⟨hs, h.z_po, h.z_pv⟩
theorem PickF.short (h : PickF w A n cap po pv) {m : Nat} (hm : m ≤ n) : PickF w A m cap po pv := ⟨h.sl.short hm, fun i hi => h.z_po i (by omega), fun i hi => h.z_pv i (by omega)⟩
theorem PickF.cells (h : PickF w A n cap po pv) {j : Nat} (hj : j < n) : ∃ b o, A = some ⟨b, o, none⟩ ∧ b < w.heap.size ∧ w.cell? ⟨b, o + j * 2, none⟩ = some (.string (po j)) ∧ w.cell? ⟨b, o + j * 2 + 1, none⟩ = some (.string (pv j)) := by
  obtain ⟨b, o, e, hB, hc⟩ := h.sl.cell j hj
  exact ⟨b, o, e, hB, hc 0 (by omega), hc 1 (by omega)⟩
end
theorem PickF.empty (w : World) (A : Option Addr) (cap : Nat) (h : cap ≤ 9223372036854775807) (po : Nat → ByteArray) (pv : Nat → ByteArray) : PickF w A 0 cap po pv := ⟨SliceF.empty _ _ _ h _ _, fun i hi => absurd hi (by omega), fun i hi => absurd hi (by omega)⟩
theorem toPick_any (po : ByteArray) (pv : ByteArray) (w : World) :
    Calls Try.prog 65 #[.agg #[.string po, .string pv]] w fun e w' => e = .returned (.agg #[.string po, .string pv]) ∧ Below w.heap.size w w' := by
  go_enter Try.func65, Try.ntmps65
  go_wp2
  go_returns
  exact ⟨rfl, by repeat' (first | (with_reducible exact Below.refl _ _) | assumption | (with_reducible refine below_then (by assumption) ?_ ?_) | (with_reducible refine Below.alloc ?_ ?_ _) | (with_reducible refine below_drewN ?_ _) | (with_reducible refine Below.drew ?_) | (with_reducible refine Below.setCell ?_ ?_ _) | omega | (simp; done) | (simp; omega))⟩
theorem eqPick_same (po : ByteArray) (pv : ByteArray) (w : World) :
    Calls Try.prog 66 #[.agg #[.string po, .string pv], .agg #[.string po, .string pv]] w fun e w' => e = .returned (.bool true) ∧ Below w.heap.size w w' := by
  have e_po : (po.toList != po.toList) = false := by simp
  have e_pv : (pv.toList != pv.toList) = false := by simp
  go_enter Try.func66, Try.ntmps66
  go_wp2
  go_ret
  exact ⟨rfl, by repeat' (first | (with_reducible exact Below.refl _ _) | assumption | (with_reducible refine below_then (by assumption) ?_ ?_) | (with_reducible refine Below.alloc ?_ ?_ _) | (with_reducible refine below_drewN ?_ _) | (with_reducible refine Below.drew ?_) | (with_reducible refine Below.setCell ?_ ?_ _) | omega | (simp; done) | (simp; omega))⟩
theorem szPick_any (po : ByteArray) (pv : ByteArray) (w : World) (k : Int) (hk0 : 0 ≤ k) (hk : k ≤ 1048576) (z_po : po.size ≤ 9223372036854775807) (z_pv : pv.size ≤ 9223372036854775807) :
    Calls Try.prog 63 #[.agg #[.string po, .string pv], .int .i64 k] w fun e w' => e = .returned (.int .i64 (if (po.size : Int) + (pv.size : Int) ≤ k then k - ((po.size : Int) + (pv.size : Int)) else -1)) ∧ Below w.heap.size w w' := by
  by_cases h0 : k - (po.size : Int) < 0
  · rw [if_neg (by omega)]
    go_enter Try.func63, Try.ntmps63
    go_wp2
    go_ret
    exact ⟨rfl, by repeat' (first | (with_reducible exact Below.refl _ _) | assumption | (with_reducible refine below_then (by assumption) ?_ ?_) | (with_reducible refine Below.alloc ?_ ?_ _) | (with_reducible refine below_drewN ?_ _) | (with_reducible refine Below.drew ?_) | (with_reducible refine Below.setCell ?_ ?_ _) | omega | (simp; done) | (simp; omega))⟩
  by_cases h1 : k - (po.size : Int) - (pv.size : Int) < 0
  · rw [if_neg (by omega)]
    go_enter Try.func63, Try.ntmps63
    go_wp2
    go_ret
    exact ⟨rfl, by repeat' (first | (with_reducible exact Below.refl _ _) | assumption | (with_reducible refine below_then (by assumption) ?_ ?_) | (with_reducible refine Below.alloc ?_ ?_ _) | (with_reducible refine below_drewN ?_ _) | (with_reducible refine Below.drew ?_) | (with_reducible refine Below.setCell ?_ ?_ _) | omega | (simp; done) | (simp; omega))⟩
  obtain ⟨t, ht⟩ : ∃ t : Int, t = k - (po.size : Int) - (pv.size : Int) := ⟨_, rfl⟩
  rw [if_pos (by omega), show k - ((po.size : Int) + (pv.size : Int)) = t by omega]
  have ht' : k - (po.size : Int) - (pv.size : Int) = t := ht.symm
  clear ht
  go_enter Try.func63, Try.ntmps63
  go_wp2
  go_ret
  exact ⟨rfl, by repeat' (first | (with_reducible exact Below.refl _ _) | assumption | (with_reducible refine below_then (by assumption) ?_ ?_) | (with_reducible refine Below.alloc ?_ ?_ _) | (with_reducible refine below_drewN ?_ _) | (with_reducible refine Below.drew ?_) | (with_reducible refine Below.setCell ?_ ?_ _) | omega | (simp; done) | (simp; omega))⟩
/-- the sum of the lengths -/
def pickSum (po : Nat → ByteArray) (pv : Nat → ByteArray) : Nat → Nat
  | 0 => 0
  | n + 1 => pickSum po pv n + ((po n).size + (pv n).size)
theorem pickSum_le (po : Nat → ByteArray) (pv : Nat → ByteArray) {i n : Nat} (h : i ≤ n) : pickSum po pv i ≤ pickSum po pv n := by
  induction n with
  | zero => obtain rfl : i = 0 := by omega
            exact Nat.le_refl _
  | succ n ih =>
    by_cases e : i = n + 1
    · subst e; exact Nat.le_refl _
    · have := ih (by omega)
      simp only [pickSum]; omega
def pickLeft (po : Nat → ByteArray) (pv : Nat → ByteArray) (n : Nat) (k : Int) : Int := if (n : Int) + (pickSum po pv n : Int) ≤ k then k - (n : Int) - (pickSum po pv n : Int) else -1
set_option maxHeartbeats 1000000 in
theorem szPickS_any (w : World) (A : Option Addr) (n c : Nat) (po : Nat → ByteArray) (pv : Nat → ByteArray) (k : Int) (h : PickF w A n c po pv) (hk0 : 0 ≤ k) (hk : k ≤ 1048576) :
    Calls Try.prog 26 #[.slice A n c, .int .i64 k] w fun e w' => e = .returned (.int .i64 (pickLeft po pv n k)) ∧ Below w.heap.size w w' := by
  have hn := h.le
  obtain ⟨R, hR⟩ : ∃ R, R = pickLeft po pv n k := ⟨_, rfl⟩
  have HR := Lib.hid hR
  rw [← hR]
  clear hR
  have H := Lib.hid h
  clear h
  by_cases h0 : k - (n : Int) < 0
  · have hno : pickLeft po pv n k = -1 := by unfold pickLeft; rw [if_neg (by omega)]
    go_enter Try.func26, Try.ntmps26
    go_wp2_with fail
    go_ret
    exact ⟨ret_int (HR.out.trans hno).symm, Below.refl _ _⟩
  go_enter Try.func26, Try.ntmps26
  go_wp2_with fail
  go_loopw [1, 5] (fun l i wr => ∃ j : Nat, j ≤ n ∧ i = .int .i64 (j : Int) ∧ (∃ z : Int, l = .int .i64 z ∧ 0 ≤ z ∧ z ≤ 1048576 ∧ z + (n : Int) + (pickSum po pv j : Int) = k) ∧ Below w.heap.size w wr) (fun _ i _ => n - (intOf i).toNat)
  case atStart => exact ⟨0, Nat.zero_le _, rfl, ⟨k - n, rfl, by omega, by omega, by simp [pickSum]⟩, Below.refl _ _⟩
  case round =>
    obtain ⟨j, hj, rfl, ⟨z, rfl, hz0, hz1, hz⟩, hbe⟩ := hrel
    have HZ := Lib.hid hz
    have BE := Lib.hid hbe
    clear hz hbe
    by_cases hlt : j < n
    · have hlt' : (j : Int) < (n : Int) := by omega
      obtain ⟨b, o, rfl, hB, c0, c1⟩ := (H.out.call BE.out).cells hlt
      have s_po := H.out.z_po j hlt
      have s_pv := H.out.z_pv j hlt
      have hle2 := pickSum_le po pv (show j + 1 ≤ n by omega)
      by_cases hneg : ((po j).size : Int) + ((pv j).size : Int) ≤ z
      · have sz := szPick_any (po j) (pv j) wr z hz0 hz1 s_po s_pv
        rw [if_pos hneg] at sz
        have SZ := Lib.hid sz
        clear sz
        obtain ⟨t, ht⟩ : ∃ t : Int, t = z - (((po j).size : Int) + ((pv j).size : Int)) := ⟨_, rfl⟩
        rw [← ht] at SZ
        have t0 : ¬ t < 0 := by omega
        have t1 : t + (n : Int) + (pickSum po pv (j + 1) : Int) = k := by have := HZ.out; simp only [pickSum]; omega
        have t2 : t ≤ 1048576 := by omega
        have T1 := Lib.hid t1
        clear t1 hle2 ht hneg
        go_wp2_with fail
        refine SZ.out.mono ?_; rintro e w2 ⟨rfl, hb2⟩
        have BE2 := Lib.hid (BE.out.trans (hb2.mono BE.out.size))
        clear hb2
        go_wp2_with fail
        go_roundw
        case rel => exact ⟨j + 1, by omega, by go_num, ⟨_, rfl, by omega, by omega, T1.out⟩, BE2.out⟩
        case measure => simp [intOf]; omega
      · have hno : pickLeft po pv n k = -1 := by unfold pickLeft; rw [if_neg (by have := HZ.out; simp only [pickSum] at hle2; omega)]
        have sz := szPick_any (po j) (pv j) wr z hz0 hz1 s_po s_pv
        rw [if_neg hneg] at sz
        have SZ := Lib.hid sz
        clear sz hle2 hneg
        go_wp2_with fail
        refine SZ.out.mono ?_; rintro e w2 ⟨rfl, hb2⟩
        have BE2 := Lib.hid (BE.out.trans (hb2.mono BE.out.size))
        clear hb2
        go_wp2_with fail
        go_ret
        exact ⟨ret_int (HR.out.trans hno).symm, BE2.out⟩
    · obtain rfl : j = n := by omega
      have hyes : pickLeft po pv j k = z := by unfold pickLeft; rw [if_pos (by have := HZ.out; omega)]; have := HZ.out; omega
      go_wp2_with fail
      go_ret
      exact ⟨ret_int (HR.out.trans hyes).symm, BE.out⟩
theorem pick_info : (Try.prog.info? 52).map (fun i => (i.zero, i.size, i.bytes)) = some (some (.agg #[.string ByteArray.empty, .string ByteArray.empty]), 2, 32) := by kernel_rfl
def pickZ (i : Nat) : Value := if i % 2 = 0 then Value.string ByteArray.empty else Value.string ByteArray.empty
theorem made_pick {n : Nat} {T : TypeId} {w : World} {g base : Nat} (h : w.ownsRow base T 2 (.slice (some ⟨g, 0, none⟩) n n) n (madeCells #[Value.string ByteArray.empty, Value.string ByteArray.empty] (n * 2)).toList) : Row w g T (n * 2) pickZ := by
  obtain ⟨cs, hh, hs, hn, ht⟩ := row_ownS h
  refine ⟨cs, hh, by omega, fun i hi => ?_⟩
  have h1 : (cs.toList.take (n * 2))[i]? = (madeCells #[Value.string ByteArray.empty, Value.string ByteArray.empty] (n * 2)).toList[i]? := by rw [ht]
  rw [List.getElem?_take, if_pos hi] at h1
  have h2 : (madeCells #[Value.string ByteArray.empty, Value.string ByteArray.empty] (n * 2))[i]? = some (pickZ i) := by
    have hm : i % 2 < 2 := Nat.mod_lt _ (by omega)
    simp only [madeCells, pickZ]
    have e : (#[Value.string ByteArray.empty, Value.string ByteArray.empty] : Array Value).size = 2 := rfl
    rcases (by omega : i % 2 = 0 ∨ i % 2 = 1) with h | h <;> simp [hi, h]
  simpa [h2] using h1
/-- a new slice of them -/
def NewPick (w : World) (n : Nat) (po : Nat → ByteArray) (pv : Nat → ByteArray) (e : Ending) (w' : World) : Prop :=
  ∃ g, e = .returned (.slice (some ⟨g, 0, none⟩) n n) ∧ w.heap.size ≤ g ∧ PickF w' (some ⟨g, 0, none⟩) n n po pv ∧ Row w' g 52 (n * 2) (fun i => pickC po pv (i / 2) (i % 2)) ∧ Below w.heap.size w w'
set_option maxHeartbeats 1000000 in
theorem toPickS_any (w : World) (A : Option Addr) (n c : Nat) (po : Nat → ByteArray) (pv : Nat → ByteArray) (h : PickF w A n c po pv) (hn : n ≤ 1048576) :
    Calls Try.prog 28 #[.slice A n c] w (NewPick w n po pv) := by
  have H := Lib.hid h
  clear h
  obtain ⟨i0, hi, hz0, hz1, hz2⟩ := info_parts pick_info
  go_enter Try.func28, Try.ntmps28
  go_wp2_with (refine wpList_make_full _ rfl _ _ 38 rfl w.heap.size 52 i0 (.agg #[.string ByteArray.empty, .string ByteArray.empty]) 2 Try.underlying38 hi hz0 hz1 .i64 .i64 _ _ n rfl rfl rfl rfl (by rw [hz2]; omega) (by unfold maxLen; omega) (Nat.le_refl _) ?_)
  intro w1 hown hgrow
  have hrow := made_pick hown
  have hb1 : Below w.heap.size w w1 := ⟨hgrow.os, hgrow.tape, hgrow.output, hgrow.size, fun i hi => hgrow.block i hi (by simp)⟩
  clear hown hgrow
  go_wp2_with fail
  go_loopw [4] (fun i wr => ∃ k : Nat, k ≤ n ∧ i = .int .i64 (k : Int) ∧ Row wr w.heap.size 52 (n * 2) (fun j => if j < k * 2 then pickC po pv (j / 2) (j % 2) else pickZ j) ∧ Below w.heap.size w wr) (fun i _ => n - (intOf i).toNat)
  case atStart => exact ⟨0, Nat.zero_le _, rfl, hrow.congr (fun i _ => by simp), hb1⟩
  case round =>
    clear hrow hb1
    obtain ⟨k, hk, rfl, hrow, hbel⟩ := hrel
    have R := Lib.hid hrow
    have BE := Lib.hid hbel
    clear hrow hbel
    by_cases hlt : k < n
    · have hlt' : (k : Int) < (n : Int) := by omega
      obtain ⟨b, o, rfl, hB, c0, c1⟩ := (H.out.call BE.out).cells hlt
      go_wp2_with fail
      refine (toPick_any (po k) (pv k) _).mono ?_; rintro e w2 ⟨rfl, hb2⟩
      have R2 := Lib.hid (R.out.call hb2)
      have BE2 := Lib.hid (BE.out.trans (hb2.mono BE.out.size))
      clear hb2 c0 c1
      have g0 : w2.cell? ⟨w.heap.size, k * 2, none⟩ = some (.string ByteArray.empty) := (R2.out.cell (by omega)).trans (by rw [if_neg (by omega)]; unfold pickZ; rw [if_pos (by omega)])
      have f0 := R2.out.frozen (k * 2)
      have g1 : w2.cell? ⟨w.heap.size, k * 2 + 1, none⟩ = some (.string ByteArray.empty) := (R2.out.cell (by omega)).trans (by rw [if_neg (by omega)]; unfold pickZ; rw [if_neg (by omega)]; skip)
      have f1 := R2.out.frozen (k * 2 + 1)
      go_wp2_with fail
      go_roundw
      case rel =>
        refine ⟨k + 1, by omega, by go_num, ((R2.out.set (k * 2) _).set (k * 2 + 1) _).congr (fun j hj => ?_), (Below.setCell (Below.setCell BE2.out (Nat.le_refl _) _) (Nat.le_refl _) _)⟩
        by_cases e1 : j = k * 2 + 1
        · subst e1
          have d1 : (k * 2 + 1) / 2 = k := by omega
          have d2 : (k * 2 + 1) % 2 = 1 := by omega
          rw [if_pos rfl, if_pos (by omega), d1, d2]; rfl
        rw [if_neg e1]
        by_cases e0 : j = k * 2
        · subst e0
          have d1 : (k * 2) / 2 = k := by omega
          have d2 : (k * 2) % 2 = 0 := by omega
          rw [if_pos rfl, if_pos (by omega), d1, d2]; rfl
        rw [if_neg e0]
        by_cases e9 : j < k * 2
        · rw [if_pos e9, if_pos (by omega)]
        · rw [if_neg e9, if_neg (by omega)]
      case measure => simp [intOf]; omega
    · obtain rfl : k = n := by omega
      go_wp2_with fail
      go_ret
      have hr := R.out.congr (f' := fun i => pickC po pv (i / 2) (i % 2)) (fun j hj => by rw [if_pos hj])
      refine ⟨_, rfl, Nat.le_refl _, H.out.of (SliceF.of_row hr (by omega) (Nat.le_refl _) (fun j q hj hq => ?_)), hr, BE.out⟩
      have d1 : (j * 2 + q) / 2 = j := by omega
      have d2 : (j * 2 + q) % 2 = q := by omega
      rw [d1, d2]
set_option maxHeartbeats 1000000 in
theorem eqPickS_same (w : World) (A A' : Option Addr) (n c c' : Nat) (po : Nat → ByteArray) (pv : Nat → ByteArray) (h : PickF w A n c po pv) (h' : PickF w A' n c' po pv) :
    Calls Try.prog 30 #[.slice A n c, .slice A' n c'] w fun e w' => e = .returned (.bool true) ∧ Below w.heap.size w w' := by
  have hm := h.le
  have H := Lib.hid h
  have H' := Lib.hid h'
  clear h h'
  go_enter Try.func30, Try.ntmps30
  go_wp2_with fail
  go_loopw [5] (fun i wr => ∃ k : Nat, k ≤ n ∧ i = .int .i64 (k : Int) ∧ Below w.heap.size w wr) (fun i _ => n - (intOf i).toNat)
  case atStart => exact ⟨0, Nat.zero_le _, rfl, Below.refl _ _⟩
  case round =>
    obtain ⟨k, hk, rfl, hbel⟩ := hrel
    have BE := Lib.hid hbel
    clear hbel
    by_cases hlt : k < n
    · have hlt' : (k : Int) < (n : Int) := by omega
      obtain ⟨b, o, rfl, hB, c0, c1⟩ := (H.out.call BE.out).cells hlt
      obtain ⟨b', o', rfl, hB', d0, d1⟩ := (H'.out.call BE.out).cells hlt
      have gc0 := fun d os => cell_regrown c0 d os
      have gd0 := fun d os => cell_regrown d0 d os
      have gc1 := fun d os => cell_regrown c1 d os
      have gd1 := fun d os => cell_regrown d1 d os
      go_wp2_with fail
      refine wp_region_quiet_below (by kernel_rfl) (by kernel_rfl) ?_
      repeat (first | go_big_quiet_step ((go_at_call 66; exact Calls.regrown_of (eqPick_same _ _ _))) | quiet_step ((go_at_call 66; exact Calls.regrown_of (eqPick_same _ _ _))))
      refine wpQuiet_nil ?_
      intro _ hw'
      obtain ⟨⟨dq, osq⟩, hw''⟩ := hw'
      subst hw''
      have BE2 := Lib.hid (BE.out.trans ((below_regrown wr dq osq).mono BE.out.size))
      go_wp2_with fail
      go_roundw
      case rel => exact ⟨k + 1, by omega, by go_num, BE2.out⟩
      case measure => simp [intOf]; omega
    · obtain rfl : k = n := by omega
      go_wp2_with fail
      go_ret
      exact ⟨rfl, BE.out⟩
end Go.Proofs.Ytkkhaamklbolmaa
