/-
  Contracts of szStringS and toStringS (cut out of XStrs by gen/model1.py).
-/
import Derived.Test.YtkkhaamklbolmaaStrEq
import Derived.Test.YtkkhaamklbolmaaHeap
import Derived.Deep.QuietTactic
import Derived.BigQuiet
namespace Go.Proofs.Ytkkhaamklbolmaa
open Go.RowKit
set_option linter.unusedVariables false
set_option linter.unusedSimpArgs false

set_option maxHeartbeats 1000000 in
theorem szStringS_any (w : World) (A : Option Addr) (n c : Nat) (f : Nat → ByteArray) (k : Int) (h : StrsF w A n c f) (hk0 : 0 ≤ k) (hk : k ≤ 1048576) :
    Calls Try.prog 105 #[.slice A n c, .int .i64 k] w fun e w' => e = .returned (.int .i64 (leftS f n k)) ∧ w' = w := by
  have hn := h.le
  obtain ⟨R, hR⟩ : ∃ R, R = leftS f n k := ⟨_, rfl⟩
  have HR := Lib.hid hR
  rw [← hR]
  clear hR
  have H := Lib.hid h
  clear h
  by_cases h0 : k - (n : Int) < 0
  · have hno : leftS f n k = -1 := by unfold leftS; rw [if_neg (by omega)]
    go_enter Try.func105, Try.ntmps105
    go_wp2_with fail
    go_ret
    exact ⟨ret_int (HR.out.trans hno).symm, rfl⟩
  go_enter Try.func105, Try.ntmps105
  go_wp2_with fail
  go_loop [1, 5] (fun l i => ∃ j : Nat, j ≤ n ∧ i = .int .i64 (j : Int) ∧ ∃ z : Int, l = .int .i64 z ∧ 0 ≤ z ∧ z ≤ 1048576 ∧ z + (n : Int) + (sumZ f j : Int) = k) (fun _ i => n - (intOf i).toNat)
  case atStart => exact ⟨0, Nat.zero_le _, rfl, k - n, rfl, by omega, by omega, by simp [sumZ]⟩
  case round =>
    obtain ⟨j, hj, rfl, z, rfl, hz0, hz1, hz⟩ := hrel
    have HZ := Lib.hid hz
    clear hz
    by_cases hlt : j < n
    · have hlt' : (j : Int) < (n : Int) := by omega
      obtain ⟨b, o, rfl, hB, hc⟩ := H.out.cell hlt
      have hs := H.out.size j hlt
      have hle := sumZ_one f hlt
      have hle2 := sumZ_le f (show j + 1 ≤ n by omega)
      by_cases hneg : z - ((f j).size : Int) < 0
      · have hno : leftS f n k = -1 := by unfold leftS; rw [if_neg (by have := HZ.out; simp only [sumZ] at hle2; omega)]
        clear hle hle2
        go_wp2_with fail
        go_ret
        exact ⟨ret_int (HR.out.trans hno).symm, rfl⟩
      · clear hle hle2
        go_wp2_with fail
        go_round
        case rel => exact ⟨j + 1, by omega, by go_num, _, rfl, by omega, by omega, by have := HZ.out; simp only [sumZ]; omega⟩
        case measure => simp [intOf]; omega
    · obtain rfl : j = n := by omega
      have hyes : leftS f j k = z := by unfold leftS; rw [if_pos (by have := HZ.out; omega)]; have := HZ.out; omega
      go_wp2_with fail
      go_ret
      exact ⟨ret_int (HR.out.trans hyes).symm, rfl⟩

theorem toStringS_any (w : World) (A : Option Addr) (n cap : Nat) (f : Nat → ByteArray) (h : StrsF w A n cap f) (hn : n ≤ 1048576) :
    Calls Try.prog 106 #[.slice A n cap] w fun e w' => e = .returned (.slice (some ⟨w.heap.size, 0, none⟩) n n) ∧ Row w' w.heap.size 9 n (fun i => .string (f i)) ∧ Below w.heap.size w w' := by
  have hmk := run_make_row' (P := Try.prog) 29 9 (.string ByteArray.empty) 16 Try.underlying29 str_info rfl .i64 .i64 n (by omega) (by omega)
  have H := Lib.hid h
  clear h
  go_enter Try.func106, Try.ntmps106
  go_wp2_with fail
  go_loopw [4] (fun i wr => ∃ k : Nat, k ≤ n ∧ i = .int .i64 (k : Int) ∧ Row wr w.heap.size 9 n (fun j => if j < k then .string (f j) else .string ByteArray.empty) ∧ Below w.heap.size w wr) (fun i _ => n - (intOf i).toNat)
  case atStart => exact ⟨0, Nat.zero_le _, rfl, (row_made w _ n _).congr (fun i _ => by simp), (Below.refl _ _).alloc (Nat.le_refl _) _⟩
  case round =>
    obtain ⟨k, hk, rfl, hrow, hbel⟩ := hrel
    by_cases hlt : k < n
    · have hlt' : (k : Int) < (n : Int) := by omega
      obtain ⟨b, o, rfl, hB, hc⟩ := (H.out.call hbel).cell hlt
      have hg := hrow.cell hlt
      rw [if_neg (by omega)] at hg
      have hf := hrow.frozen k
      have HR := Lib.hid hrow
      clear hrow
      have hb' : b ≠ w.heap.size := by
        obtain ⟨b', o', e, hB', _⟩ := H.out.cell hlt
        injection e with e; injection e; omega
      go_wp2_with fail
      go_roundw
      case rel =>
        refine ⟨k + 1, by omega, by go_num, (HR.out.set k _).congr (fun j hj => ?_), hbel.setCell (Nat.le_refl _) _⟩
        by_cases e : j = k
        · subst e; simp
        · simp only [if_neg e]
          by_cases e2 : j < k
          · rw [if_pos e2, if_pos (by omega)]
          · rw [if_neg e2, if_neg (by omega)]
      case measure => simp [intOf]; omega
    · obtain rfl : k = n := by omega
      have HR := Lib.hid hrow
      clear hrow
      go_wp2_with fail
      go_ret
      exact ⟨rfl, HR.out.congr (fun j hj => by rw [if_pos hj]), hbel⟩

end Go.Proofs.Ytkkhaamklbolmaa
