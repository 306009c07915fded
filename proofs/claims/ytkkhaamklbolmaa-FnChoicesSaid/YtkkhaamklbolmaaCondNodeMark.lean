/-
  Contracts of the laws' helpers markCondNodeS, heldCondNodeS. (Printed by gen/recmark.py.)
-/
import Derived.Test.YtkkhaamklbolmaaCondNode
import Derived.Test.YtkkhaamklbolmaaMarkT
namespace Go.Proofs.Ytkkhaamklbolmaa
open Go.RowKit Go.Sort
set_option linter.unusedVariables false
set_option linter.unusedSimpArgs false

theorem markText_int_condNode (z : Int) (w : World) (h0 : 1 ≤ z) (h1 : z ≤ 1000000000000) :
    Calls Try.prog 60 #[.int .i64 z] w fun e w' => e = .returned (.string (markB z.toNat)) ∧ Below w.heap.size w w' := by
  obtain ⟨n, rfl⟩ : ∃ n : Nat, z = (n : Int) := ⟨z.toNat, by omega⟩
  exact markText_any n w (by omega) (by omega)
/-- the marks from k on -/
def condNodeM (k : Int) (j q : Nat) : Value := if q = 0 then .int .i64 (k + 3 * (j : Int) + 0) else if q = 1 then .string (markB (k + 3 * (j : Int) + 1).toNat) else .string (markB (k + 3 * (j : Int) + 2).toNat)
set_option maxHeartbeats 1000000 in
theorem markCondNodeS_any (w : World) (g n cap : Nat) (k : Int) (f : Nat → Value) (h : Row w g 54 (n * 3) f) (hn : n ≤ 1048577) (hc : n ≤ cap) (hk0 : 1 ≤ k) (hk : k ≤ 1000000000) :
    Calls Try.prog 21 #[.slice (some ⟨g, 0, none⟩) n cap, .int .i64 k] w fun e w' => e = .returned (.int .i64 (k + 3 * (n : Int))) ∧ Row w' g 54 (n * 3) (fun i => condNodeM k (i / 3) (i % 3)) ∧ w.grownBy w' (some g) := by
  have H := Lib.hid h
  clear h
  go_enter Try.func21, Try.ntmps21
  go_wp2_with fail
  go_loopw [1, 5] (fun q i wr => ∃ j : Nat, j ≤ n ∧ i = .int .i64 (j : Int) ∧ q = .int .i64 (k + 3 * (j : Int)) ∧ Row wr g 54 (n * 3) (fun x => if x < j * 3 then condNodeM k (x / 3) (x % 3) else f x) ∧ w.grownBy wr (some g)) (fun _ i _ => n - (intOf i).toNat)
  case atStart => exact ⟨0, Nat.zero_le _, rfl, by simp, H.out.congr (fun i _ => by simp), World.grownBy.refl _ _⟩
  case round =>
    obtain ⟨j, hj, rfl, rfl, hrow, hgr⟩ := hrel
    by_cases hlt : j < n
    · have hlt' : (j : Int) < (n : Int) := by omega
      obtain ⟨m, hm⟩ : ∃ m : Int, m = k + 3 * (j : Int) := ⟨_, rfl⟩
      rw [← hm]
      have hm0 : 1 ≤ m := by omega
      have hm1 : m ≤ 10000000000 := by omega
      have HM := Lib.hid hm
      have W0 := Lib.hid hrow
      have G0 := Lib.hid hgr
      clear hrow hm hgr
      have hg0 := W0.out.cell (i := j * 3) (by omega)
      have hf0 := W0.out.frozen (j * 3)
      go_wp2_with fail
      refine (markText_int_condNode (m + 1) _ (by omega) (by omega)).mono ?_; rintro e v1 ⟨rfl, hb1⟩
      have W2 := Lib.hid ((W0.out.set (j * 3) _).call hb1)
      have G2 := Lib.hid (grown_call (grown_setCell G0.out (p := ⟨g, j * 3, none⟩) (.inl rfl) _) hb1)
      clear hb1
      have hg1 := W2.out.cell (i := j * 3 + 1) (by omega)
      have hf1 := W2.out.frozen (j * 3 + 1)
      go_wp2_with fail
      refine (markText_int_condNode (m + 1 + 1) _ (by omega) (by omega)).mono ?_; rintro e v2 ⟨rfl, hb2⟩
      have W3 := Lib.hid ((W2.out.set (j * 3 + 1) _).call hb2)
      have G3 := Lib.hid (grown_call (grown_setCell G2.out (p := ⟨g, j * 3 + 1, none⟩) (.inl rfl) _) hb2)
      clear hb2
      have hg2 := W3.out.cell (i := j * 3 + 2) (by omega)
      have hf2 := W3.out.frozen (j * 3 + 2)
      go_wp2_with fail
      go_roundw
      case rel =>
        refine ⟨j + 1, by omega, by go_num, by have := HM.out; go_num, (W3.out.set (j * 3 + 2) _).congr (fun x hx => ?_), (grown_setCell G3.out (p := ⟨g, j * 3 + 2, none⟩) (.inl rfl) _)⟩
        by_cases e2 : x = j * 3 + 2
        · subst e2
          have d1 : (j * 3 + 2) / 3 = j := by omega
          have d2 : (j * 3 + 2) % 3 = 2 := by omega
          rw [if_pos rfl, if_pos (by omega), d1, d2]
          have := HM.out
          simp [condNodeM, ← this, Int.add_assoc]
        rw [if_neg e2]
        by_cases e1 : x = j * 3 + 1
        · subst e1
          have d1 : (j * 3 + 1) / 3 = j := by omega
          have d2 : (j * 3 + 1) % 3 = 1 := by omega
          rw [if_pos rfl, if_pos (by omega), d1, d2]
          have := HM.out
          simp [condNodeM, ← this, Int.add_assoc]
        rw [if_neg e1]
        by_cases e0 : x = j * 3
        · subst e0
          have d1 : (j * 3) / 3 = j := by omega
          have d2 : (j * 3) % 3 = 0 := by omega
          rw [if_pos rfl, if_pos (by omega), d1, d2]
          have := HM.out
          simp [condNodeM, ← this, Int.add_assoc]
        rw [if_neg e0]
        by_cases e9 : x < j * 3
        · rw [if_pos e9, if_pos (by omega)]
        · rw [if_neg e9, if_neg (by omega)]
      case measure => simp [intOf]; omega
    · obtain rfl : j = n := by omega
      have HR := Lib.hid hrow
      clear hrow
      go_wp2_with fail
      go_ret
      exact ⟨rfl, HR.out.congr (fun x hx => by rw [if_pos hx]), hgr⟩
theorem markCondNodeS_nil (w : World) (A : Option Addr) (cap : Nat) (k : Int) :
    Calls Try.prog 21 #[.slice A 0 cap, .int .i64 k] w fun e w' => e = .returned (.int .i64 k) ∧ w' = w := by
  go_enter Try.func21, Try.ntmps21
  go_wp2_with fail
  go_loop [1, 5] (fun q i => i = .int .i64 0 ∧ q = .int .i64 k) (fun _ i => 0)
  case atStart => exact ⟨rfl, rfl⟩
  case round =>
    obtain ⟨rfl, rfl⟩ := hrel
    go_wp2_with fail
    go_ret
    exact ⟨rfl, rfl⟩
end Go.Proofs.Ytkkhaamklbolmaa
