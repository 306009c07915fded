/-
  Contracts of the laws' helpers markUnitRuleS, heldUnitRuleS. (Printed by gen/recmark.py.)
-/
import Derived.Test.YtccejhhhengpcaaUnitRule
import Derived.Test.YtccejhhhengpcaaMarkT
namespace Go.Proofs.Ytccejhhhengpcaa
open Go.RowKit Go.Sort
set_option linter.unusedVariables false
set_option linter.unusedSimpArgs false

theorem markText_int_unitRule (z : Int) (w : World) (h0 : 1 ≤ z) (h1 : z ≤ 1000000000000) :
    Calls Try.prog 54 #[.int .i64 z] w fun e w' => e = .returned (.string (markB z.toNat)) ∧ Below w.heap.size w w' := by
  obtain ⟨n, rfl⟩ : ∃ n : Nat, z = (n : Int) := ⟨z.toNat, by omega⟩
  exact markText_any n w (by omega) (by omega)
/-- the marks from k on -/
def unitRuleM (k : Int) (j q : Nat) : Value := if q = 0 then .string (markB (k + 4 * (j : Int) + 0).toNat) else if q = 1 then .string (markB (k + 4 * (j : Int) + 1).toNat) else if q = 2 then .int .i64 (k + 4 * (j : Int) + 2) else .int .i64 (k + 4 * (j : Int) + 3)
set_option maxHeartbeats 1000000 in
theorem markUnitRuleS_any (w : World) (g n cap : Nat) (k : Int) (f : Nat → Value) (h : Row w g 59 (n * 4) f) (hn : n ≤ 1048577) (hc : n ≤ cap) (hk0 : 1 ≤ k) (hk : k ≤ 1000000000) :
    Calls Try.prog 30 #[.slice (some ⟨g, 0, none⟩) n cap, .int .i64 k] w fun e w' => e = .returned (.int .i64 (k + 4 * (n : Int))) ∧ Row w' g 59 (n * 4) (fun i => unitRuleM k (i / 4) (i % 4)) ∧ w.grownBy w' (some g) := by
  have H := Lib.hid h
  clear h
  go_enter Try.func30, Try.ntmps30
  go_wp2_with fail
  go_loopw [1, 5] (fun q i wr => ∃ j : Nat, j ≤ n ∧ i = .int .i64 (j : Int) ∧ q = .int .i64 (k + 4 * (j : Int)) ∧ Row wr g 59 (n * 4) (fun x => if x < j * 4 then unitRuleM k (x / 4) (x % 4) else f x) ∧ w.grownBy wr (some g)) (fun _ i _ => n - (intOf i).toNat)
  case atStart => exact ⟨0, Nat.zero_le _, rfl, by simp, H.out.congr (fun i _ => by simp), World.grownBy.refl _ _⟩
  case round =>
    obtain ⟨j, hj, rfl, rfl, hrow, hgr⟩ := hrel
    by_cases hlt : j < n
    · have hlt' : (j : Int) < (n : Int) := by omega
      obtain ⟨m, hm⟩ : ∃ m : Int, m = k + 4 * (j : Int) := ⟨_, rfl⟩
      rw [← hm]
      have hm0 : 1 ≤ m := by omega
      have hm1 : m ≤ 10000000000 := by omega
      have HM := Lib.hid hm
      have W0 := Lib.hid hrow
      have G0 := Lib.hid hgr
      clear hrow hm hgr
      go_wp2_with fail
      refine (markText_int_unitRule (m) _ (by omega) (by omega)).mono ?_; rintro e v0 ⟨rfl, hb0⟩
      have W1 := Lib.hid (W0.out.call hb0)
      have G1 := Lib.hid (grown_call G0.out hb0)
      clear hb0
      have hg0 := W1.out.cell (i := j * 4) (by omega)
      have hf0 := W1.out.frozen (j * 4)
      go_wp2_with fail
      refine (markText_int_unitRule (m + 1) _ (by omega) (by omega)).mono ?_; rintro e v1 ⟨rfl, hb1⟩
      have W2 := Lib.hid ((W1.out.set (j * 4) (.string (markB (m).toNat))).call hb1)
      have G2 := Lib.hid (grown_call (grown_setCell G1.out (p := ⟨g, j * 4, none⟩) (.inl rfl) (.string (markB (m).toNat))) hb1)
      clear hb1
      have hg1 := W2.out.cell (i := j * 4 + 1) (by omega)
      have hf1 := W2.out.frozen (j * 4 + 1)
      have hg2 := (W2.out.set (j * 4 + 1) (.string (markB (m + 1).toNat))).cell (i := j * 4 + 2) (by omega)
      have hf2 := (W2.out.set (j * 4 + 1) (.string (markB (m + 1).toNat))).frozen (j * 4 + 2)
      have hg3 := ((W2.out.set (j * 4 + 1) (.string (markB (m + 1).toNat))).set (j * 4 + 2) (.int .i64 (m + 1 + 1))).cell (i := j * 4 + 3) (by omega)
      have hf3 := ((W2.out.set (j * 4 + 1) (.string (markB (m + 1).toNat))).set (j * 4 + 2) (.int .i64 (m + 1 + 1))).frozen (j * 4 + 3)
      go_wp2_with fail
      go_roundw
      case rel =>
        refine ⟨j + 1, by omega, by go_num, by have := HM.out; go_num, (((W2.out.set (j * 4 + 1) (.string (markB (m + 1).toNat))).set (j * 4 + 2) (.int .i64 (m + 1 + 1))).set (j * 4 + 3) (.int .i64 (m + 1 + 1 + 1))).congr (fun x hx => ?_), (grown_setCell (grown_setCell (grown_setCell G2.out (p := ⟨g, j * 4 + 1, none⟩) (.inl rfl) (.string (markB (m + 1).toNat))) (p := ⟨g, j * 4 + 2, none⟩) (.inl rfl) (.int .i64 (m + 1 + 1))) (p := ⟨g, j * 4 + 3, none⟩) (.inl rfl) (.int .i64 (m + 1 + 1 + 1)))⟩
        by_cases e3 : x = j * 4 + 3
        · subst e3
          have d1 : (j * 4 + 3) / 4 = j := by omega
          have d2 : (j * 4 + 3) % 4 = 3 := by omega
          rw [if_pos rfl, if_pos (by omega), d1, d2]
          have := HM.out
          simp [unitRuleM, ← this, Int.add_assoc]
        rw [if_neg e3]
        by_cases e2 : x = j * 4 + 2
        · subst e2
          have d1 : (j * 4 + 2) / 4 = j := by omega
          have d2 : (j * 4 + 2) % 4 = 2 := by omega
          rw [if_pos rfl, if_pos (by omega), d1, d2]
          have := HM.out
          simp [unitRuleM, ← this, Int.add_assoc]
        rw [if_neg e2]
        by_cases e1 : x = j * 4 + 1
        · subst e1
          have d1 : (j * 4 + 1) / 4 = j := by omega
          have d2 : (j * 4 + 1) % 4 = 1 := by omega
          rw [if_pos rfl, if_pos (by omega), d1, d2]
          have := HM.out
          simp [unitRuleM, ← this, Int.add_assoc]
        rw [if_neg e1]
        by_cases e0 : x = j * 4
        · subst e0
          have d1 : (j * 4) / 4 = j := by omega
          have d2 : (j * 4) % 4 = 0 := by omega
          rw [if_pos rfl, if_pos (by omega), d1, d2]
          have := HM.out
          simp [unitRuleM, ← this, Int.add_assoc]
        rw [if_neg e0]
        by_cases e9 : x < j * 4
        · rw [if_pos e9, if_pos (by omega)]
        · rw [if_neg e9, if_neg (by omega)]
      case measure => simp [intOf]; omega
    · obtain rfl : j = n := by omega
      have HR := Lib.hid hrow
      clear hrow
      go_wp2_with fail
      go_ret
      exact ⟨rfl, HR.out.congr (fun x hx => by rw [if_pos hx]), hgr⟩
theorem markUnitRuleS_nil (w : World) (A : Option Addr) (cap : Nat) (k : Int) :
    Calls Try.prog 30 #[.slice A 0 cap, .int .i64 k] w fun e w' => e = .returned (.int .i64 k) ∧ w' = w := by
  go_enter Try.func30, Try.ntmps30
  go_wp2_with fail
  go_loop [1, 5] (fun q i => i = .int .i64 0 ∧ q = .int .i64 k) (fun _ i => 0)
  case atStart => exact ⟨rfl, rfl⟩
  case round =>
    obtain ⟨rfl, rfl⟩ := hrel
    go_wp2_with fail
    go_ret
    exact ⟨rfl, rfl⟩
end Go.Proofs.Ytccejhhhengpcaa
