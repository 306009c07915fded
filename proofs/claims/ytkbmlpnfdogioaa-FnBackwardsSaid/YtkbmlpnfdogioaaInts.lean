/-
  Contracts of the laws' helpers toIntS, eqIntS.
-/
import Derived.Test.YtkbmlpnfdogioaaLists
namespace Go.Proofs.Ytkbmlpnfdogioaa
open Go.RowKit
set_option linter.unusedVariables false
set_option linter.unusedSimpArgs false

theorem toIntS_any (w : World) (A : Option Addr) (n cap : Nat) (f : Nat → Int) (h : IntsF w A n cap f) (hn : n ≤ 1048576) :
    Calls Try.prog 36 #[.slice A n cap] w fun e w' => e = .returned (.slice (some ⟨w.heap.size, 0, none⟩) n n) ∧ Row w' w.heap.size 3 n (fun i => .int .i64 (f i)) ∧ Below w.heap.size w w' := by
  have hmk := run_make_row' (P := Try.prog) 22 3 (.int .i64 0) 8 Try.underlying22 int_info rfl .i64 .i64 n (by omega) (by omega)
  have H := Lib.hid h
  clear h
  go_enter Try.func36, Try.ntmps36
  go_wp2_with fail
  go_loopw [4] (fun i wr => ∃ k : Nat, k ≤ n ∧ i = .int .i64 (k : Int) ∧ Row wr w.heap.size 3 n (fun j => if j < k then .int .i64 (f j) else .int .i64 0) ∧ Below w.heap.size w wr) (fun i _ => n - (intOf i).toNat)
  case atStart => exact ⟨0, Nat.zero_le _, rfl, (row_made w _ n _).congr (fun i _ => by simp), (Below.refl _ _).alloc (Nat.le_refl _) _⟩
  case round =>
    obtain ⟨k, hk, rfl, hrow, hbel⟩ := hrel
    by_cases hlt : k < n
    · have hlt' : (k : Int) < (n : Int) := by omega
      obtain ⟨b, o, rfl, hB, hc, _⟩ := (H.out.call hbel).cell k hlt
      have hg := hrow.cell hlt
      have hf := hrow.frozen k
      have HR := Lib.hid hrow
      clear hrow
      have hb' : b ≠ w.heap.size := by
        obtain ⟨b', o', e, hB', _⟩ := H.out.cell k hlt
        injection e with e; injection e; omega
      go_wp2_with fail
      go_roundw
      case rel =>
        refine ⟨k + 1, by omega, by go_num, (HR.out.set k _).congr (fun j hj => ?_), hbel.setCell (Nat.le_refl _) _⟩
        by_cases e : j = k
        · subst e; simp
        · simp only [if_neg e]
          by_cases e2 : j < k
          · rw [if_pos e2, if_pos (by omega)]
          · rw [if_neg e2, if_neg (by omega)]
      case measure => simp [intOf]; omega
    · obtain rfl : k = n := by omega
      have HR := Lib.hid hrow
      clear hrow
      go_wp2_with fail
      go_ret
      exact ⟨rfl, HR.out.congr (fun j hj => by rw [if_pos hj]), hbel⟩

/-- whether two slices of one length read alike -/
theorem eqIntS_same (w : World) (A A' : Option Addr) (n cap cap' : Nat) (f f' : Nat → Int) (h : IntsF w A n cap f) (h' : IntsF w A' n cap' f') (he : ∀ i, i < n → f i = f' i) :
    Calls Try.prog 39 #[.slice A n cap, .slice A' n cap'] w fun e w' => e = .returned (.bool true) ∧ ∃ m, w' = w.drewN m := by
  have hn : n ≤ 9223372036854775807 := by have := h.max; have := h.le; omega
  have H := Lib.hid h
  have H' := Lib.hid h'
  have HE := Lib.hid he
  clear h h' he
  go_enter Try.func39, Try.ntmps39
  go_wp2_with fail
  go_loopw [5] (fun i wr => ∃ k m : Nat, k ≤ n ∧ i = .int .i64 (k : Int) ∧ wr = w.drewN m) (fun i _ => n - (intOf i).toNat)
  case atStart => exact ⟨0, 0, Nat.zero_le _, rfl, rfl⟩
  case round =>
    obtain ⟨k, m, hk, rfl, rfl⟩ := hrel
    by_cases hlt : k < n
    · have hlt' : (k : Int) < (n : Int) := by omega
      obtain ⟨b, o, rfl, hB, hc, _⟩ := H.out.cell k hlt
      obtain ⟨b', o', rfl, hB', hc', _⟩ := H'.out.cell k hlt
      rw [← HE.out k hlt] at hc'
      go_wp2_with fail
      go_quiet (fail)
      go_wp2_with fail
      go_roundw
      case rel => exact ⟨k + 1, m + nq, by omega, by go_num, rfl⟩
      case measure => simp [intOf]; omega
    · obtain rfl : k = n := by omega
      go_wp2_with fail
      go_ret
      exact ⟨rfl, m, rfl⟩

end Go.Proofs.Ytkbmlpnfdogioaa
