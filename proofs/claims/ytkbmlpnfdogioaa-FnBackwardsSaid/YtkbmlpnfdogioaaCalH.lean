/-
  Contracts of spec.l4Hours and impl.hours: the hours of a day of a valid calendar.
-/
import Derived.Test.YtkbmlpnfdogioaaCal
import Derived.Deep.OwnRows
namespace Go.Proofs.Ytkbmlpnfdogioaa
open Go.RowKit
set_option linter.unusedVariables false
set_option linter.unusedSimpArgs false

set_option maxHeartbeats 1000000 in
theorem spec_hours (w : World) (A : Option Addr) (n c : Nat) (f : Nat → Int) (B : Option Addr) (m c2 : Nat) (dy hr : Nat → Int) (h : CalF w A n c f B m c2 dy hr) (hc : calB n f m dy hr = true) (d : Nat) (hd : d ≤ 999) :
    Calls Try.prog 41 #[.agg #[.slice A n c, .slice B m c2], .int .i64 (d : Int)] w fun e w' => e = .returned (.int .i64 (over f dy hr m d)) ∧ Below w.heap.size w w' := by
  obtain ⟨rfl, h20, hfw, hex⟩ := calB_iff.1 hc
  have K0 := Lib.hid (cal_boxed w A 7 c B m c2 30)
  have H := Lib.hid h
  have HC := Lib.hid hc
  have HE := Lib.hid hex
  have HFW := Lib.hid hfw
  have hm : m ≤ 9223372036854775807 := by omega
  clear h hc hex hfw
  have er : (d : Int).tmod 7 = ((d % 7 : Nat) : Int) := by rw [Int.tmod_eq_emod_of_nonneg (by omega)]; omega
  have hd7 : d % 7 < 7 := Nat.mod_lt _ (by omega)
  have hd7' : ((d % 7 : Nat) : Int) < 7 := by omega
  go_enter Try.func41, Try.ntmps41
  go_wp2_with fail
  obtain ⟨a0, a1⟩ := K0.out.pair
  generalize w.alloc (.cells #[.slice A 7 c, .slice B m c2] 30) = W0 at *
  go_loop [5] (fun i => ∃ k : Nat, k ≤ m ∧ i = .int .i64 (k : Int) ∧ Hid (∀ j, j < k → dy j ≠ (d : Int))) (fun i => m - (intOf i).toNat)
  case atStart => exact ⟨0, Nat.zero_le _, rfl, fun j hj => absurd hj (by omega)⟩
  case round =>
    obtain ⟨k, hk, rfl, HK⟩ := hrel
    by_cases hlt : k < m
    · have hlt' : (k : Int) < (m : Int) := by omega
      obtain ⟨b, o, rfl, hB, c0, c1⟩ := (H.out.call K0.out.below).cells hlt
      by_cases he : dy k = (d : Int)
      · go_wp2_with fail
        go_ret
        exact ⟨ret_i (cal_at HC.out hlt d he).symm, K0.out.below⟩
      · go_wp2_with fail
        go_round
        case rel => exact ⟨k + 1, by omega, by go_num, Lib.hid (fun j hj => (by by_cases e : j = k; exact e ▸ he; exact HK.out j (by omega)))⟩
        case measure => simp [intOf]; omega
    · obtain rfl : k = m := by omega
      obtain ⟨b, o, rfl, hB, hcw, _⟩ := (H.out.week.call K0.out.below).cell (d % 7) hd7
      go_wp2_with fail
      go_ret
      exact ⟨ret_i (over_none k HK.out).symm, K0.out.below⟩

/-- a new row of the hours of the days from 0 to 999 -/
def NewHours (w : World) (g : Nat → Int) (e : Ending) (w' : World) : Prop :=
  ∃ b, e = .returned (.slice (some ⟨b, 0, none⟩) 1000 1000) ∧ Row w' b 3 1000 (fun d => .int .i64 (g d)) ∧ Below w.heap.size w w'
set_option maxHeartbeats 1000000 in
theorem impl_hours (w : World) (A : Option Addr) (n c : Nat) (f : Nat → Int) (B : Option Addr) (m c2 : Nat) (dy hr : Nat → Int) (h : CalF w A n c f B m c2 dy hr) (hc : calB n f m dy hr = true) :
    Calls Try.prog 42 #[.agg #[.slice A n c, .slice B m c2]] w (NewHours w (over f dy hr m)) := by
  obtain ⟨rfl, h20, hfw, hex⟩ := calB_iff.1 hc
  have K0 := Lib.hid (cal_boxed w A 7 c B m c2 30)
  have H := Lib.hid h
  have HC := Lib.hid hc
  have HE := Lib.hid hex
  have HFW := Lib.hid hfw
  have hm : m ≤ 9223372036854775807 := by omega
  clear h hc hex hfw
  have hmk := run_make_row' (P := Try.prog) 22 3 (.int .i64 0) 8 Try.underlying22 int_info rfl .i64 .i64 1000 (by omega) (by omega)
  have e1000 : ((1000 : Nat) : Int) = 1000 := rfl
  rw [e1000] at hmk
  go_enter Try.func42, Try.ntmps42
  go_wp2_with fail
  have kb0 := K0.out.alloc (.cells (madeCells #[.int .i64 0] 1000) 3)
  have hr0 := row_made (w.alloc (.cells #[.slice A 7 c, .slice B m c2] 30)) (.int .i64 0) 1000 3
  have sz : (w.alloc (.cells #[.slice A 7 c, .slice B m c2] 30)).heap.size = w.heap.size + 1 := by simp
  rw [sz] at hr0
  go_loopw [10] (fun i wr => ∃ k : Nat, k ≤ 1000 ∧ i = .int .i64 (k : Int) ∧ Row wr (w.heap.size + 1) 3 1000 (fun j => if j < k then .int .i64 (f (j % 7)) else .int .i64 0) ∧ Kept w (calBox w A 7 c B m c2) wr) (fun i _ => 1000 - (intOf i).toNat)
  case atStart => exact ⟨0, Nat.zero_le _, rfl, hr0.congr (fun i _ => by simp), kb0⟩
  case round =>
    clear kb0 hr0
    obtain ⟨k, hk, rfl, hrow, hkept⟩ := hrel
    have R := Lib.hid hrow
    have KR := Lib.hid hkept
    clear hrow hkept
    obtain ⟨a0, a1⟩ := KR.out.pair
    by_cases hlt : k < 1000
    · have hlt' : (k : Int) < 1000 := by omega
      have er : (k : Int).tmod 7 = ((k % 7 : Nat) : Int) := by rw [Int.tmod_eq_emod_of_nonneg (by omega)]; omega
      have hd7 : k % 7 < 7 := Nat.mod_lt _ (by omega)
      have hd7' : ((k % 7 : Nat) : Int) < 7 := by omega
      obtain ⟨b, o, rfl, hB, hcw, _⟩ := (H.out.week.call KR.out.below).cell (k % 7) hd7
      have hg := R.out.cell hlt
      have hf := R.out.frozen k
      go_wp2_with fail
      go_roundw
      case rel =>
        refine ⟨k + 1, by omega, by go_num, (R.out.set k _).congr (fun j hj => ?_), KR.out.setCell (by simp) (fun x hx => by simp [calBox] at hx; rcases hx with rfl | rfl <;> simp) _⟩
        by_cases e : j = k
        · subst e; simp
        · simp only [if_neg e]
          by_cases e2 : j < k
          · rw [if_pos e2, if_pos (by omega)]
          · rw [if_neg e2, if_neg (by omega)]
      case measure => simp [intOf]; omega
    · obtain rfl : k = 1000 := by omega
      go_wp2_with fail
      go_loopw [26] (fun i wr => ∃ k : Nat, k ≤ m ∧ i = .int .i64 (k : Int) ∧ Row wr (w.heap.size + 1) 3 1000 (fun j => .int .i64 (over f dy hr k j)) ∧ Kept w (calBox w A 7 c B m c2) wr) (fun i _ => m - (intOf i).toNat)
      case atStart => exact ⟨0, Nat.zero_le _, rfl, R.out.congr (fun i hi => by rw [if_pos hi]; rfl), KR.out⟩
      case round =>
        clear a0 a1 R KR
        obtain ⟨k, hk, rfl, hrow, hkept⟩ := hrel
        have R := Lib.hid hrow
        have KR := Lib.hid hkept
        clear hrow hkept
        obtain ⟨a0, a1⟩ := KR.out.pair
        by_cases hlt : k < m
        · have hlt' : (k : Int) < (m : Int) := by omega
          obtain ⟨b, o, rfl, hB, c0, c1⟩ := (H.out.call KR.out.below).cells hlt
          have hx := HE.out k hlt
          obtain ⟨D, hD⟩ : ∃ D : Nat, dy k = (D : Int) := ⟨(dy k).toNat, by have := hx.1; omega⟩
          have hDl : D < 1000 := by have := hx.1; omega
          have hDl' : (D : Int) < 1000 := by omega
          rw [hD] at c0
          have hgl := R.out.lt
          have hg := R.out.cell hDl
          have hf := R.out.frozen D
          clear hx
          go_wp2_with fail
          go_roundw
          case rel =>
            refine ⟨k + 1, by omega, by go_num, ((R.out.set D _).alloc _).congr (fun j hj => ?_), (KR.out.setCell (by simp) (fun x hx => by simp [calBox] at hx; rcases hx with rfl | rfl <;> simp) _).alloc _⟩
            show _ = Value.int _ (if dy k = (j : Int) then hr k else over f dy hr k j)
            by_cases e : j = D
            · subst e; rw [if_pos rfl, if_pos hD]
            · rw [if_neg e, if_neg (by omega)]
          case measure => simp [intOf]; omega
        · obtain rfl : k = m := by omega
          go_wp2_with fail
          go_ret
          exact ⟨_, rfl, R.out, KR.out.below⟩
end Go.Proofs.Ytkbmlpnfdogioaa
