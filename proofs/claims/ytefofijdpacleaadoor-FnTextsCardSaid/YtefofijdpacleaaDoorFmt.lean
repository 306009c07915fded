/-
  Whole numbers as texts: contract of the reference's FormatInt.
-/
import Derived.Test.YtefofijdpacleaaDoorProg
import Derived.WalkKit
import Derived.Lib.Hide
import Derived.KernelRfl
import Derived.Laws.Concat
import Derived.Lib.ItoaNum
import Derived.Lib.ItoaLen
namespace Go.Proofs.YtefofijdpacleaaDoor
open Go.RowKit Go.Lib
set_option linter.unusedVariables false
set_option linter.unusedSimpArgs false

def tenS : ByteArray := ⟨#[48, 49, 50, 51, 52, 53, 54, 55, 56, 57]⟩
/-- one digit -/
def digS (d : Nat) : ByteArray := ⟨#[UInt8.ofNat (48 + d)]⟩
/-- the text of a whole number -/
def itoaS (n : Int) : ByteArray := ⟨(itoa n).toArray⟩
theorem ret_str {a b : ByteArray} (h : a = b) : Ending.returned (.string a) = .returned (.string b) := by rw [h]
theorem cut_ten {d : Nat} (h : d < 10) : tenS.extract d (d + 1) = digS d := by
  rcases (by omega : d = 0 ∨ d = 1 ∨ d = 2 ∨ d = 3 ∨ d = 4 ∨ d = 5 ∨ d = 6 ∨ d = 7 ∨ d = 8 ∨ d = 9) with rfl | rfl | rfl | rfl | rfl | rfl | rfl | rfl | rfl | rfl <;> rfl
/-- what the loop keeps: u is what is left of m, s the digits so far -/
def FmtRel (m u : Nat) (s : ByteArray) : Prop := (u ≠ 0 → decDigits u ++ s.data.toList = decDigits m) ∧ (u = 0 → m ≠ 0 → s.data.toList = decDigits m) ∧ s.size ≤ 20
theorem fmt_start (m : Nat) : FmtRel m m ⟨#[]⟩ := ⟨fun _ => List.append_nil _, fun h h0 => absurd h h0, Nat.zero_le _⟩
theorem size_list (s : ByteArray) : s.size = s.data.toList.length := (Array.length_toList (xs := s.data)).symm
theorem fmt_step {m u : Nat} {s : ByteArray} (hm : m < 18446744073709551616) (hu : u ≠ 0) (h : FmtRel m u s) : FmtRel m (u / 10) (digS (u % 10) ++ s) := by
  obtain ⟨h1, h2, h3⟩ := h
  have k := h1 hu
  have e : (digS (u % 10) ++ s).data.toList = UInt8.ofNat (48 + u % 10) :: s.data.toList := by simp [digS, ByteArray.data_append]
  have hl := congrArg List.length k
  have h20 := nDigits_le20 m hm
  rw [← decDigits_length] at h20
  have hs : (digS (u % 10) ++ s).size ≤ 20 := by
    rw [size_list, e, List.length_cons]
    rw [List.length_append] at hl
    have : 1 ≤ (decDigits u).length := by rw [decDigits_length]; exact nDigits_pos u
    omega
  by_cases h10 : u < 10
  · rw [decDigits_one h10] at k
    have z : u / 10 = 0 := by omega
    refine ⟨fun h => absurd z h, fun _ _ => ?_, hs⟩
    rw [e, ← k, show u % 10 = u by omega]
    rfl
  · refine ⟨fun _ => ?_, fun h => by omega, hs⟩
    rw [e, ← k]
    conv => rhs; rw [decDigits, dif_neg h10]
    simp
theorem fmt_end {m : Nat} {s : ByteArray} (h : FmtRel m 0 s) (hm : m ≠ 0) : s.data.toList = decDigits m := h.2.1 rfl hm
theorem itoaS_zero : itoaS 0 = ⟨#[48]⟩ := by
  unfold itoaS itoa
  rw [if_neg (by omega)]
  show (⟨(decDigits 0).toArray⟩ : ByteArray) = _
  rw [decDigits_one (by omega)]
  rfl
theorem itoaS_pos {n : Int} (h : 0 < n) {s : ByteArray} (hs : s.data.toList = decDigits n.natAbs) : itoaS n = s := by
  unfold itoaS itoa
  rw [if_neg (by omega), show n.toNat = n.natAbs by omega, ← hs]
theorem itoaS_neg {n : Int} (h : n < 0) {s : ByteArray} (hs : s.data.toList = decDigits n.natAbs) : itoaS n = ⟨#[45]⟩ ++ s := by
  unfold itoaS itoa
  rw [if_pos h, ← hs]
  apply ByteArray.ext
  simp [ByteArray.data_append]
theorem tdiv_neg10 (u : Nat) : (-(u : Int)).tdiv 10 = -((u / 10 : Nat) : Int) := by
  rw [Int.neg_tdiv, Int.tdiv_eq_ediv_of_nonneg (by omega)]; omega
theorem tmod_neg10 (u : Nat) : (-(u : Int)).tmod 10 = -((u % 10 : Nat) : Int) := by
  rw [Int.neg_tmod, Int.tmod_eq_emod_of_nonneg (by omega)]; omega

theorem slice_ten {d : Nat} (h : d < 10) (w : World) : (Instr.slice 9 (.string ⟨#[48, 49, 50, 51, 52, 53, 54, 55, 56, 57]⟩) (some (.int .i64 (d : Int))) (some (.int .i64 ((d : Int) + 1))) none).run Tryd.prog w = .ok (.string (digS d)) w := by
  have e := run_slice_string (P := Tryd.prog) w 9 tenS .i64 .i64 (d : Int) ((d : Int) + 1) Tryd.underlying9 (by omega) (by omega) (by show (d : Int) + 1 ≤ 10; omega)
  rw [show ((d : Int) + 1).toNat = d + 1 by omega, show (d : Int).toNat = d by omega, cut_ten h] at e
  exact e
set_option maxRecDepth 20000 in
set_option maxHeartbeats 1000000 in
theorem spec_FormatInt_pos (n : Nat) (w : World) (hn : (n : Int) ≤ 9223372036854775807) :
    Calls Tryd.prog 14 #[.int .i64 (n : Int)] w fun e w' => e = .returned (.string (itoaS (n : Int))) ∧ w' = w := by
  go_enter Tryd.func14, Tryd.ntmps14
  go_wp2_with fail
  go_loop [3, 4] (fun s x => ∃ (u : Nat) (z : ByteArray), x = .int .i64 (u : Int) ∧ s = .string z ∧ u ≤ n ∧ FmtRel n u z) (fun _ x => (intOf x).toNat)
  case atStart => exact ⟨n, _, rfl, rfl, Nat.le_refl _, fmt_start n⟩
  case round =>
    obtain ⟨u, z, rfl, rfl, hun, hrel⟩ := hrel
    have HR := Lib.hid hrel
    clear hrel
    have hz : z.size ≤ 20 := HR.out.2.2
    by_cases hu : u = 0
    · subst hu
      by_cases hn0 : n = 0
      · subst hn0
        go_wp2_with fail
        go_ret
        exact ⟨ret_str itoaS_zero.symm, rfl⟩
      · have e0 : ((n : Int) == 0) = false := by simp; omega
        have e1 : ¬ (n : Int) < 0 := by omega
        have e2 := Lib.hid (itoaS_pos (n := (n : Int)) (by omega) (s := z) (by rw [fmt_end HR.out hn0]; rfl))
        go_wp2_with fail
        go_ret
        exact ⟨ret_str e2.out.symm, rfl⟩
    · have hu0 : 0 < (u : Int) := by omega
      have b0 : ((u : Int) != 0) = true := by simp; omega
      obtain ⟨d, hd⟩ : ∃ d, d = u % 10 := ⟨_, rfl⟩
      obtain ⟨v, hv⟩ : ∃ v, v = u / 10 := ⟨_, rfl⟩
      have d0 : ((u : Int) % 10) = (d : Int) := by omega
      have d1 : ((u : Int) / 10) = (v : Int) := by omega
      have d2 : d < 10 := by omega
      have ct := slice_ten d2
      have HD := Lib.hid hd
      have HV := Lib.hid hv
      have a1 := run_string_add_sum (P := Tryd.prog) w (digS d) z (by show 1 + z.size ≤ _; omega)
      clear hd hv
      go_wp2_with fail
      go_round
      case rel => exact ⟨v, _, rfl, rfl, by have := HV.out; omega, by have := fmt_step (by omega) hu HR.out; rw [← HD.out, ← HV.out] at this; exact this⟩
      case measure => simp [intOf]; have := HV.out; omega

set_option maxRecDepth 20000 in
set_option maxHeartbeats 1000000 in
theorem spec_FormatInt_neg (n : Nat) (w : World) (hn0 : n ≠ 0) (hn : -9223372036854775808 ≤ -(n : Int)) :
    Calls Tryd.prog 14 #[.int .i64 (-(n : Int))] w fun e w' => e = .returned (.string (itoaS (-(n : Int)))) ∧ w' = w := by
  obtain ⟨N, hN⟩ : ∃ N : Int, N = -(n : Int) := ⟨_, rfl⟩
  rw [← hN]
  have n1 : N < 0 := by omega
  have n2 : -9223372036854775808 ≤ N := by omega
  have HN := Lib.hid hN
  clear hN hn
  go_enter Tryd.func14, Tryd.ntmps14
  go_wp2_with fail
  go_loop [3, 4] (fun s x => ∃ (u : Nat) (z : ByteArray) (X : Int), x = .int .i64 X ∧ X = -(u : Int) ∧ s = .string z ∧ u ≤ n ∧ FmtRel n u z) (fun _ x => (intOf x).natAbs)
  case atStart => exact ⟨n, _, N, rfl, HN.out, rfl, Nat.le_refl _, fmt_start n⟩
  case round =>
    obtain ⟨u, z, X, rfl, hX, rfl, hun, hrel⟩ := hrel
    have HR := Lib.hid hrel
    clear hrel
    have hz : z.size ≤ 20 := HR.out.2.2
    by_cases hu : u = 0
    · have X0 : X = 0 := by omega
      clear hX
      subst X0
      subst hu
      have e0 : (N == 0) = false := by simp; omega
      have e2 := Lib.hid (itoaS_neg (n := N) n1 (s := z) (by rw [fmt_end HR.out hn0, HN.out]; congr 1; omega))
      have a1 := run_string_add_sum (P := Tryd.prog) w ⟨#[45]⟩ z (by show 1 + z.size ≤ _; omega)
      go_wp2_with fail
      go_ret
      exact ⟨ret_str e2.out.symm, rfl⟩
    · have b0 : (X != 0) = true := by simp; omega
      have x1 : X < 0 := by omega
      have x2 : -9223372036854775808 ≤ X := by have := HN.out; omega
      obtain ⟨d, hd⟩ : ∃ d, d = u % 10 := ⟨_, rfl⟩
      obtain ⟨v, hv⟩ : ∃ v, v = u / 10 := ⟨_, rfl⟩
      obtain ⟨Y, hY⟩ : ∃ Y : Int, Y = -(v : Int) := ⟨_, rfl⟩
      have d0 : X.tmod 10 = -(d : Int) := by rw [hX, tmod_neg10, hd]
      have d1 : X.tdiv 10 = Y := by rw [hX, tdiv_neg10, hY, hv]
      have d2 : d < 10 := by omega
      have y1 : -9223372036854775808 ≤ Y := by omega
      have y2 : Y ≤ 9223372036854775807 := by omega
      have ct := slice_ten d2
      have HD := Lib.hid hd
      have HV := Lib.hid hv
      have HX := Lib.hid hX
      have HY := Lib.hid hY
      have a1 := run_string_add_sum (P := Tryd.prog) w (digS d) z (by show 1 + z.size ≤ _; omega)
      clear hd hv hX hY
      by_cases hdz : d = 0
      · have dn : ¬ -(d : Int) < 0 := by omega
        have dz : -(d : Int) = (d : Int) := by omega
        rw [dz] at d0 dn
        clear dz hdz
        go_wp2_with fail
        go_round
        case rel => exact ⟨v, _, Y, rfl, HY.out, rfl, by have := HV.out; omega, by have := fmt_step (by have := HN.out; omega) hu HR.out; rw [← HD.out, ← HV.out] at this; exact this⟩
        case measure => simp [intOf]; have := HV.out; have := HX.out; have := HY.out; omega
      · have dn : -(d : Int) < 0 := by omega
        go_wp2_with fail
        go_round
        case rel => exact ⟨v, _, Y, rfl, HY.out, rfl, by have := HV.out; omega, by have := fmt_step (by have := HN.out; omega) hu HR.out; rw [← HD.out, ← HV.out] at this; exact this⟩
        case measure => simp [intOf]; have := HV.out; have := HX.out; have := HY.out; omega
theorem spec_FormatInt (n : Int) (w : World) (h0 : -9223372036854775808 ≤ n) (h1 : n ≤ 9223372036854775807) :
    Calls Tryd.prog 14 #[.int .i64 n] w fun e w' => e = .returned (.string (itoaS n)) ∧ w' = w := by
  by_cases h : 0 ≤ n
  · obtain ⟨m, rfl⟩ : ∃ m : Nat, n = (m : Int) := ⟨n.toNat, by omega⟩
    exact spec_FormatInt_pos m w h1
  · obtain ⟨m, rfl⟩ : ∃ m : Nat, n = -(m : Int) := ⟨n.natAbs, by omega⟩
    exact spec_FormatInt_neg m w (by omega) h0
end Go.Proofs.YtefofijdpacleaaDoor
