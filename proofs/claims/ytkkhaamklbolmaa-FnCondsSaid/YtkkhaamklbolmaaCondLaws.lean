/-
  Walk of the law FnExactIsCond.
-/
import Derived.Test.YtkkhaamklbolmaaIsCond
namespace Go.Proofs.Ytkkhaamklbolmaa
open Go.RowKit
set_option linter.unusedVariables false
set_option linter.unusedSimpArgs false

theorem condSum_left {op vl : Nat → ByteArray} {n : Nat} {k : Int} (h : (n : Int) + (condNodeSum op vl n : Int) ≤ k) : condNodeLeft op vl n k = k - (n : Int) - (condNodeSum op vl n : Int) := by unfold condNodeLeft; rw [if_pos h]
theorem law_IsCond (w : World) (A : Option Addr) (n c : Nat) (kd : Nat → Int) (op vl : Nat → ByteArray) (h : CondNodeF w A n c kd op vl) :
    Calls Try.prog 3 #[.slice A n c] w fun e w' => e = .returned (.bool true) ∧ Below w.heap.size w w' := by
  have H := Lib.hid h
  have sz := szCondNodeS_any w A n c kd op vl 1048576 h (by omega) (by omega)
  clear h
  by_cases hs : (n : Int) + (condNodeSum op vl n : Int) ≤ 1048576
  case neg =>
    have e : condNodeLeft op vl n 1048576 = -1 := by unfold condNodeLeft; rw [if_neg hs]
    rw [e] at sz
    have SZ := Lib.hid sz
    clear sz e
    go_enter Try.func3, Try.ntmps3
    go_wp2_with fail
    refine SZ.out.mono ?_; rintro e w1 ⟨rfl, b1⟩
    go_wp2_with fail
    go_ret
    exact ⟨rfl, b1⟩
  have hn : n ≤ 1048576 := by omega
  rw [condSum_left hs] at sz
  obtain ⟨t, ht⟩ : ∃ t : Int, t = 1048576 - (n : Int) - (condNodeSum op vl n : Int) := ⟨_, rfl⟩
  rw [← ht] at sz
  have t0 : ¬ t < 0 := by omega
  have SZ := Lib.hid sz
  clear sz ht hs
  go_enter Try.func3, Try.ntmps3
  go_wp2_with fail
  refine SZ.out.mono ?_; rintro e w1 ⟨rfl, b1⟩
  have H1 := Lib.hid (H.out.call b1)
  have B1 := Lib.hid b1
  clear b1
  go_wp2_with fail
  refine (toCondNodeS_any _ A n c kd op vl H1.out hn).mono ?_; rintro e w2 ⟨g2, rfl, hg2, X2, _, b2⟩
  have H2 := Lib.hid (H1.out.call b2)
  have B2 := Lib.hid (B1.out.trans (b2.mono B1.out.size))
  have XX := Lib.hid X2
  clear b2 X2
  go_wp2_with fail
  refine (spec_IsCond _ _ n n kd op vl XX.out).mono ?_; rintro e w3 ⟨rfl, b3⟩
  have H3 := Lib.hid (H2.out.call b3)
  have B3 := Lib.hid (B2.out.trans (b3.mono B2.out.size))
  clear b3
  obtain ⟨Q, hQ⟩ : ∃ Q, Q = isCondB kd op vl n := ⟨_, rfl⟩
  rw [← hQ]
  have HQ := Lib.hid hQ
  clear hQ
  go_wp2_with fail
  refine (toCondNodeS_any _ A n c kd op vl H3.out hn).mono ?_; rintro e w4 ⟨g4, rfl, hg4, X4, _, b4⟩
  have H4 := Lib.hid (H3.out.call b4)
  have B4 := Lib.hid (B3.out.trans (b4.mono B3.out.size))
  have Y4 := Lib.hid X4
  clear b4 X4
  go_wp2_with fail
  refine (impl_IsCond _ _ n n kd op vl Y4.out).mono ?_; rintro e w5 ⟨rfl, b5⟩
  have H5 := Lib.hid (H4.out.call b5)
  have B5 := Lib.hid (B4.out.trans (b5.mono B4.out.size))
  have Y5 := Lib.hid (Y4.out.call b5)
  clear b5
  rw [← HQ.out]
  have hqq : (Q != Q) = false := by simp
  go_wp2_with fail
  refine (toCondNodeS_any _ A n c kd op vl H5.out hn).mono ?_; rintro e w6 ⟨g6, rfl, hg6, X6, _, b6⟩
  have Y6 := Lib.hid (Y5.out.call b6)
  have B6 := Lib.hid (B5.out.trans (b6.mono B5.out.size))
  have Z6 := Lib.hid X6
  clear b6 X6
  go_wp2_with fail
  refine (eqCondNodeS_same _ _ _ n n n kd op vl Y6.out Z6.out).mono ?_; rintro e w7 ⟨rfl, b7⟩
  have B7 := Lib.hid (B6.out.trans (b7.mono B6.out.size))
  clear b7
  go_wp2_with fail
  go_ret
  exact ⟨rfl, B7.out⟩
end Go.Proofs.Ytkkhaamklbolmaa
