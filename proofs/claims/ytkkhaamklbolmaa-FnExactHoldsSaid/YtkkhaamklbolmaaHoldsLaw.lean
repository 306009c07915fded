/-
  Walk of the law FnExactHolds. (Printed by gen/holdslaw.py.)
-/
import Derived.Test.YtkkhaamklbolmaaHolds
import Derived.Test.YtkkhaamklbolmaaCondLaws
namespace Go.Proofs.Ytkkhaamklbolmaa
open Go.RowKit
set_option linter.unusedVariables false
set_option linter.unusedSimpArgs false

theorem pickSum_left {po pv : Nat → ByteArray} {n : Nat} {k : Int} (h : (n : Int) + (pickSum po pv n : Int) ≤ k) : pickLeft po pv n k = k - (n : Int) - (pickSum po pv n : Int) := by unfold pickLeft; rw [if_pos h]
set_option maxRecDepth 20000 in
set_option maxHeartbeats 4000000 in
theorem law_Holds (w : World) (A : Option Addr) (n c : Nat) (kd : Nat → Int) (op vl : Nat → ByteArray) (h : CondNodeF w A n c kd op vl) (A2 : Option Addr) (m c2 : Nat) (po pv : Nat → ByteArray) (hp : PickF w A2 m c2 po pv) :
    Calls Try.prog 6 #[.slice A n c, .slice A2 m c2] w fun e w' => e = .returned (.bool true) ∧ Below w.heap.size w w' := by
  have H := Lib.hid h
  have K := Lib.hid hp
  have sz := szCondNodeS_any w A n c kd op vl 1048576 h (by omega) (by omega)
  clear h hp
  by_cases hs : (n : Int) + (condNodeSum op vl n : Int) ≤ 1048576
  case neg =>
    have e : condNodeLeft op vl n 1048576 = -1 := by unfold condNodeLeft; rw [if_neg hs]
    rw [e] at sz
    have SZ := Lib.hid sz
    clear sz e
    go_enter Try.func6, Try.ntmps6
    go_wp2_with fail
    refine SZ.out.mono ?_; rintro e w1 ⟨rfl, b1⟩
    go_wp2_with fail
    go_ret
    exact ⟨rfl, b1⟩
  have hn : n ≤ 1048576 := by omega
  rw [condSum_left hs] at sz
  obtain ⟨t, ht⟩ : ∃ t : Int, t = 1048576 - (n : Int) - (condNodeSum op vl n : Int) := ⟨_, rfl⟩
  rw [← ht] at sz
  have t0 : ¬ t < 0 := by omega
  have t1 : t ≤ 1048576 := by omega
  have SZ := Lib.hid sz
  clear sz ht hs
  by_cases hs : (m : Int) + (pickSum po pv m : Int) ≤ t
  case neg =>
    have e : pickLeft po pv m t = -1 := by unfold pickLeft; rw [if_neg hs]
    clear hs
    go_enter Try.func6, Try.ntmps6
    go_wp2_with fail
    refine SZ.out.mono ?_; rintro e w1 ⟨rfl, b1⟩
    have B1 := Lib.hid b1
    have K1 := Lib.hid (K.out.call b1)
    clear b1
    go_wp2_with fail
    refine (szPickS_any _ A2 m c2 po pv t K1.out (by omega) t1).mono ?_; rw [e]; rintro e w2 ⟨rfl, b2⟩
    have B2 := Lib.hid (B1.out.trans (b2.mono B1.out.size))
    clear b2
    go_wp2_with fail
    go_ret
    exact ⟨rfl, B2.out⟩
  have hm : m ≤ 1048576 := by omega
  have e : pickLeft po pv m t = t - (m : Int) - (pickSum po pv m : Int) := pickSum_left hs
  obtain ⟨u, hu⟩ : ∃ u : Int, u = t - (m : Int) - (pickSum po pv m : Int) := ⟨_, rfl⟩
  rw [← hu] at e
  have u0 : ¬ u < 0 := by omega
  have E := Lib.hid e
  clear hs hu e
  obtain ⟨Q, hQ⟩ : ∃ Q, Q = holdsB kd op vl po pv n m := ⟨_, rfl⟩
  have SP := Lib.hid (fun (W : World) (X : Option Addr) (d : Nat) (hx : CondNodeF W X n d kd op vl) (Y : Option Addr) (d2 : Nat) (hy : PickF W Y m d2 po pv) => spec_Holds W X n d kd op vl hx Y m d2 po pv hy)
  have IM := Lib.hid (fun (W : World) (X : Option Addr) (d : Nat) (hx : CondNodeF W X n d kd op vl) (Y : Option Addr) (d2 : Nat) (hy : PickF W Y m d2 po pv) => impl_Holds W X n d kd op vl hx Y m d2 po pv hy)
  rw [← hQ] at SP IM
  clear hQ
  go_enter Try.func6, Try.ntmps6
  go_wp2_with fail
  refine SZ.out.mono ?_; rintro e w1 ⟨rfl, b1⟩
  have H1 := Lib.hid (H.out.call b1)
  have K1 := Lib.hid (K.out.call b1)
  have B1 := Lib.hid b1
  clear b1
  go_wp2_with fail
  refine (szPickS_any _ A2 m c2 po pv t K1.out (by omega) t1).mono ?_; rw [E.out]; rintro e w2 ⟨rfl, b2⟩
  have H2 := Lib.hid (H1.out.call b2)
  have K2 := Lib.hid (K1.out.call b2)
  have B2 := Lib.hid (B1.out.trans (b2.mono B1.out.size))
  clear b2
  go_wp2_with fail
  refine (toCondNodeS_any _ A n c kd op vl H2.out hn).mono ?_; rintro e w3 ⟨g3, rfl, hg3, X3, _, b3⟩
  have H3 := Lib.hid (H2.out.call b3)
  have K3 := Lib.hid (K2.out.call b3)
  have B3 := Lib.hid (B2.out.trans (b3.mono B2.out.size))
  have P3 := Lib.hid X3
  clear b3 X3
  go_wp2_with fail
  refine (toPickS_any _ A2 m c2 po pv K3.out hm).mono ?_; rintro e w4 ⟨g4, rfl, hg4, X4, _, b4⟩
  have H4 := Lib.hid (H3.out.call b4)
  have K4 := Lib.hid (K3.out.call b4)
  have P4 := Lib.hid (P3.out.call b4)
  have B4 := Lib.hid (B3.out.trans (b4.mono B3.out.size))
  have R4 := Lib.hid X4
  clear b4 X4
  go_wp2_with fail
  refine (SP.out _ _ _ P4.out _ _ R4.out).mono ?_; rintro e w5 ⟨rfl, b5⟩
  have H5 := Lib.hid (H4.out.call b5)
  have K5 := Lib.hid (K4.out.call b5)
  have B5 := Lib.hid (B4.out.trans (b5.mono B4.out.size))
  clear b5
  go_wp2_with fail
  refine (toCondNodeS_any _ A n c kd op vl H5.out hn).mono ?_; rintro e w6 ⟨g6, rfl, hg6, X6, _, b6⟩
  have H6 := Lib.hid (H5.out.call b6)
  have K6 := Lib.hid (K5.out.call b6)
  have B6 := Lib.hid (B5.out.trans (b6.mono B5.out.size))
  have Y6 := Lib.hid X6
  clear b6 X6
  go_wp2_with fail
  refine (toPickS_any _ A2 m c2 po pv K6.out hm).mono ?_; rintro e w7 ⟨g7, rfl, hg7, X7, _, b7⟩
  have H7 := Lib.hid (H6.out.call b7)
  have K7 := Lib.hid (K6.out.call b7)
  have Y7 := Lib.hid (Y6.out.call b7)
  have B7 := Lib.hid (B6.out.trans (b7.mono B6.out.size))
  have Z7 := Lib.hid X7
  clear b7 X7
  go_wp2_with fail
  refine (IM.out _ _ _ Y7.out _ _ Z7.out).mono ?_; rintro e w8 ⟨rfl, b8⟩
  have H8 := Lib.hid (H7.out.call b8)
  have K8 := Lib.hid (K7.out.call b8)
  have Y8 := Lib.hid (Y7.out.call b8)
  have Z8 := Lib.hid (Z7.out.call b8)
  have B8 := Lib.hid (B7.out.trans (b8.mono B7.out.size))
  clear b8
  have hqq : (Q != Q) = false := by simp
  go_wp2_with fail
  refine (toCondNodeS_any _ A n c kd op vl H8.out hn).mono ?_; rintro e w9 ⟨g9, rfl, hg9, X9, _, b9⟩
  have K9 := Lib.hid (K8.out.call b9)
  have Y9 := Lib.hid (Y8.out.call b9)
  have Z9 := Lib.hid (Z8.out.call b9)
  have B9 := Lib.hid (B8.out.trans (b9.mono B8.out.size))
  have V9 := Lib.hid X9
  clear b9 X9
  go_wp2_with fail
  refine (eqCondNodeS_same _ _ _ n n n kd op vl Y9.out V9.out).mono ?_; rintro e w10 ⟨rfl, b10⟩
  have K10 := Lib.hid (K9.out.call b10)
  have Z10 := Lib.hid (Z9.out.call b10)
  have B10 := Lib.hid (B9.out.trans (b10.mono B9.out.size))
  clear b10
  go_wp2_with fail
  refine (toPickS_any _ A2 m c2 po pv K10.out hm).mono ?_; rintro e w11 ⟨g11, rfl, hg11, X11, _, b11⟩
  have Z11 := Lib.hid (Z10.out.call b11)
  have B11 := Lib.hid (B10.out.trans (b11.mono B10.out.size))
  have V11 := Lib.hid X11
  clear b11 X11
  go_wp2_with fail
  refine (eqPickS_same _ _ _ m m m po pv Z11.out V11.out).mono ?_; rintro e w12 ⟨rfl, b12⟩
  have B12 := Lib.hid (B11.out.trans (b12.mono B11.out.size))
  clear b12
  go_wp2_with fail
  go_ret
  exact ⟨rfl, B12.out⟩
end Go.Proofs.Ytkkhaamklbolmaa
