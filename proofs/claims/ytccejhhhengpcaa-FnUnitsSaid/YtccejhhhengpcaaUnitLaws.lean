/-
  Walks of the laws FnExactIsUnitTable, FnExactFactorOf, FnExactConvertDown, FnExactConvertUp. (Printed by gen/unitlaws.py.)
-/
import Derived.Test.YtccejhhhengpcaaConvert
namespace Go.Proofs.Ytccejhhhengpcaa
open Go.RowKit
set_option linter.unusedVariables false
set_option linter.unusedSimpArgs false

theorem ruleSum_left {fr to : Nat → ByteArray} {n : Nat} {k : Int} (h : (n : Int) + (unitRuleSum fr to n : Int) ≤ k) : unitRuleLeft fr to n k = k - (n : Int) - (unitRuleSum fr to n : Int) := by unfold unitRuleLeft; rw [if_pos h]
set_option maxRecDepth 20000 in
set_option maxHeartbeats 4000000 in
theorem law_IsUnitTable (w : World) (A : Option Addr) (n c : Nat) (fr to : Nat → ByteArray) (nu de : Nat → Int) (h : UnitRuleF w A n c fr to nu de) :
    Calls Try.prog 3 #[.slice A n c] w fun e w' => e = .returned (.bool true) ∧ Below w.heap.size w w' := by
  have H := Lib.hid h
  have sz := szUnitRuleS_any w A n c fr to nu de 1048576 h (by omega) (by omega)
  clear h
  by_cases hs : (n : Int) + (unitRuleSum fr to n : Int) ≤ 1048576
  case neg =>
    have e : unitRuleLeft fr to n 1048576 = -1 := by unfold unitRuleLeft; rw [if_neg hs]
    rw [e] at sz
    have SZ := Lib.hid sz
    clear sz e hs
    go_enter Try.func3, Try.ntmps3
    go_wp2_with fail
    refine SZ.out.mono ?_; rintro e w1 ⟨rfl, b1⟩
    go_wp2_with fail
    go_ret
    exact ⟨rfl, b1⟩
  have hn : n ≤ 1048576 := by omega
  rw [ruleSum_left hs] at sz
  obtain ⟨t, ht⟩ : ∃ t : Int, t = 1048576 - (n : Int) - (unitRuleSum fr to n : Int) := ⟨_, rfl⟩
  rw [← ht] at sz
  have t0 : ¬ t < 0 := by omega
  have SZ := Lib.hid sz
  clear sz ht hs
  have SP := Lib.hid (fun (W : World) (Y : Option Addr) (d : Nat) (hx : UnitRuleF W Y n d fr to nu de) => spec_IsUnitTable W Y n d fr to nu de hx hn)
  have IM := Lib.hid (fun (W : World) (Y : Option Addr) (d : Nat) (hx : UnitRuleF W Y n d fr to nu de) => impl_IsUnitTable W Y n d fr to nu de hx)
  generalize tableB (tb n fr to nu de) = Q at *
  have hqq : (Q != Q) = false := by simp
  go_enter Try.func3, Try.ntmps3
  go_wp2_with fail
  refine SZ.out.mono ?_; rintro e w1 ⟨rfl, b1⟩
  have H1 := Lib.hid (H.out.call b1)
  have B1 := Lib.hid b1
  clear b1
  go_wp2_with fail
  refine (toUnitRuleS_any _ A n c fr to nu de H1.out hn).mono ?_; rintro e w2 ⟨g2, rfl, hg2, X2, _, b2⟩
  have H2 := Lib.hid (H1.out.call b2)
  have B2 := Lib.hid (B1.out.trans (b2.mono B1.out.size))
  have XX := Lib.hid X2
  clear b2 X2
  go_wp2_with fail
  refine (SP.out _ _ n XX.out).mono ?_; rintro e w3 ⟨rfl, b3⟩
  have H3 := Lib.hid (H2.out.call b3)
  have B3 := Lib.hid (B2.out.trans (b3.mono B2.out.size))
  clear b3
  go_wp2_with fail
  refine (toUnitRuleS_any _ A n c fr to nu de H3.out hn).mono ?_; rintro e w4 ⟨g4, rfl, hg4, X4, _, b4⟩
  have H4 := Lib.hid (H3.out.call b4)
  have B4 := Lib.hid (B3.out.trans (b4.mono B3.out.size))
  have Y4 := Lib.hid X4
  clear b4 X4
  go_wp2_with fail
  refine (IM.out _ _ n Y4.out).mono ?_; rintro e w5 ⟨rfl, b5⟩
  have H5 := Lib.hid (H4.out.call b5)
  have B5 := Lib.hid (B4.out.trans (b5.mono B4.out.size))
  have Y5 := Lib.hid (Y4.out.call b5)
  clear b5
  go_wp2_with fail
  refine (toUnitRuleS_any _ A n c fr to nu de H5.out hn).mono ?_; rintro e w7 ⟨g7, rfl, hg7, X7, _, b7⟩
  have Y7 := Lib.hid (Y5.out.call b7)
  have B7 := Lib.hid (B5.out.trans (b7.mono B5.out.size))
  have Z7 := Lib.hid X7
  clear b7 X7
  go_wp2_with fail
  refine (eqUnitRuleS_same _ _ _ n n n fr to nu de Y7.out Z7.out).mono ?_; rintro e w8 ⟨rfl, b8⟩
  have B8 := Lib.hid (B7.out.trans (b8.mono B7.out.size))
  clear b8
  go_wp2_with fail
  go_ret
  exact ⟨rfl, B8.out⟩
set_option maxRecDepth 20000 in
set_option maxHeartbeats 4000000 in
theorem law_FactorOf (w : World) (A : Option Addr) (n c : Nat) (fr to : Nat → ByteArray) (nu de : Nat → Int) (h : UnitRuleF w A n c fr to nu de) (a : ByteArray) (za : a.size ≤ maxLen) (b : ByteArray) (zb : b.size ≤ maxLen) :
    Calls Try.prog 4 #[.slice A n c, .string a, .string b] w fun e w' => e = .returned (.bool true) ∧ Below w.heap.size w w' := by
  have na : a.size ≤ 9223372036854775807 := by unfold maxLen at za; omega
  clear za
  have nb : b.size ≤ 9223372036854775807 := by unfold maxLen at zb; omega
  clear zb
  have H := Lib.hid h
  have sz := szUnitRuleS_any w A n c fr to nu de 1048576 h (by omega) (by omega)
  clear h
  by_cases ba : 1048576 < (a.size : Int)
  · go_enter Try.func4, Try.ntmps4
    go_wp2_with fail
    go_ret
    exact ⟨rfl, Below.refl _ _⟩
  by_cases bb : 1048576 < (b.size : Int)
  · go_enter Try.func4, Try.ntmps4
    go_wp2_with fail
    go_ret
    exact ⟨rfl, Below.refl _ _⟩
  by_cases hs : (n : Int) + (unitRuleSum fr to n : Int) ≤ 1048576
  case neg =>
    have e : unitRuleLeft fr to n 1048576 = -1 := by unfold unitRuleLeft; rw [if_neg hs]
    rw [e] at sz
    have SZ := Lib.hid sz
    clear sz e hs
    go_enter Try.func4, Try.ntmps4
    go_wp2_with fail
    refine SZ.out.mono ?_; rintro e w1 ⟨rfl, b1⟩
    go_wp2_with fail
    go_ret
    exact ⟨rfl, b1⟩
  have hn : n ≤ 1048576 := by omega
  rw [ruleSum_left hs] at sz
  obtain ⟨t, ht⟩ : ∃ t : Int, t = 1048576 - (n : Int) - (unitRuleSum fr to n : Int) := ⟨_, rfl⟩
  rw [← ht] at sz
  have t0 : ¬ t < 0 := by omega
  have SZ := Lib.hid sz
  clear sz ht hs
  have SP := Lib.hid (fun (W : World) (Y : Option Addr) (d : Nat) (hx : UnitRuleF W Y n d fr to nu de) => spec_FactorOf W Y n d fr to nu de hx hn a b na nb)
  have IM := Lib.hid (fun (W : World) (Y : Option Addr) (d : Nat) (hx : UnitRuleF W Y n d fr to nu de) => impl_FactorOf W Y n d fr to nu de hx hn a b na nb)
  generalize (facOf (tb n fr to nu de) a b).1.1 = p at *
  generalize (facOf (tb n fr to nu de) a b).1.2 = d0 at *
  generalize (facOf (tb n fr to nu de) a b).2 = Q at *
  have hqq : (Q != Q) = false := by simp
  go_enter Try.func4, Try.ntmps4
  go_wp2_with fail
  refine SZ.out.mono ?_; rintro e w1 ⟨rfl, b1⟩
  have H1 := Lib.hid (H.out.call b1)
  have B1 := Lib.hid b1
  clear b1
  go_wp2_with fail
  refine (toUnitRuleS_any _ A n c fr to nu de H1.out hn).mono ?_; rintro e w2 ⟨g2, rfl, hg2, X2, _, b2⟩
  have H2 := Lib.hid (H1.out.call b2)
  have B2 := Lib.hid (B1.out.trans (b2.mono B1.out.size))
  have XX := Lib.hid X2
  clear b2 X2
  go_wp2_with fail
  refine (SP.out _ _ n XX.out).mono ?_; rintro e w3 ⟨rfl, b3⟩
  have H3 := Lib.hid (H2.out.call b3)
  have B3 := Lib.hid (B2.out.trans (b3.mono B2.out.size))
  clear b3
  have Hb3 := Lib.hid (H3.out.call ((Below.refl _ _).alloc (Nat.le_refl _) (.cells #[.int .i64 p, .int .i64 d0] 30)))
  have Bb3 := Lib.hid (B3.out.alloc B3.out.size (.cells #[.int .i64 p, .int .i64 d0] 30))
  have R3 := Lib.hid (row_lit w3 #[.int .i64 p, .int .i64 d0] 30 2 (boxF (p, d0)) (by simp) (fun i hi => by unfold boxF; rcases (by omega : i = 0 ∨ i = 1) with rfl | rfl <;> rfl))
  go_wp2_with fail
  refine (toUnitRuleS_any _ A n c fr to nu de Hb3.out hn).mono ?_; rintro e w4 ⟨g4, rfl, hg4, X4, _, b4⟩
  have H4 := Lib.hid (Hb3.out.call b4)
  have B4 := Lib.hid (Bb3.out.trans (b4.mono Bb3.out.size))
  have Y4 := Lib.hid X4
  have R4 := Lib.hid (R3.out.call b4)
  clear b4 X4
  go_wp2_with fail
  refine (IM.out _ _ n Y4.out).mono ?_; rintro e w5 ⟨rfl, b5⟩
  have H5 := Lib.hid (H4.out.call b5)
  have B5 := Lib.hid (B4.out.trans (b5.mono B4.out.size))
  have Y5 := Lib.hid (Y4.out.call b5)
  have R5 := Lib.hid ((R4.out.call b5).alloc (.cells #[.int .i64 p, .int .i64 d0] 30))
  have k0 : (w5.alloc (.cells #[.int .i64 p, .int .i64 d0] 30)).cell? ⟨w3.heap.size, 0, none⟩ = some (.int .i64 p) := R5.out.cell (i := 0) (by omega)
  have k1 : (w5.alloc (.cells #[.int .i64 p, .int .i64 d0] 30)).cell? ⟨w3.heap.size, 1, none⟩ = some (.int .i64 d0) := R5.out.cell (i := 1) (by omega)
  have l5 : w3.heap.size < w5.heap.size := by have := (R4.out.call b5).lt; omega
  have k2 : w5.cell? ⟨w3.heap.size, 0, none⟩ = some (.int .i64 p) := (R4.out.call b5).cell (i := 0) (by omega)
  have k3 : w5.cell? ⟨w3.heap.size, 1, none⟩ = some (.int .i64 d0) := (R4.out.call b5).cell (i := 1) (by omega)
  clear b5
  go_wp2_with fail
  refine (eqRatio_same p d0 _).mono ?_; rintro e w6 ⟨rfl, b6⟩
  have H6 := Lib.hid ((H5.out.call ((Below.refl _ _).alloc (Nat.le_refl _) (.cells #[.int .i64 p, .int .i64 d0] 30))).call b6)
  have B6 := Lib.hid ((B5.out.alloc B5.out.size (.cells #[.int .i64 p, .int .i64 d0] 30)).trans (b6.mono (by have := B5.out.size; simp; omega)))
  have Y6 := Lib.hid ((Y5.out.call ((Below.refl _ _).alloc (Nat.le_refl _) (.cells #[.int .i64 p, .int .i64 d0] 30))).call b6)
  clear b6 k0 k1 k2 k3
  go_wp2_with fail
  refine (toUnitRuleS_any _ A n c fr to nu de H6.out hn).mono ?_; rintro e w7 ⟨g7, rfl, hg7, X7, _, b7⟩
  have Y7 := Lib.hid (Y6.out.call b7)
  have B7 := Lib.hid (B6.out.trans (b7.mono B6.out.size))
  have Z7 := Lib.hid X7
  clear b7 X7
  go_wp2_with fail
  refine (eqUnitRuleS_same _ _ _ n n n fr to nu de Y7.out Z7.out).mono ?_; rintro e w8 ⟨rfl, b8⟩
  have B8 := Lib.hid (B7.out.trans (b8.mono B7.out.size))
  clear b8
  go_wp2_with fail
  go_ret
  exact ⟨rfl, B8.out⟩
set_option maxRecDepth 20000 in
set_option maxHeartbeats 4000000 in
theorem law_ConvertDown (w : World) (A : Option Addr) (n c : Nat) (fr to : Nat → ByteArray) (nu de : Nat → Int) (h : UnitRuleF w A n c fr to nu de) (a : ByteArray) (za : a.size ≤ maxLen) (b : ByteArray) (zb : b.size ≤ maxLen) (q : Int) :
    Calls Try.prog 6 #[.slice A n c, .string a, .string b, .int .i64 q] w fun e w' => e = .returned (.bool true) ∧ Below w.heap.size w w' := by
  have na : a.size ≤ 9223372036854775807 := by unfold maxLen at za; omega
  clear za
  have nb : b.size ≤ 9223372036854775807 := by unfold maxLen at zb; omega
  clear zb
  have H := Lib.hid h
  have sz := szUnitRuleS_any w A n c fr to nu de 1048576 h (by omega) (by omega)
  clear h
  by_cases ba : 1048576 < (a.size : Int)
  · go_enter Try.func6, Try.ntmps6
    go_wp2_with fail
    go_ret
    exact ⟨rfl, Below.refl _ _⟩
  by_cases bb : 1048576 < (b.size : Int)
  · go_enter Try.func6, Try.ntmps6
    go_wp2_with fail
    go_ret
    exact ⟨rfl, Below.refl _ _⟩
  by_cases hs : (n : Int) + (unitRuleSum fr to n : Int) ≤ 1048576
  case neg =>
    have e : unitRuleLeft fr to n 1048576 = -1 := by unfold unitRuleLeft; rw [if_neg hs]
    rw [e] at sz
    have SZ := Lib.hid sz
    clear sz e hs
    go_enter Try.func6, Try.ntmps6
    go_wp2_with fail
    refine SZ.out.mono ?_; rintro e w1 ⟨rfl, b1⟩
    go_wp2_with fail
    go_ret
    exact ⟨rfl, b1⟩
  have hn : n ≤ 1048576 := by omega
  rw [ruleSum_left hs] at sz
  obtain ⟨t, ht⟩ : ∃ t : Int, t = 1048576 - (n : Int) - (unitRuleSum fr to n : Int) := ⟨_, rfl⟩
  rw [← ht] at sz
  have t0 : ¬ t < 0 := by omega
  have SZ := Lib.hid sz
  clear sz ht hs
  have SP := Lib.hid (fun (W : World) (Y : Option Addr) (d : Nat) (hx : UnitRuleF W Y n d fr to nu de) => spec_ConvertDown W Y n d fr to nu de hx hn a b na nb q)
  have IM := Lib.hid (fun (W : World) (Y : Option Addr) (d : Nat) (hx : UnitRuleF W Y n d fr to nu de) => impl_ConvertDown W Y n d fr to nu de hx hn a b na nb q)
  generalize (dnOf (tb n fr to nu de) a b q).1 = p at *
  generalize (dnOf (tb n fr to nu de) a b q).2 = Q at *
  have hpp : (p != p) = false := by simp
  have hqq : (Q != Q) = false := by simp
  go_enter Try.func6, Try.ntmps6
  go_wp2_with fail
  refine SZ.out.mono ?_; rintro e w1 ⟨rfl, b1⟩
  have H1 := Lib.hid (H.out.call b1)
  have B1 := Lib.hid b1
  clear b1
  go_wp2_with fail
  refine (toUnitRuleS_any _ A n c fr to nu de H1.out hn).mono ?_; rintro e w2 ⟨g2, rfl, hg2, X2, _, b2⟩
  have H2 := Lib.hid (H1.out.call b2)
  have B2 := Lib.hid (B1.out.trans (b2.mono B1.out.size))
  have XX := Lib.hid X2
  clear b2 X2
  go_wp2_with fail
  refine (SP.out _ _ n XX.out).mono ?_; rintro e w3 ⟨rfl, b3⟩
  have H3 := Lib.hid (H2.out.call b3)
  have B3 := Lib.hid (B2.out.trans (b3.mono B2.out.size))
  clear b3
  go_wp2_with fail
  refine (toUnitRuleS_any _ A n c fr to nu de H3.out hn).mono ?_; rintro e w4 ⟨g4, rfl, hg4, X4, _, b4⟩
  have H4 := Lib.hid (H3.out.call b4)
  have B4 := Lib.hid (B3.out.trans (b4.mono B3.out.size))
  have Y4 := Lib.hid X4
  clear b4 X4
  go_wp2_with fail
  refine (IM.out _ _ n Y4.out).mono ?_; rintro e w5 ⟨rfl, b5⟩
  have H5 := Lib.hid (H4.out.call b5)
  have B5 := Lib.hid (B4.out.trans (b5.mono B4.out.size))
  have Y5 := Lib.hid (Y4.out.call b5)
  clear b5
  go_wp2_with fail
  refine (toUnitRuleS_any _ A n c fr to nu de H5.out hn).mono ?_; rintro e w7 ⟨g7, rfl, hg7, X7, _, b7⟩
  have Y7 := Lib.hid (Y5.out.call b7)
  have B7 := Lib.hid (B5.out.trans (b7.mono B5.out.size))
  have Z7 := Lib.hid X7
  clear b7 X7
  go_wp2_with fail
  refine (eqUnitRuleS_same _ _ _ n n n fr to nu de Y7.out Z7.out).mono ?_; rintro e w8 ⟨rfl, b8⟩
  have B8 := Lib.hid (B7.out.trans (b8.mono B7.out.size))
  clear b8
  go_wp2_with fail
  go_ret
  exact ⟨rfl, B8.out⟩
set_option maxRecDepth 20000 in
set_option maxHeartbeats 4000000 in
theorem law_ConvertUp (w : World) (A : Option Addr) (n c : Nat) (fr to : Nat → ByteArray) (nu de : Nat → Int) (h : UnitRuleF w A n c fr to nu de) (a : ByteArray) (za : a.size ≤ maxLen) (b : ByteArray) (zb : b.size ≤ maxLen) (q : Int) :
    Calls Try.prog 7 #[.slice A n c, .string a, .string b, .int .i64 q] w fun e w' => e = .returned (.bool true) ∧ Below w.heap.size w w' := by
  have na : a.size ≤ 9223372036854775807 := by unfold maxLen at za; omega
  clear za
  have nb : b.size ≤ 9223372036854775807 := by unfold maxLen at zb; omega
  clear zb
  have H := Lib.hid h
  have sz := szUnitRuleS_any w A n c fr to nu de 1048576 h (by omega) (by omega)
  clear h
  by_cases ba : 1048576 < (a.size : Int)
  · go_enter Try.func7, Try.ntmps7
    go_wp2_with fail
    go_ret
    exact ⟨rfl, Below.refl _ _⟩
  by_cases bb : 1048576 < (b.size : Int)
  · go_enter Try.func7, Try.ntmps7
    go_wp2_with fail
    go_ret
    exact ⟨rfl, Below.refl _ _⟩
  by_cases hs : (n : Int) + (unitRuleSum fr to n : Int) ≤ 1048576
  case neg =>
    have e : unitRuleLeft fr to n 1048576 = -1 := by unfold unitRuleLeft; rw [if_neg hs]
    rw [e] at sz
    have SZ := Lib.hid sz
    clear sz e hs
    go_enter Try.func7, Try.ntmps7
    go_wp2_with fail
    refine SZ.out.mono ?_; rintro e w1 ⟨rfl, b1⟩
    go_wp2_with fail
    go_ret
    exact ⟨rfl, b1⟩
  have hn : n ≤ 1048576 := by omega
  rw [ruleSum_left hs] at sz
  obtain ⟨t, ht⟩ : ∃ t : Int, t = 1048576 - (n : Int) - (unitRuleSum fr to n : Int) := ⟨_, rfl⟩
  rw [← ht] at sz
  have t0 : ¬ t < 0 := by omega
  have SZ := Lib.hid sz
  clear sz ht hs
  have SP := Lib.hid (fun (W : World) (Y : Option Addr) (d : Nat) (hx : UnitRuleF W Y n d fr to nu de) => spec_ConvertUp W Y n d fr to nu de hx hn a b na nb q)
  have IM := Lib.hid (fun (W : World) (Y : Option Addr) (d : Nat) (hx : UnitRuleF W Y n d fr to nu de) => impl_ConvertUp W Y n d fr to nu de hx hn a b na nb q)
  generalize (upOf (tb n fr to nu de) a b q).1 = p at *
  generalize (upOf (tb n fr to nu de) a b q).2 = Q at *
  have hpp : (p != p) = false := by simp
  have hqq : (Q != Q) = false := by simp
  go_enter Try.func7, Try.ntmps7
  go_wp2_with fail
  refine SZ.out.mono ?_; rintro e w1 ⟨rfl, b1⟩
  have H1 := Lib.hid (H.out.call b1)
  have B1 := Lib.hid b1
  clear b1
  go_wp2_with fail
  refine (toUnitRuleS_any _ A n c fr to nu de H1.out hn).mono ?_; rintro e w2 ⟨g2, rfl, hg2, X2, _, b2⟩
  have H2 := Lib.hid (H1.out.call b2)
  have B2 := Lib.hid (B1.out.trans (b2.mono B1.out.size))
  have XX := Lib.hid X2
  clear b2 X2
  go_wp2_with fail
  refine (SP.out _ _ n XX.out).mono ?_; rintro e w3 ⟨rfl, b3⟩
  have H3 := Lib.hid (H2.out.call b3)
  have B3 := Lib.hid (B2.out.trans (b3.mono B2.out.size))
  clear b3
  go_wp2_with fail
  refine (toUnitRuleS_any _ A n c fr to nu de H3.out hn).mono ?_; rintro e w4 ⟨g4, rfl, hg4, X4, _, b4⟩
  have H4 := Lib.hid (H3.out.call b4)
  have B4 := Lib.hid (B3.out.trans (b4.mono B3.out.size))
  have Y4 := Lib.hid X4
  clear b4 X4
  go_wp2_with fail
  refine (IM.out _ _ n Y4.out).mono ?_; rintro e w5 ⟨rfl, b5⟩
  have H5 := Lib.hid (H4.out.call b5)
  have B5 := Lib.hid (B4.out.trans (b5.mono B4.out.size))
  have Y5 := Lib.hid (Y4.out.call b5)
  clear b5
  go_wp2_with fail
  refine (toUnitRuleS_any _ A n c fr to nu de H5.out hn).mono ?_; rintro e w7 ⟨g7, rfl, hg7, X7, _, b7⟩
  have Y7 := Lib.hid (Y5.out.call b7)
  have B7 := Lib.hid (B5.out.trans (b7.mono B5.out.size))
  have Z7 := Lib.hid X7
  clear b7 X7
  go_wp2_with fail
  refine (eqUnitRuleS_same _ _ _ n n n fr to nu de Y7.out Z7.out).mono ?_; rintro e w8 ⟨rfl, b8⟩
  have B8 := Lib.hid (B7.out.trans (b8.mono B7.out.size))
  clear b8
  go_wp2_with fail
  go_ret
  exact ⟨rfl, B8.out⟩
end Go.Proofs.Ytccejhhhengpcaa
