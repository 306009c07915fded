/-
  Walk of the law FnExactUnitsFrom.
-/
import Derived.Test.YtccejhhhengpcaaUnitLaws
import Derived.Test.YtccejhhhengpcaaUnitRuleMark
namespace Go.Proofs.Ytccejhhhengpcaa
open Go.RowKit
set_option linter.unusedVariables false
set_option linter.unusedSimpArgs false

theorem markB_size (n : Nat) (h : n < 18446744073709551616) : (markB n).size ≤ 21 := by
  rw [mt_size]
  show (109 :: Go.Lib.decDigits n).length ≤ 21
  have := Go.Lib.nDigits_le20 n h
  rw [List.length_cons, Go.Lib.decDigits_length]; omega
theorem markStringS_nil (w : World) (A : Option Addr) (cap : Nat) :
    Calls Try.prog 31 #[.slice A 0 cap, .int .i64 1] w fun e w' => e = .returned (.int .i64 1) ∧ w' = w := by
  go_enter Try.func31, Try.ntmps31
  go_wp2_with fail
  go_loop [1, 5] (fun q i => i = .int .i64 0 ∧ q = .int .i64 1) (fun _ i => 0)
  case atStart => exact ⟨rfl, rfl⟩
  case round =>
    obtain ⟨rfl, rfl⟩ := hrel
    go_wp2_with fail
    go_ret
    exact ⟨rfl, rfl⟩
/-- marks written into texts of the call's own -/
theorem markStringS_own (w : World) (B : Nat) (A : Option Addr) (n cap : Nat) (F : Nat → Nat → Value) (h : OwnV B w 9 1 (.slice A n cap) n F) (hn : n ≤ 1048577) :
    Calls Try.prog 31 #[.slice A n cap, .int .i64 1] w fun e w' => e = .returned (.int .i64 (1 + (n : Int))) ∧ StrsF w' A n cap (markF 1) ∧ w.grownBy w' (Value.slice A n cap).ownBlock := by
  obtain ⟨A2, c2, e, hS, hA⟩ := h.slice
  injection e with e1 e2 e3
  subst e1; subst e3
  by_cases h0 : n = 0
  · subst h0
    refine (markStringS_nil w A cap).mono ?_
    rintro e w' ⟨rfl, hw⟩
    subst hw
    exact ⟨rfl, StrsF.empty _ _ _ hS.max _, ⟨rfl, rfl, rfl, Nat.le_refl _, fun _ _ _ => rfl⟩⟩
  · obtain ⟨b, o, rfl, hB, _⟩ := hS.cell 0 (by omega)
    obtain ⟨rfl, hb⟩ := hA b o rfl
    have hr := (row_own h.own).1
    rw [hb]
    have hk := markStringS_any w b n cap 1 _ hr hn hS.le (by omega) (by omega)
    have e1 : ((1 : Nat) : Int) = 1 := rfl
    have e2 : ((1 + n : Nat) : Int) = 1 + (n : Int) := by omega
    rw [e1, e2] at hk
    refine hk.mono ?_
    rintro e w' ⟨rfl, r, g⟩
    refine ⟨rfl, ⟨?_, fun i hi => by have := markB_size (1 + i) (by omega); unfold markF; omega⟩, g⟩
    refine ⟨hS.max, hS.le, fun j hj => ⟨b, 0, rfl, r.lt, fun q hq => ?_⟩⟩
    obtain rfl : q = 0 := by omega
    have := r.cell hj
    simpa [strC] using this
theorem StrsF.own {w w' : World} {A : Option Addr} {n cap : Nat} {f : Nat → ByteArray} {o : Option Nat} (h : StrsF w A n cap f) (k : w.grownBy w' o) (hr : ∀ b u, A = some ⟨b, u, none⟩ → o ≠ some b) : StrsF w' A n cap f := ⟨h.sl.own k hr, h.size⟩
/-- marks written into nodes of the call's own -/
theorem markNodes_own (w : World) (g n : Nat) (f : Nat → Value) (h : Row w g 59 (n * 4) f) (hn : n ≤ 1048577) :
    Calls Try.prog 30 #[.slice (some ⟨g, 0, none⟩) n n, .int .i64 1] w fun e w' => e = .returned (.int .i64 (1 + 4 * (n : Int))) ∧ w.grownBy w' (some g) :=
  (markUnitRuleS_any w g n n 1 f h hn (Nat.le_refl _) (by omega) (by omega)).mono fun e w' ⟨a, _, b⟩ => ⟨a, b⟩
theorem held_one (w : World) (A : Option Addr) (n cap : Nat) (h : StrsF w A n cap (markF 1)) (hn : n ≤ 1048577) :
    Calls Try.prog 32 #[.slice A n cap, .int .i64 1] w fun e w' => e = .returned (.int .i64 (1 + (n : Int))) ∧ Below w.heap.size w w' := by
  have hk := heldStringS_yes w A n cap 1 h hn (by omega) (by omega)
  have e1 : ((1 : Nat) : Int) = 1 := rfl
  have e2 : ((1 + n : Nat) : Int) = 1 + (n : Int) := by omega
  rw [e1, e2] at hk
  exact hk
theorem units_len (T : Tab) (a : ByteArray) : (unitsOf T a).length ≤ 25 := by
  unfold unitsOf
  split
  · next h => exact srch_len (tableB_iff.1 h.1).1 a
  · simp
theorem units_size {T : Tab} {a : ByteArray} (ha : a.size ≤ 9223372036854775807) (h : ∀ k, k < T.n → (T.fr k).size ≤ 9223372036854775807 ∧ (T.to k).size ≤ 9223372036854775807) : ∀ i, i < (unitsOf T a).length → (nmF (unitsOf T a) i).size ≤ 9223372036854775807 := by
  unfold unitsOf
  split
  · exact good_size (srch_good T a) ha h
  · intro i hi; simp at hi
theorem nam_strs {w : World} {A : Option Addr} {cap : Nat} {L : List Ent} (h : SliceF w A L.length cap 1 (namC L)) (hz : ∀ i, i < L.length → (nmF L i).size ≤ 9223372036854775807) : StrsF w A L.length cap (nmF L) := ⟨h.congr (fun _ _ _ _ => rfl), hz⟩
set_option maxRecDepth 20000 in
set_option maxHeartbeats 4000000 in
theorem law_UnitsFrom (w : World) (A : Option Addr) (n c : Nat) (fr to : Nat → ByteArray) (nu de : Nat → Int) (h : UnitRuleF w A n c fr to nu de) (a : ByteArray) (za : a.size ≤ maxLen) :
    Calls Try.prog 8 #[.slice A n c, .string a] w fun e w' => e = .returned (.bool true) ∧ Below w.heap.size w w' := by
  have H := Lib.hid h
  have sz := szUnitRuleS_any w A n c fr to nu de 1048576 h (by omega) (by omega)
  clear h
  have na : a.size ≤ 9223372036854775807 := by unfold maxLen at za; omega
  clear za
  by_cases ba : 1048576 < (a.size : Int)
  · go_enter Try.func8, Try.ntmps8
    go_wp2_with fail
    go_ret
    exact ⟨rfl, Below.refl _ _⟩
  by_cases hs : (n : Int) + (unitRuleSum fr to n : Int) ≤ 1048576
  case neg =>
    have e : unitRuleLeft fr to n 1048576 = -1 := by unfold unitRuleLeft; rw [if_neg hs]
    rw [e] at sz
    have SZ := Lib.hid sz
    clear sz e
    go_enter Try.func8, Try.ntmps8
    go_wp2_with fail
    refine SZ.out.mono ?_; rintro e w1 ⟨rfl, b1⟩
    go_wp2_with fail
    go_ret
    exact ⟨rfl, b1⟩
  have hn : n ≤ 1048576 := by omega
  rw [ruleSum_left hs] at sz
  obtain ⟨t, ht⟩ : ∃ t : Int, t = 1048576 - (n : Int) - (unitRuleSum fr to n : Int) := ⟨_, rfl⟩
  rw [← ht] at sz
  have t0 : ¬ t < 0 := by omega
  have SZ := Lib.hid sz
  clear sz ht hs
  obtain ⟨L, hL⟩ : ∃ L, L = unitsOf (tb n fr to nu de) a := ⟨_, rfl⟩
  have hll : L.length ≤ 25 := by rw [hL]; exact units_len _ _
  have LZ := Lib.hid (show ∀ i, i < L.length → (nmF L i).size ≤ 9223372036854775807 by rw [hL]; exact units_size na (fun k hk => ⟨H.out.z_fr k hk, H.out.z_to k hk⟩))
  have HL := Lib.hid hL
  clear hL
  have SP := Lib.hid (fun (W : World) (X : Option Addr) (d : Nat) (hx : UnitRuleF W X n d fr to nu de) => spec_UnitsFrom W X n d fr to nu de hx hn a na)
  have IM := Lib.hid (fun (W : World) (X : Option Addr) (d : Nat) (hx : UnitRuleF W X n d fr to nu de) => impl_UnitsFrom W X n d fr to nu de hx hn a na)
  rw [← HL.out] at SP IM
  go_enter Try.func8, Try.ntmps8
  go_wp2_with fail
  refine SZ.out.mono ?_; rintro e w1 ⟨rfl, b1⟩
  have H1 := Lib.hid (H.out.call b1)
  have B1 := Lib.hid b1
  clear b1
  go_wp2_with fail
  refine (toUnitRuleS_any _ A n c fr to nu de H1.out hn).mono ?_; rintro e w2 ⟨g2, rfl, hg2, X2, _, b2⟩
  have H2 := Lib.hid (H1.out.call b2)
  have B2 := Lib.hid (B1.out.trans (b2.mono B1.out.size))
  have XX := Lib.hid X2
  clear b2 X2
  go_wp2_with fail
  refine (SP.out _ _ n XX.out).mono ?_; rintro e w3 ⟨vS, rfl, oS, b3⟩
  obtain ⟨AS, cS, rfl, hSS, _⟩ := oS.slice
  have H3 := Lib.hid (H2.out.call b3)
  have B3 := Lib.hid (B2.out.trans (b3.mono B2.out.size))
  have S3 := Lib.hid (nam_strs hSS LZ.out)
  have sl3 : ∀ b u, AS = some ⟨b, u, none⟩ → b < w3.heap.size := fun b u e => by
    obtain ⟨A9, c9, e9, _, hA9⟩ := oS.slice
    injection e9 with e9 _ _
    have := (hA9 b u (by rw [← e9]; exact e)).2
    exact (oS.lt this).2
  have SL := Lib.hid sl3
  clear b3 oS hSS sl3
  go_wp2_with fail
  refine (toUnitRuleS_any _ A n c fr to nu de H3.out hn).mono ?_; rintro e w4 ⟨g4, rfl, hg4, X4, R4', b4⟩
  have H4 := Lib.hid (H3.out.call b4)
  have B4 := Lib.hid (B3.out.trans (b4.mono B3.out.size))
  have Y4 := Lib.hid X4
  have R4 := Lib.hid R4'
  have S4 := Lib.hid (S3.out.call b4)
  have lg4 := R4'.lt
  clear b4 X4 R4'
  go_wp2_with fail
  refine (IM.out _ _ n Y4.out).mono ?_; rintro e w5 ⟨vI, rfl, oI, b5⟩
  obtain ⟨AI, cI, rfl, hSI, _⟩ := oI.slice
  have H5 := Lib.hid (H4.out.call b5)
  have B5 := Lib.hid (B4.out.trans (b5.mono B4.out.size))
  have Y5 := Lib.hid (Y4.out.call b5)
  have R5 := Lib.hid (R4.out.call b5)
  have S5 := Lib.hid (S4.out.call b5)
  have I5 := Lib.hid (nam_strs hSI LZ.out)
  have O5 := Lib.hid oI
  clear b5 oI hSI
  go_wp2_with fail
  refine (eqStringS_same _ _ _ L.length cI cS (nmF L) I5.out S5.out).mono ?_; rintro e w6 ⟨rfl, m6, hw6⟩
  have b6 : Below w5.heap.size w5 w6 := by rw [hw6]; exact below_drewN (Below.refl _ _) _
  have H6 := Lib.hid (H5.out.call b6)
  have B6 := Lib.hid (B5.out.trans (b6.mono B5.out.size))
  have Y6 := Lib.hid (Y5.out.call b6)
  have R6 := Lib.hid (R5.out.call b6)
  have S6 := Lib.hid (S5.out.call b6)
  have O6 := Lib.hid (O5.out.call b6)
  clear b6 hw6 I5
  go_wp2_with fail
  refine (toUnitRuleS_any _ A n c fr to nu de H6.out hn).mono ?_; rintro e w7 ⟨g7, rfl, hg7, X7, _, b7⟩
  have H7 := Lib.hid (H6.out.call b7)
  have B7 := Lib.hid (B6.out.trans (b7.mono B6.out.size))
  have Y7 := Lib.hid (Y6.out.call b7)
  have R7 := Lib.hid (R6.out.call b7)
  have S7 := Lib.hid (S6.out.call b7)
  have O7 := Lib.hid (O6.out.call b7)
  have Z7 := Lib.hid X7
  clear b7 X7
  go_wp2_with fail
  refine (eqUnitRuleS_same _ _ _ n n n fr to nu de Y7.out Z7.out).mono ?_; rintro e w8 ⟨rfl, b8⟩
  have H8 := Lib.hid (H7.out.call b8)
  have B8 := Lib.hid (B7.out.trans (b8.mono B7.out.size))
  have R8 := Lib.hid (R7.out.call b8)
  have S8 := Lib.hid (S7.out.call b8)
  have O8 := Lib.hid (O7.out.call b8)
  clear b8
  -- marks into the argument's copy: what came back is none of it
  go_wp2_with fail
  refine (markNodes_own _ g4 n _ R8.out (by omega)).mono ?_; rintro e w9 ⟨rfl, k9⟩
  have ig4 : (Value.slice AI L.length cI).ownBlock ≠ some g4 := fun e => by have := (O5.out.lt e).1; omega
  have B9 := Lib.hid (B8.out.trans (grown_below k9 (by have := B3.out.size; omega) B8.out.size))
  have hb8 := B8.out.size
  have S9 := Lib.hid (S8.out.own k9 (fun b u e h => by injection h with h; have := SL.out b u e; omega))
  have O9 := Lib.hid (O8.out.grown k9 (.inr ig4))
  have H9 := Lib.hid (show UnitRuleF w9 A n c fr to nu de from H.out.call B9.out)
  clear k9
  have m0 : ¬ (1 + 4 * (n : Int)) < 0 := by omega
  obtain ⟨A9, c9, e9, hS9, hA9⟩ := O9.out.slice
  injection e9 with e91 e92 e93
  subst e91; subst e93
  have I9 := Lib.hid (nam_strs hS9 LZ.out)
  obtain ⟨mm, hmm⟩ : ∃ mm : Int, mm = 1 + 4 * (n : Int) := ⟨_, rfl⟩
  rw [← hmm] at m0 ⊢
  have m1 : decide (mm < 0) = false := by simp; omega
  clear hmm hS9 m0
  go_wp2_with fail
  refine (eqStringS_same _ _ _ L.length cI cS (nmF L) I9.out S9.out).mono ?_; rintro e w10 ⟨rfl, m10, hw10⟩
  have b10 : Below w9.heap.size w9 w10 := by rw [hw10]; exact below_drewN (Below.refl _ _) _
  have B10 := Lib.hid (B9.out.trans (b10.mono B9.out.size))
  have S10 := Lib.hid (S9.out.call b10)
  have O10 := Lib.hid (O9.out.call b10)
  clear b10 hw10 I9
  have lw5 : w.heap.size ≤ w4.heap.size := B4.out.size
  have w45 : w3.heap.size ≤ w4.heap.size := by omega
  go_wp2_with fail
  refine (markStringS_own _ w4.heap.size AI L.length cI _ O10.out (by omega)).mono ?_; rintro e w11 ⟨rfl, M11, k11⟩
  have B11 := Lib.hid (below_own B10.out k11 (fun r hr => by have := (O5.out.lt hr).1; omega) B10.out.size)
  have S11 := Lib.hid (S10.out.own k11 (fun b u e h => by have := (O5.out.lt h).1; have := SL.out b u e; omega))
  have N11 := Lib.hid M11
  clear M11 k11
  obtain ⟨q, hq⟩ : ∃ q : Int, q = 1 + (L.length : Int) := ⟨_, rfl⟩
  have q0 : ¬ q < 0 := by omega
  have HQ := Lib.hid hq
  rw [← hq]
  clear hq
  go_wp2_with fail
  refine (held_one _ AI L.length cI N11.out (by omega)).mono ?_; rw [← HQ.out]; rintro e w12 ⟨rfl, b12⟩
  have B12 := Lib.hid (B11.out.trans (b12.mono B11.out.size))
  have S12 := Lib.hid (S11.out.call b12)
  have N12 := Lib.hid (N11.out.call b12)
  clear b12
  have H12 := Lib.hid (show UnitRuleF w12 A n c fr to nu de from H.out.call B12.out)
  go_wp2_with fail
  refine (toUnitRuleS_any _ A n c fr to nu de H12.out hn).mono ?_; rintro e w13 ⟨g13, rfl, hg13, X13, _, b13⟩
  have B13 := Lib.hid (B12.out.trans (b13.mono B12.out.size))
  have S13 := Lib.hid (S12.out.call b13)
  have N13 := Lib.hid (N12.out.call b13)
  have X := Lib.hid X13
  clear b13 X13
  go_wp2_with fail
  refine (IM.out _ _ n X.out).mono ?_; rintro e w14 ⟨vJ, rfl, oJ, b14⟩
  obtain ⟨AJ, cJ, rfl, hSJ, _⟩ := oJ.slice
  have B14 := Lib.hid (B13.out.trans (b14.mono B13.out.size))
  have S14 := Lib.hid (S13.out.call b14)
  have N14 := Lib.hid (N13.out.call b14)
  have J14 := Lib.hid (nam_strs hSJ LZ.out)
  clear b14 oJ hSJ
  go_wp2_with fail
  refine (eqStringS_same _ _ _ L.length cJ cS (nmF L) J14.out S14.out).mono ?_; rintro e w15 ⟨rfl, m15, hw15⟩
  have b15 : Below w14.heap.size w14 w15 := by rw [hw15]; exact below_drewN (Below.refl _ _) _
  have B15 := Lib.hid (B14.out.trans (b15.mono B14.out.size))
  have N15 := Lib.hid (N14.out.call b15)
  clear b15 hw15
  go_wp2_with fail
  refine (held_one _ AI L.length cI N15.out (by omega)).mono ?_; rw [← HQ.out]; rintro e w16 ⟨rfl, b16⟩
  have B16 := Lib.hid (B15.out.trans (b16.mono B15.out.size))
  clear b16
  go_wp2_with fail
  go_ret
  exact ⟨rfl, B16.out⟩
end Go.Proofs.Ytccejhhhengpcaa
