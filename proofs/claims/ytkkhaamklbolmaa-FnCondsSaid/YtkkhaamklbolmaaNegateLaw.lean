/-
  Walk of the law FnExactNegateCond. (Printed by gen/neglaw.py.)
-/
import Derived.Test.YtkkhaamklbolmaaNegate2
import Derived.Test.YtkkhaamklbolmaaCondLaws
namespace Go.Proofs.Ytkkhaamklbolmaa
open Go.RowKit
set_option linter.unusedVariables false
set_option linter.unusedSimpArgs false

theorem Sub.negBd {kd : Nat → Int} {op vl : Nat → ByteArray} {s e : Nat} {t : Cnd} (h : Sub kd op vl s e t) : ∀ (z : Bool) (x : Nd), x ∈ t.neg z → (0 ≤ x.1 ∧ x.1 ≤ 4) ∧ x.2.1.size ≤ 8 ∧ x.2.2.size ≤ 8 := by
  have hm : mt.size ≤ 8 := by decide
  induction h with
  | tt h =>
    intro z x hx
    cases z <;> simp [Cnd.neg] at hx
    · subst hx; exact ⟨by simp, hm, hm⟩
    · rcases hx with rfl | rfl <;> exact ⟨by simp, hm, hm⟩
  | is h ho hv =>
    have h1 := (isC_iff.1 ho).2.1
    have h2 := (isC_iff.1 hv).2.1
    intro z x hx
    cases z <;> simp [Cnd.neg] at hx
    · subst hx; exact ⟨by simp, h1, h2⟩
    · rcases hx with rfl | rfl
      · exact ⟨by simp, h1, h2⟩
      · exact ⟨by simp, hm, hm⟩
  | no r h ih => intro z x hx; exact ih (!z) x hx
  | bin r q h ih1 ih2 =>
    intro z x hx
    simp only [Cnd.neg, List.mem_append, List.mem_singleton] at hx
    rcases hx with (hx | hx) | rfl
    · exact ih1 z x hx
    · exact ih2 z x hx
    · exact ⟨by split <;> simp, hm, hm⟩
/-- how the opposite's nodes read -/
theorem nd_reads {w : World} {A : Option Addr} {c : Nat} {L : List Nd} (h : SliceF w A L.length c 3 (ndC L)) (hb : ∀ x ∈ L, (0 ≤ x.1 ∧ x.1 ≤ 4) ∧ x.2.1.size ≤ 8 ∧ x.2.2.size ≤ 8) : CondNodeF w A L.length c (ndK L) (ndO L) (ndV L) := by
  have key : ∀ i (hi : i < L.length), L.getD i (0, mt, mt) ∈ L := fun i hi => by rw [List.getD_eq_getElem?_getD, List.getElem?_eq_getElem hi]; exact List.getElem_mem hi
  refine ⟨h.congr (fun _ _ _ _ => rfl), fun i hi => ?_, fun i hi => ?_, fun i hi => ?_⟩
  · have := (hb _ (key i hi)).1; unfold ndK; omega
  · have := (hb _ (key i hi)).2.1; unfold ndO; omega
  · have := (hb _ (key i hi)).2.2; unfold ndV; omega
theorem negOf_bd {kd : Nat → Int} {op vl : Nat → ByteArray} {n : Nat} {t : Cnd} (hs : Sub kd op vl 0 n t) : ∀ x ∈ negOf t, (0 ≤ x.1 ∧ x.1 ≤ 4) ∧ x.2.1.size ≤ 8 ∧ x.2.2.size ≤ 8 := by
  intro x hx
  unfold negOf at hx
  split at hx
  · exact hs.negBd true x hx
  · simp at hx
/-- what stands behind an own slice -/
theorem own_slice {B n : Nat} {w : World} {A : Option Addr} {c : Nat} {T : TypeId} {F : Nat → Nat → Value} (h : OwnV B w T 3 (.slice A n c) n F) : SliceF w A n c 3 F ∧ ∀ b u, A = some ⟨b, u, none⟩ → (Value.slice A n c).ownBlock = some b := by
  obtain ⟨A2, c2, e, hS, hA⟩ := h.slice
  injection e with e1 e2 e3
  subst e1; subst e3
  exact ⟨hS, fun b u e => (hA b u e).2⟩
theorem CondNodeF.own {w w' : World} {A : Option Addr} {n cap : Nat} {kd : Nat → Int} {op vl : Nat → ByteArray} {o : Option Nat} (h : CondNodeF w A n cap kd op vl) (k : w.grownBy w' o) (hr : ∀ b u, A = some ⟨b, u, none⟩ → o ≠ some b) : CondNodeF w' A n cap kd op vl := ⟨h.sl.own k hr, h.b_kd, h.z_op, h.z_vl⟩
set_option maxRecDepth 20000 in
set_option maxHeartbeats 4000000 in
theorem law_NegateCond (w : World) (A : Option Addr) (n c : Nat) (kd : Nat → Int) (op vl : Nat → ByteArray) (h : CondNodeF w A n c kd op vl) :
    Calls Try.prog 7 #[.slice A n c] w fun e w' => e = .returned (.bool true) ∧ Below w.heap.size w w' := by
  have H := Lib.hid h
  have sz := szCondNodeS_any w A n c kd op vl 1048576 h (by omega) (by omega)
  clear h
  by_cases hs : (n : Int) + (condNodeSum op vl n : Int) ≤ 1048576
  case neg =>
    have e : condNodeLeft op vl n 1048576 = -1 := by unfold condNodeLeft; rw [if_neg hs]
    rw [e] at sz
    have SZ := Lib.hid sz
    clear sz e
    go_enter Try.func7, Try.ntmps7
    go_wp2_with fail
    refine SZ.out.mono ?_; rintro e w1 ⟨rfl, b1⟩
    go_wp2_with fail
    go_ret
    exact ⟨rfl, b1⟩
  have hn : n ≤ 1048576 := by omega
  rw [condSum_left hs] at sz
  obtain ⟨t, ht⟩ : ∃ t : Int, t = 1048576 - (n : Int) - (condNodeSum op vl n : Int) := ⟨_, rfl⟩
  rw [← ht] at sz
  have t0 : ¬ t < 0 := by omega
  have SZ := Lib.hid sz
  clear sz ht hs
  obtain ⟨L, Q, sp, im, hll, hbd⟩ : ∃ (L : List Nd) (Q : Bool), (∀ (W : World) (X : Option Addr) (d : Nat), CondNodeF W X n d kd op vl → Calls Try.prog 31 #[.slice X n d] W (NegRet W L Q)) ∧ (∀ (W : World) (X : Option Addr) (d : Nat), CondNodeF W X n d kd op vl → Calls Try.prog 32 #[.slice X n d] W (NegRet W L Q)) ∧ L.length ≤ 30 ∧ (∀ x ∈ L, (0 ≤ x.1 ∧ x.1 ≤ 4) ∧ x.2.1.size ≤ 8 ∧ x.2.2.size ≤ 8) := by
    cases hC : isCondB kd op vl n with
    | false => exact ⟨[], false, fun W X d hx => spec_NegateCond_no W X n d kd op vl hx hC, fun W X d hx => impl_NegateCond_no W X n d kd op vl hx hC, by simp, fun x hx => by simp at hx⟩
    | true =>
      obtain ⟨t, hs⟩ := tree_of hC
      exact ⟨negOf t, negOk t, fun W X d hx => spec_NegateCond_yes W X n d kd op vl hx hC hs, fun W X d hx => impl_NegateCond_yes W X n d kd op vl hx hC hs, negOf_len t, negOf_bd hs⟩
  have SP := Lib.hid sp
  have IM := Lib.hid im
  have BD := Lib.hid hbd
  have hqq : (Q != Q) = false := by simp
  clear sp im hbd
  go_enter Try.func7, Try.ntmps7
  go_wp2_with fail
  refine SZ.out.mono ?_; rintro e w1 ⟨rfl, b1⟩
  have H1 := Lib.hid (H.out.call b1)
  have B1 := Lib.hid b1
  clear b1
  go_wp2_with fail
  refine (toCondNodeS_any _ A n c kd op vl H1.out hn).mono ?_; rintro e w2 ⟨g2, rfl, hg2, X2, _, b2⟩
  have H2 := Lib.hid (H1.out.call b2)
  have B2 := Lib.hid (B1.out.trans (b2.mono B1.out.size))
  have XX := Lib.hid X2
  clear b2 X2
  go_wp2_with fail
  refine (SP.out _ _ n XX.out).mono ?_; rintro e w3 ⟨AS, cS, rfl, oS, b3⟩
  have H3 := Lib.hid (H2.out.call b3)
  have B3 := Lib.hid (B2.out.trans (b3.mono B2.out.size))
  have S3 := Lib.hid (nd_reads (own_slice oS).1 BD.out)
  have SL := Lib.hid (show ∀ b u, AS = some ⟨b, u, none⟩ → b < w3.heap.size from fun b u e => (oS.lt ((own_slice oS).2 b u e)).2)
  clear b3 oS
  go_wp2_with fail
  refine (toCondNodeS_any _ A n c kd op vl H3.out hn).mono ?_; rintro e w4 ⟨g4, rfl, hg4, X4, R4', b4⟩
  have H4 := Lib.hid (H3.out.call b4)
  have B4 := Lib.hid (B3.out.trans (b4.mono B3.out.size))
  have Y4 := Lib.hid X4
  have R4 := Lib.hid R4'
  have S4 := Lib.hid (S3.out.call b4)
  have lg4 := R4'.lt
  clear b4 X4 R4'
  go_wp2_with fail
  refine (IM.out _ _ n Y4.out).mono ?_; rintro e w5 ⟨AI, cI, rfl, oI, b5⟩
  have H5 := Lib.hid (H4.out.call b5)
  have B5 := Lib.hid (B4.out.trans (b5.mono B4.out.size))
  have Y5 := Lib.hid (Y4.out.call b5)
  have R5 := Lib.hid (R4.out.call b5)
  have S5 := Lib.hid (S4.out.call b5)
  have I5 := Lib.hid (nd_reads (own_slice oI).1 BD.out)
  have O5 := Lib.hid oI
  clear b5 oI
  go_wp2_with fail
  refine (eqCondNodeS_same _ _ _ L.length cI cS _ _ _ I5.out S5.out).mono ?_; rintro e w6 ⟨rfl, b6⟩
  have H6 := Lib.hid (H5.out.call b6)
  have B6 := Lib.hid (B5.out.trans (b6.mono B5.out.size))
  have Y6 := Lib.hid (Y5.out.call b6)
  have R6 := Lib.hid (R5.out.call b6)
  have S6 := Lib.hid (S5.out.call b6)
  have O6 := Lib.hid (O5.out.call b6)
  clear b6 I5
  go_wp2_with fail
  refine (toCondNodeS_any _ A n c kd op vl H6.out hn).mono ?_; rintro e w7 ⟨g7, rfl, hg7, X7, _, b7⟩
  have H7 := Lib.hid (H6.out.call b7)
  have B7 := Lib.hid (B6.out.trans (b7.mono B6.out.size))
  have Y7 := Lib.hid (Y6.out.call b7)
  have R7 := Lib.hid (R6.out.call b7)
  have S7 := Lib.hid (S6.out.call b7)
  have O7 := Lib.hid (O6.out.call b7)
  have Z7 := Lib.hid X7
  clear b7 X7
  go_wp2_with fail
  refine (eqCondNodeS_same _ _ _ n n n kd op vl Y7.out Z7.out).mono ?_; rintro e w8 ⟨rfl, b8⟩
  have H8 := Lib.hid (H7.out.call b8)
  have B8 := Lib.hid (B7.out.trans (b8.mono B7.out.size))
  have R8 := Lib.hid (R7.out.call b8)
  have S8 := Lib.hid (S7.out.call b8)
  have O8 := Lib.hid (O7.out.call b8)
  clear b8
  go_wp2_with fail
  refine ((markCondNodeS_any _ g4 n n 1 _ R8.out (by omega) (Nat.le_refl _) (by omega) (by omega)).mono fun e w' ⟨a, _, b⟩ => And.intro a b).mono ?_; rintro e w9 ⟨rfl, k9⟩
  have ig4 : (Value.slice AI L.length cI).ownBlock ≠ some g4 := fun e => by have := (O5.out.lt e).1; omega
  have B9 := Lib.hid (B8.out.trans (grown_below k9 (by have := B3.out.size; omega) B8.out.size))
  have S9 := Lib.hid (S8.out.own k9 (fun b u e h => by injection h with h; have := SL.out b u e; omega))
  have O9 := Lib.hid (O8.out.grown k9 (.inr ig4))
  clear k9
  have m0 : ¬ (1 + 3 * (n : Int)) < 0 := by omega
  have I9 := Lib.hid (nd_reads (own_slice O9.out).1 BD.out)
  obtain ⟨mm, hmm⟩ : ∃ mm : Int, mm = 1 + 3 * (n : Int) := ⟨_, rfl⟩
  rw [← hmm] at m0 ⊢
  have m1 : decide (mm < 0) = false := by simp; omega
  clear hmm m0
  go_wp2_with fail
  refine (eqCondNodeS_same _ _ _ L.length cI cS _ _ _ I9.out S9.out).mono ?_; rintro e w10 ⟨rfl, b10⟩
  have B10 := Lib.hid (B9.out.trans (b10.mono B9.out.size))
  have S10 := Lib.hid (S9.out.call b10)
  have O10 := Lib.hid (O9.out.call b10)
  clear b10 I9
  have lw5 : w.heap.size ≤ w4.heap.size := B4.out.size
  have w45 : w3.heap.size ≤ w4.heap.size := by omega
  go_wp2_with fail
  refine (markOwn _ w4.heap.size AI L.length cI _ O10.out (by omega)).mono ?_; rintro e w11 ⟨rfl, M11, k11⟩
  have B11 := Lib.hid (below_own B10.out k11 (fun r hr => by have := (O5.out.lt hr).1; omega) B10.out.size)
  have S11 := Lib.hid (S10.out.own k11 (fun b u e h => by have := (O5.out.lt h).1; have := SL.out b u e; omega))
  have N11 := Lib.hid M11
  clear M11 k11
  obtain ⟨q, hq⟩ : ∃ q : Int, q = 1 + 3 * (L.length : Int) := ⟨_, rfl⟩
  have q0 : ¬ q < 0 := by omega
  have HQ := Lib.hid hq
  rw [← hq]
  clear hq
  go_wp2_with fail
  refine (heldCondNodeS_yes _ AI L.length cI 1 N11.out (by omega) (by omega) (by omega)).mono ?_; rw [← HQ.out]; rintro e w12 ⟨rfl, b12⟩
  have B12 := Lib.hid (B11.out.trans (b12.mono B11.out.size))
  have S12 := Lib.hid (S11.out.call b12)
  have N12 := Lib.hid (N11.out.call b12)
  clear b12
  have H12 := Lib.hid (show CondNodeF w12 A n c kd op vl from H.out.call B12.out)
  go_wp2_with fail
  refine (toCondNodeS_any _ A n c kd op vl H12.out hn).mono ?_; rintro e w13 ⟨g13, rfl, hg13, X13, _, b13⟩
  have B13 := Lib.hid (B12.out.trans (b13.mono B12.out.size))
  have S13 := Lib.hid (S12.out.call b13)
  have N13 := Lib.hid (N12.out.call b13)
  have X := Lib.hid X13
  clear b13 X13
  go_wp2_with fail
  refine (IM.out _ _ n X.out).mono ?_; rintro e w14 ⟨AJ, cJ, rfl, oJ, b14⟩
  have B14 := Lib.hid (B13.out.trans (b14.mono B13.out.size))
  have S14 := Lib.hid (S13.out.call b14)
  have N14 := Lib.hid (N13.out.call b14)
  have J14 := Lib.hid (nd_reads (own_slice oJ).1 BD.out)
  clear b14 oJ
  go_wp2_with fail
  refine (eqCondNodeS_same _ _ _ L.length cJ cS _ _ _ J14.out S14.out).mono ?_; rintro e w15 ⟨rfl, b15⟩
  have B15 := Lib.hid (B14.out.trans (b15.mono B14.out.size))
  have N15 := Lib.hid (N14.out.call b15)
  clear b15
  go_wp2_with fail
  refine (heldCondNodeS_yes _ AI L.length cI 1 N15.out (by omega) (by omega) (by omega)).mono ?_; rw [← HQ.out]; rintro e w16 ⟨rfl, b16⟩
  have B16 := Lib.hid (B15.out.trans (b16.mono B15.out.size))
  clear b16
  go_wp2_with fail
  go_ret
  exact ⟨rfl, B16.out⟩
end Go.Proofs.Ytkkhaamklbolmaa
