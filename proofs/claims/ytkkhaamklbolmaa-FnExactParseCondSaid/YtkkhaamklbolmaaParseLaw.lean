/-
  Contract of the reference's ParseCond; walk of the law FnExactParseCond.
-/
import Derived.Test.YtkkhaamklbolmaaRead5
namespace Go.Proofs.Ytkkhaamklbolmaa
open Go.RowKit Go.Sort
set_option linter.unusedVariables false
set_option linter.unusedSimpArgs false

set_option maxRecDepth 20000 in
set_option maxHeartbeats 4000000 in
theorem spec_ParseCond (S : ByteArray) (w : World) (hS : S.size ≤ 1048576) : Calls Try.prog 34 #[.string S] w (ParseRet ReadS S w) := by
  obtain ⟨w1, hw1⟩ : ∃ w1, w1 = w.alloc (.cells #[.string S, .int .i64 0, .slice none 0 0, .bool false, .int .i64 0] 91) := ⟨_, rfl⟩
  have h1 : RdS S w.heap.size w.heap.size w1 st0 0 none 0 := by
    rw [hw1]
    refine ⟨Nat.le_refl _, row_lit w _ _ 5 _ (by simp) (fun q hq => ?_), OwnV.nil _ _ _ _ _, by simp [Value.ownBlock], Nat.zero_le _, by omega⟩
    rcases (by omega : q = 0 ∨ q = 1 ∨ q = 2 ∨ q = 3 ∨ q = 4) with rfl | rfl | rfl | rfl | rfl <;> rfl
  have b1 : Below w.heap.size w w1 := by rw [hw1]; exact (Below.refl _ _).alloc (Nat.le_refl _) _
  have H1 := Lib.hid h1
  have B1 := Lib.hid b1
  have hN : HfS S (31 + 5 * 31) (sNot S 31) := sNot_step S 31
  have AN := Lib.hid (spec_l6And S w.heap.size w.heap.size 0 (sNot S 31) (31 + 5 * 31) (by omega) (by omega) hN (spec_simple S w.heap.size w.heap.size 31 0 (by omega) (by omega)))
  have OR := Lib.hid (spec_l6Or S w.heap.size w.heap.size 0 (AndR S sAdd (sNot S 31)) (31 + 5 * 31 + 2) (by omega) (by omega) (hN.and (by omega)) AN.out)
  have HW := Lib.hid hw1
  have sz1 : w.heap.size ≤ w1.heap.size := b1.size
  clear h1 b1 hN hw1
  go_enter Try.func34, Try.ntmps34
  go_wp2_with fail
  rw [← HW.out]
  refine (OR.out w1 st0 none 0 H1.out rfl (by show (0 : Nat) ≤ 600; omega)).mono ?_
  rintro e w2 ⟨rfl, b, hb, ⟨A2, c2, h2⟩, b2⟩
  have hrd : ReadS S b := barS_or.1 hb
  have hall : AllQ S.size b := or_all (fun _ _ => rfl) (sNot_all S 31) hrd (all0 _)
  have RD := Lib.hid hrd
  have AL := Lib.hid hall
  have H2 := Lib.hid h2
  have B2 := Lib.hid (B1.out.trans b2)
  have k0 := h2.c0
  have k1 := h2.c1
  have k2 := h2.c2
  have hle := h2.le
  have k3 := h2.c3
  clear hb h2 b2 hrd hall OR AN
  by_cases hbad : b.bad = true
  · rw [hbad] at k3
    have hno : okB S b = false := by unfold okB; rw [hbad]; rfl
    have hnl : okL S b = [] := by unfold okL; rw [hno]; rfl
    have NO := Lib.hid hno
    have NL := Lib.hid hnl
    clear hno hnl hbad
    go_wp2_with fail
    go_ret2
    exact ⟨b, RD.out, AL.out, some ⟨w2.heap.size, 0, none⟩, 0, by rw [NO.out, NL.out]; rfl, by rw [NL.out]; exact OwnV.lit _ B2.out.size _ 3 0 #[] _ (by simp [flat]) (by omega), B2.out.alloc B2.out.size _⟩
  have hbad : b.bad = false := by simpa using hbad
  rw [hbad] at k3
  by_cases hend : b.i = S.size
  case neg =>
    have hno : okB S b = false := by unfold okB; rw [decide_eq_false hend]; simp
    have hnl : okL S b = [] := by unfold okL; rw [hno]; rfl
    have hne : ((b.i : Int) == (S.size : Int)) = false := by simp; omega
    have hne' : ¬ b.i = S.size := hend
    clear hend
    have NO := Lib.hid hno
    have NL := Lib.hid hnl
    clear hno hnl
    go_wp2_with fail
    go_ret2
    exact ⟨b, RD.out, AL.out, some ⟨w2.heap.size, 0, none⟩, 0, by rw [NO.out, NL.out]; rfl, by rw [NL.out]; exact OwnV.lit _ B2.out.size _ 3 0 #[] _ (by simp [flat]) (by omega), B2.out.alloc B2.out.size _⟩
  rw [hend] at k1
  have hne : ((S.size : Int) == (S.size : Int)) = true := by simp
  have CN := Lib.hid (nd_readsQ (n := S.size) (by omega) (own_slice H2.out.own).1 AL.out)
  obtain ⟨q, hq⟩ : ∃ q, q = isCondB (ndK b.L) (ndO b.L) (ndV b.L) b.L.length := ⟨_, rfl⟩
  have hok : okB S b = q := by unfold okB; rw [hbad, hend, ← hq]; simp
  have OK := Lib.hid hok
  have HQ := Lib.hid hq
  clear hok hq hbad hend
  cases q
  · have hnl : okL S b = [] := by unfold okL; rw [OK.out]; rfl
    have NL := Lib.hid hnl
    clear hnl
    go_wp2_with fail
    refine (spec_IsCond _ A2 b.L.length c2 _ _ _ CN.out).mono ?_; rintro e w3 ⟨rfl, b3⟩
    rw [← HQ.out]
    have B3 := Lib.hid (B2.out.trans (b3.mono (by have := B2.out.size; omega)))
    clear b3
    go_wp2_with fail
    go_ret2
    exact ⟨b, RD.out, AL.out, some ⟨w3.heap.size, 0, none⟩, 0, by rw [OK.out, NL.out]; rfl, by rw [NL.out]; exact OwnV.lit _ B3.out.size _ 3 0 #[] _ (by simp [flat]) (by omega), B3.out.alloc B3.out.size _⟩
  · have hnl : okL S b = b.L := by unfold okL; rw [OK.out]; rfl
    have NL := Lib.hid hnl
    clear hnl
    go_wp2_with fail
    refine (spec_IsCond _ A2 b.L.length c2 _ _ _ CN.out).mono ?_; rintro e w3 ⟨rfl, b3⟩
    rw [← HQ.out]
    have B3 := Lib.hid (B2.out.trans (b3.mono (by have := B2.out.size; omega)))
    have h3 := H2.out.call b3
    have H3 := Lib.hid h3
    have j1 := h3.c2
    clear b3 h3
    go_wp2_with fail
    go_ret2
    exact ⟨b, RD.out, AL.out, A2, c2, by rw [OK.out, NL.out]; rfl, by rw [NL.out]; exact H3.out.own, B3.out⟩

theorem parse_any (s : ByteArray) (hs : s.size ≤ 1048576) {b0 : St} (h0 : ReadS s b0) (W : World) : Calls Try.prog 35 #[.string s] W (NegRet W (okL s b0) (okB s b0)) := by
  refine (impl_ParseCond s W hs).mono ?_
  rintro e w' ⟨b1, h1, _, hn⟩
  obtain ⟨e1, e2⟩ := read_same h1 h0
  rw [e1, e2] at hn
  exact hn
set_option maxRecDepth 20000 in
set_option maxHeartbeats 4000000 in
theorem law_ParseCond (s : ByteArray) (hm : s.size ≤ maxLen) (w : World) :
    Calls Try.prog 8 #[.string s] w fun e w' => e = .returned (.bool true) ∧ Below w.heap.size w w' := by
  by_cases hs : s.size ≤ 1048576
  case neg =>
    have hs' : (1048576 : Int) < (s.size : Int) := by omega
    go_enter Try.func8, Try.ntmps8
    go_wp2_with fail
    go_ret
    exact ⟨rfl, Below.refl _ _⟩
  have hs' : ¬ (1048576 : Int) < (s.size : Int) := by omega
  go_enter Try.func8, Try.ntmps8
  go_wp2_with fail
  refine (spec_ParseCond s _ hs).mono ?_; rintro e w3 ⟨b0, r0, a0, AS, cS, rfl, oS, b3⟩
  have hll := okL_len s b0
  have BD := Lib.hid (okL_bd a0)
  have IM := Lib.hid (parse_any s hs r0)
  clear r0 a0
  generalize okL s b0 = L at *
  generalize okB s b0 = Q at *
  have hqq : (Q != Q) = false := by simp
  have B3 := Lib.hid b3
  have S3 := Lib.hid (nd_reads (own_slice oS).1 BD.out)
  have SL := Lib.hid (show ∀ b u, AS = some ⟨b, u, none⟩ → b < w3.heap.size from fun b u e => (oS.lt ((own_slice oS).2 b u e)).2)
  clear b3 oS
  go_wp2_with fail
  refine (IM.out _).mono ?_; rintro e w5 ⟨AI, cI, rfl, oI, b5⟩
  have B5 := Lib.hid (B3.out.trans (b5.mono B3.out.size))
  have S5 := Lib.hid (S3.out.call b5)
  have I5 := Lib.hid (nd_reads (own_slice oI).1 BD.out)
  have O5 := Lib.hid oI
  clear b5 oI
  go_wp2_with fail
  refine (eqCondNodeS_same _ _ _ L.length cI cS _ _ _ I5.out S5.out).mono ?_; rintro e w10 ⟨rfl, b10⟩
  have B10 := Lib.hid (B5.out.trans (b10.mono B5.out.size))
  have S10 := Lib.hid (S5.out.call b10)
  have O10 := Lib.hid (O5.out.call b10)
  clear b10 I5
  have lw3 : w.heap.size ≤ w3.heap.size := B3.out.size
  go_wp2_with fail
  refine (markOwn _ w3.heap.size AI L.length cI _ O10.out (by omega)).mono ?_; rintro e w11 ⟨rfl, M11, k11⟩
  have B11 := Lib.hid (below_own B10.out k11 (fun r hr => by have := (O5.out.lt hr).1; omega) B10.out.size)
  have S11 := Lib.hid (S10.out.own k11 (fun b u e h => by have := (O5.out.lt h).1; have := SL.out b u e; omega))
  have N11 := Lib.hid M11
  clear M11 k11
  obtain ⟨q, hq⟩ : ∃ q : Int, q = 1 + 3 * (L.length : Int) := ⟨_, rfl⟩
  have q0 : ¬ q < 0 := by omega
  have HQ := Lib.hid hq
  rw [← hq]
  clear hq
  go_wp2_with fail
  refine (heldCondNodeS_yes _ AI L.length cI 1 N11.out (by omega) (by omega) (by omega)).mono ?_; rw [← HQ.out]; rintro e w12 ⟨rfl, b12⟩
  have B12 := Lib.hid (B11.out.trans (b12.mono B11.out.size))
  have S12 := Lib.hid (S11.out.call b12)
  have N12 := Lib.hid (N11.out.call b12)
  clear b12
  go_wp2_with fail
  refine (IM.out _).mono ?_; rintro e w14 ⟨AJ, cJ, rfl, oJ, b14⟩
  have B14 := Lib.hid (B12.out.trans (b14.mono B12.out.size))
  have S14 := Lib.hid (S12.out.call b14)
  have N14 := Lib.hid (N12.out.call b14)
  have J14 := Lib.hid (nd_reads (own_slice oJ).1 BD.out)
  clear b14 oJ
  go_wp2_with fail
  refine (eqCondNodeS_same _ _ _ L.length cJ cS _ _ _ J14.out S14.out).mono ?_; rintro e w15 ⟨rfl, b15⟩
  have B15 := Lib.hid (B14.out.trans (b15.mono B14.out.size))
  have N15 := Lib.hid (N14.out.call b15)
  clear b15
  go_wp2_with fail
  refine (heldCondNodeS_yes _ AI L.length cI 1 N15.out (by omega) (by omega) (by omega)).mono ?_; rw [← HQ.out]; rintro e w16 ⟨rfl, b16⟩
  have B16 := Lib.hid (B15.out.trans (b16.mono B15.out.size))
  clear b16
  go_wp2_with fail
  go_ret
  exact ⟨rfl, B16.out⟩
end Go.Proofs.Ytkkhaamklbolmaa
