/-
  Contracts of IsSharing, of the program and of the reference; the walk of the law FnExactIsSharing.
-/
import Derived.Test.YtmplfpdokkcpcaaLrNum
import Derived.Test.YtmplfpdokkcpcaaFloor
import Derived.Test.YtmplfpdokkcpcaaApLaws2
import Derived.BigQuiet
namespace Go.Proofs.Ytmplfpdokkcpcaa
open Go.RowKit cost num
set_option linter.unusedVariables false
set_option linter.unusedSimpArgs false

/-- the share lies between the exact share rounded down and rounded up -/
def inSh (f : Nat → Int) (n : Nat) (t : Int) (z : Nat → Int) (i : Nat) : Prop := (t * f i) / sumTo f n ≤ z i ∧ z i ≤ -((-(t * f i)) / sumTo f n)
instance (f : Nat → Int) (n : Nat) (t : Int) (z : Nat → Int) (i : Nat) : Decidable (inSh f n t z i) := by unfold inSh; infer_instance
def isSh (f : Nat → Int) (n : Nat) (t : Int) (z : Nat → Int) (n' : Nat) : Bool :=
  decide (awB f n = true ∧ (-1000000000 ≤ t ∧ t ≤ 1000000000) ∧ n' = n ∧ (∀ i, i < n → inSh f n t z i) ∧ sumTo z n = t)
theorem isSh_no {f : Nat → Int} {n : Nat} {t : Int} {z : Nat → Int} {n' : Nat} (h : ¬ (awB f n = true ∧ (-1000000000 ≤ t ∧ t ≤ 1000000000) ∧ n' = n ∧ (∀ i, i < n → inSh f n t z i) ∧ sumTo z n = t)) : isSh f n t z n' = false := by
  unfold isSh; exact decide_eq_false h
theorem isSh_yes {f : Nat → Int} {n : Nat} {t : Int} {z : Nat → Int} (h1 : awB f n = true) (h2 : -1000000000 ≤ t ∧ t ≤ 1000000000) (h3 : ∀ i, i < n → inSh f n t z i) : isSh f n t z n = decide (sumTo z n = t) := by
  unfold isSh
  apply decide_eq_decide.2
  exact ⟨fun h => h.2.2.2.2, fun h => ⟨h1, h2, rfl, h3, h⟩⟩
theorem sh_one {f : Nat → Int} {n : Nat} {t : Int} (h : awB f n = true) (ht : -1000000000 ≤ t ∧ t ≤ 1000000000) (i : Nat) (hi : i < n) :
    -1000000000000000 ≤ t * f i ∧ t * f i ≤ 1000000000000000 ∧ -1000000000000000 ≤ (t * f i) / sumTo f n ∧ (t * f i) / sumTo f n ≤ 1000000000000000 ∧ -1000000000000000 ≤ (-(t * f i)) / sumTo f n ∧ (-(t * f i)) / sumTo f n ≤ 1000000000000000 := by
  have h1 := lr_one h ht i hi
  have hS := lr_S h ht
  have k : ∀ x : Int, -1000000000000000 ≤ x → x ≤ 1000000000000000 → -1000000000000000 ≤ x / sumTo f n ∧ x / sumTo f n ≤ 1000000000000000 := fun x h1 h2 => by
    refine ⟨?_, ?_⟩
    · refine (Int.le_ediv_iff_mul_le (by omega)).2 ?_
      have : -1000000000000000 * sumTo f n ≤ -1000000000000000 * 1 := Int.mul_le_mul_of_nonpos_left (by omega) (by omega)
      omega
    · have : x / sumTo f n < 1000000000000001 := (Int.ediv_lt_iff_lt_mul (by omega)).2 (by omega)
      omega
  have a := k (t * f i) (by omega) (by omega)
  have b := k (-(t * f i)) (by omega) (by omega)
  omega
theorem sh_left {f : Nat → Int} {n : Nat} {t : Int} (h : awB f n = true) (ht : -1000000000 ≤ t ∧ t ≤ 1000000000) {z : Nat → Int} {k : Nat} (hk : k ≤ n) (hz : ∀ i, i < k → inSh f n t z i) : -1000000000000000 * (k : Int) ≤ sumTo z k ∧ sumTo z k ≤ 1000000000000000 * (k : Int) := by
  induction k with
  | zero => simp [sumTo]
  | succ k ih =>
    have h1 := ih (by omega) (fun i hi => hz i (by omega))
    have h2 := sh_one h ht k (by omega)
    have h3 := hz k (by omega)
    unfold inSh at h3
    simp only [sumTo] at h1 ⊢
    omega

set_option maxHeartbeats 1000000 in
theorem impl_isSharing (w : World) (A : Option Addr) (n cap : Nat) (f : Nat → Int) (h : IntsF w A n cap f) (A' : Option Addr) (n' cap' : Nat) (z : Nat → Int) (h' : IntsF w A' n' cap' z) (t : Int) :
    Calls Try.prog 17 #[.int .i64 t, .slice A n cap, .slice A' n' cap'] w fun e w' => e = .returned (.bool (isSh f n t z n')) ∧ ∃ m, w' = w.drewN m := by
  have hn : n ≤ 9223372036854775807 := by have := h.max; have := h.le; omega
  have hn' : n' ≤ 9223372036854775807 := by have := h'.max; have := h'.le; omega
  have H := Lib.hid h
  have H' := Lib.hid h'
  clear h h'
  cases haw : awB f n
  · rw [isSh_no (fun h => by rw [haw] at h; cases h.1)]
    go_enter Try.func17, Try.ntmps17
    go_wp2_with (first | (go_at_call 12; refine (impl_areWeights _ _ _ _ _ H.out).mono ?_; rintro e w' ⟨rfl, hw'⟩; obtain rfl := hw'.symm))
    go_ret
    exact ⟨rfl, 0, rfl⟩
  by_cases ht : -1000000000 ≤ t ∧ t ≤ 1000000000
  case neg =>
    rw [isSh_no (fun h => ht h.2.1)]
    go_enter Try.func17, Try.ntmps17
    go_wp2_with (first | (go_at_call 12; refine (impl_areWeights _ _ _ _ _ H.out).mono ?_; rintro e w' ⟨rfl, hw'⟩; obtain rfl := hw'.symm) | (go_at_call 30; refine (in_no _ _ _ _ (by omega)).mono ?_; rintro e w' ⟨rfl, hw'⟩; obtain rfl := hw'.symm))
    go_ret
    exact ⟨rfl, 0, rfl⟩
  by_cases hnn : n' = n
  case neg =>
    have hnn' : ¬ (n' : Int) = (n : Int) := by omega
    rw [isSh_no (fun h => hnn h.2.2.1)]
    go_enter Try.func17, Try.ntmps17
    go_wp2_with (first | (go_at_call 12; refine (impl_areWeights _ _ _ _ _ H.out).mono ?_; rintro e w' ⟨rfl, hw'⟩; obtain rfl := hw'.symm) | (go_at_call 30; refine (in_yes _ _ _ _ (by omega)).mono ?_; rintro e w' ⟨rfl, hw'⟩; obtain rfl := hw'.symm))
    go_ret
    exact ⟨rfl, 0, rfl⟩
  obtain rfl := hnn
  obtain ⟨n1, n40, hpos⟩ := aw_n haw
  have hz : (sumTo f n' == 0) = false := by simp; omega
  have hsums := aw_sums haw
  have hS := aw_sums haw n' (Nat.le_refl _)
  have HS := Lib.hid hsums
  have HONE := Lib.hid (sh_one haw ht)
  have HLEFT := Lib.hid (fun z k hk hz => sh_left haw ht (z := z) (k := k) hk hz)
  have HYES := Lib.hid (fun z h => isSh_yes haw ht (z := z) h)
  have HT := Lib.hid ht
  clear hsums
  obtain ⟨R, hR⟩ : ∃ R, R = isSh f n' t z n' := ⟨_, rfl⟩
  rw [← hR]
  have HR := Lib.hid hR
  clear hR
  go_enter Try.func17, Try.ntmps17
  go_wp2_with (first | (go_at_call 12; refine (impl_areWeights _ _ _ _ _ H.out).mono ?_; rintro e w' ⟨rfl, hw'⟩; obtain rfl := hw'.symm) | (go_at_call 30; refine (in_yes _ _ _ _ (by omega)).mono ?_; rintro e w' ⟨rfl, hw'⟩; obtain rfl := hw'.symm))
  clear haw
  refine (impl_sumOf _ _ _ _ _ H.out (fun j hj => by have := HS.out j hj; omega)).mono ?_
  rintro e w' ⟨rfl, hw'⟩; obtain rfl := hw'.symm
  go_wp2_with fail
  go_loopw [8, 31] (fun l i wr => ∃ k m : Nat, k ≤ n' ∧ i = .int .i64 (k : Int) ∧ l = .int .i64 (t - sumTo z k) ∧ (∀ i, i < k → inSh f n' t z i) ∧ wr = w.drewN m) (fun _ i _ => n' - (intOf i).toNat)
  case atStart => exact ⟨0, 0, Nat.zero_le _, rfl, by simp [sumTo], fun i hi => absurd hi (by omega), rfl⟩
  case round =>
    obtain ⟨k, m, hk, rfl, rfl, hall, hwr⟩ := hrel
    have HWR := Lib.hid hwr
    clear hwr
    have hleft := HLEFT.out z k hk hall
    have HA := Lib.hid hall
    clear hall
    by_cases hlt : k < n'
    · have hlt' : (k : Int) < (n' : Int) := by omega
      have hbw : Below w.heap.size w wr := HWR.out ▸ drewN_below w m
      obtain ⟨b, o, rfl, hB, hc, hfb⟩ := (H.out.call hbw).cell k hlt
      obtain ⟨b', o', rfl, hB', hc', hfb'⟩ := (H'.out.call hbw).cell k hlt
      clear hbw
      obtain ⟨p1, p2, p3, p4, p5, p6⟩ := HONE.out k hlt
      have esum : sumTo z (k + 1) = sumTo z k + z k := rfl
      have ESUM := Lib.hid esum
      clear esum
      have hT := HT.out
      have u1 : IntKind.i64.wrap (t * f k) = t * f k := IntWalk.i64_in _ ⟨by omega, by omega⟩
      have u2 : IntKind.i64.wrap (-(t * f k)) = -(t * f k) := IntWalk.i64_in _ ⟨by omega, by omega⟩
      have u3 : IntKind.i64.wrap (-(-(t * f k) / sumTo f n')) = -(-(t * f k) / sumTo f n') := IntWalk.i64_in _ ⟨by omega, by omega⟩
      by_cases hin : inSh f n' t z k
      · have HIN := Lib.hid hin
        have hin' := hin
        unfold inSh at hin'
        go_wp2_with fail
        go_quiet (first | (go_at_call 33; exact Calls.quiet_of_same (impl_floorOf _ _ _ (by omega) (by omega) (by omega) (by omega))) | (go_at_call 34; exact Calls.quiet_of_same (impl_ceilOf _ _ _ (by omega) (by omega) (by omega) (by omega))) | (go_at_call 30; exact Calls.quiet_of_same (in_yes _ _ _ _ (by omega))))
        obtain ⟨nq1, rfl⟩ : ∃ m : Nat, m = nq := ⟨_, rfl⟩
        go_wp2_with fail
        go_roundw
        case rel => exact ⟨k + 1, m + nq1, by omega, by go_num, by rw [ESUM.out]; exact congrArg _ (by omega), fun i hi => (by by_cases e : i = k; exact e ▸ HIN.out; exact HA.out i (by omega)), by rw [HWR.out, World.drewN_drewN]⟩
        case measure => simp [intOf]; omega
      · have hin' := hin
        unfold inSh at hin'
        have RF : R = false := HR.out.trans (isSh_no (fun h => hin (h.2.2.2.1 k hlt)))
        go_wp2_with fail
        go_quiet (first | (go_at_call 33; exact Calls.quiet_of_same (impl_floorOf _ _ _ (by omega) (by omega) (by omega) (by omega))) | (go_at_call 34; exact Calls.quiet_of_same (impl_ceilOf _ _ _ (by omega) (by omega) (by omega) (by omega))) | (go_at_call 30; exact Calls.quiet_of_same (in_no _ _ _ _ (by omega))))
        obtain ⟨nq1, rfl⟩ : ∃ m : Nat, m = nq := ⟨_, rfl⟩
        go_wp2_with fail
        go_ret
        exact ⟨ret_b RF.symm, m + nq1, by rw [HWR.out, World.drewN_drewN]⟩
    · obtain rfl : k = n' := by omega
      go_wp2_with fail
      go_ret
      refine ⟨ret_b ?_, m, HWR.out⟩
      rw [HR.out, HYES.out z HA.out]
      by_cases e : sumTo z k = t
      · simp [e]
      · have e' : ¬ t - sumTo z k = 0 := by omega
        simp [e, e']

set_option maxHeartbeats 1000000 in
theorem spec_isSharing (w : World) (A : Option Addr) (n cap : Nat) (f : Nat → Int) (h : IntsF w A n cap f) (A' : Option Addr) (n' cap' : Nat) (z : Nat → Int) (h' : IntsF w A' n' cap' z) (t : Int) :
    Calls Try.prog 16 #[.int .i64 t, .slice A n cap, .slice A' n' cap'] w fun e w' => e = .returned (.bool (isSh f n t z n')) ∧ ∃ m, w' = w.drewN m := by
  have hn : n ≤ 9223372036854775807 := by have := h.max; have := h.le; omega
  have hn' : n' ≤ 9223372036854775807 := by have := h'.max; have := h'.le; omega
  have H := Lib.hid h
  have H' := Lib.hid h'
  clear h h'
  cases haw : awB f n
  · rw [isSh_no (fun h => by rw [haw] at h; cases h.1)]
    go_enter Try.func16, Try.ntmps16
    go_wp2_with (first | (go_at_call 10; refine (spec_areWeights _ _ _ _ _ H.out).mono ?_; rintro e w' ⟨rfl, hw'⟩; obtain rfl := hw'.symm))
    go_ret
    exact ⟨rfl, 0, rfl⟩
  by_cases ht : -1000000000 ≤ t ∧ t ≤ 1000000000
  case neg =>
    rw [isSh_no (fun h => ht h.2.1)]
    go_enter Try.func16, Try.ntmps16
    go_wp2_with (first | (go_at_call 10; refine (spec_areWeights _ _ _ _ _ H.out).mono ?_; rintro e w' ⟨rfl, hw'⟩; obtain rfl := hw'.symm) | (go_at_call 28; refine (l1In_no _ _ _ _ (by omega)).mono ?_; rintro e w' ⟨rfl, hw'⟩; obtain rfl := hw'.symm))
    go_ret
    exact ⟨rfl, 0, rfl⟩
  by_cases hnn : n' = n
  case neg =>
    have hnn' : ¬ (n' : Int) = (n : Int) := by omega
    rw [isSh_no (fun h => hnn h.2.2.1)]
    go_enter Try.func16, Try.ntmps16
    go_wp2_with (first | (go_at_call 10; refine (spec_areWeights _ _ _ _ _ H.out).mono ?_; rintro e w' ⟨rfl, hw'⟩; obtain rfl := hw'.symm) | (go_at_call 28; refine (l1In_yes _ _ _ _ (by omega)).mono ?_; rintro e w' ⟨rfl, hw'⟩; obtain rfl := hw'.symm))
    go_ret
    exact ⟨rfl, 0, rfl⟩
  obtain rfl := hnn
  obtain ⟨n1, n40, hpos⟩ := aw_n haw
  have hz : (sumTo f n' == 0) = false := by simp; omega
  have hsums := aw_sums haw
  have hS := aw_sums haw n' (Nat.le_refl _)
  have HS := Lib.hid hsums
  have HONE := Lib.hid (sh_one haw ht)
  have HLEFT := Lib.hid (fun z k hk hz => sh_left haw ht (z := z) (k := k) hk hz)
  have HYES := Lib.hid (fun z h => isSh_yes haw ht (z := z) h)
  have HT := Lib.hid ht
  clear hsums
  obtain ⟨R, hR⟩ : ∃ R, R = isSh f n' t z n' := ⟨_, rfl⟩
  rw [← hR]
  have HR := Lib.hid hR
  clear hR
  go_enter Try.func16, Try.ntmps16
  go_wp2_with (first | (go_at_call 10; refine (spec_areWeights _ _ _ _ _ H.out).mono ?_; rintro e w' ⟨rfl, hw'⟩; obtain rfl := hw'.symm) | (go_at_call 28; refine (l1In_yes _ _ _ _ (by omega)).mono ?_; rintro e w' ⟨rfl, hw'⟩; obtain rfl := hw'.symm))
  clear haw
  refine (spec_l1Sum _ _ _ _ _ H.out (fun j hj => by have := HS.out j hj; omega)).mono ?_
  rintro e w' ⟨rfl, hw'⟩; obtain rfl := hw'.symm
  go_wp2_with fail
  go_loopw [8, 9] (fun l i wr => ∃ k m : Nat, k ≤ n' ∧ i = .int .i64 (k : Int) ∧ l = .int .i64 (t - sumTo z k) ∧ (∀ i, i < k → inSh f n' t z i) ∧ wr = w.drewN m) (fun _ i _ => n' - (intOf i).toNat)
  case atStart => exact ⟨0, 0, Nat.zero_le _, rfl, by simp [sumTo], fun i hi => absurd hi (by omega), rfl⟩
  case round =>
    obtain ⟨k, m, hk, rfl, rfl, hall, hwr⟩ := hrel
    have HWR := Lib.hid hwr
    clear hwr
    have hleft := HLEFT.out z k hk hall
    have HA := Lib.hid hall
    clear hall
    by_cases hlt : k < n'
    · have hlt' : (k : Int) < (n' : Int) := by omega
      have hbw : Below w.heap.size w wr := HWR.out ▸ drewN_below w m
      obtain ⟨b, o, rfl, hB, hc, hfb⟩ := (H.out.call hbw).cell k hlt
      obtain ⟨b', o', rfl, hB', hc', hfb'⟩ := (H'.out.call hbw).cell k hlt
      clear hbw
      obtain ⟨p1, p2, p3, p4, p5, p6⟩ := HONE.out k hlt
      have esum : sumTo z (k + 1) = sumTo z k + z k := rfl
      have ESUM := Lib.hid esum
      clear esum
      have hT := HT.out
      have u1 : IntKind.i64.wrap (t * f k) = t * f k := IntWalk.i64_in _ ⟨by omega, by omega⟩
      have u2 : IntKind.i64.wrap (-(t * f k)) = -(t * f k) := IntWalk.i64_in _ ⟨by omega, by omega⟩
      have u3 : IntKind.i64.wrap (-(-(t * f k) / sumTo f n')) = -(-(t * f k) / sumTo f n') := IntWalk.i64_in _ ⟨by omega, by omega⟩
      by_cases g1 : z k < (t * f k) / sumTo f n'
      · have hin : ¬ inSh f n' t z k := by unfold inSh; omega
        have RF : R = false := HR.out.trans (isSh_no (fun h => hin (h.2.2.2.1 k hlt)))
        clear hin
        go_wp2_with fail
        go_quiet (first | (go_at_call 32; exact Calls.quiet_of_same (spec_floorOf _ _ _ (by omega) (by omega) (by omega) (by omega))))
        obtain ⟨nq1, rfl⟩ : ∃ m : Nat, m = nq := ⟨_, rfl⟩
        go_wp2_with fail
        go_ret
        exact ⟨ret_b RF.symm, m + nq1, by rw [HWR.out, World.drewN_drewN]⟩
      · have d1 : decide (z k < (t * f k) / sumTo f n') = false := by simpa using g1
        by_cases g2 : -((-(t * f k)) / sumTo f n') < z k
        · have hin : ¬ inSh f n' t z k := by unfold inSh; omega
          have RF : R = false := HR.out.trans (isSh_no (fun h => hin (h.2.2.2.1 k hlt)))
          clear hin
          go_wp2_with fail
          go_quiet (first | (go_at_call 32; exact Calls.quiet_of_same (spec_floorOf _ _ _ (by omega) (by omega) (by omega) (by omega))))
          obtain ⟨nq1, rfl⟩ : ∃ m : Nat, m = nq := ⟨_, rfl⟩
          go_wp2_with fail
          go_ret
          exact ⟨ret_b RF.symm, m + nq1, by rw [HWR.out, World.drewN_drewN]⟩
        · have d2 : decide (-((-(t * f k)) / sumTo f n') < z k) = false := by simpa using g2
          have HIN : Hid (inSh f n' t z k) := Lib.hid (by unfold inSh; omega)
          go_wp2_with fail
          go_quiet (first | (go_at_call 32; exact Calls.quiet_of_same (spec_floorOf _ _ _ (by omega) (by omega) (by omega) (by omega))))
          obtain ⟨nq1, rfl⟩ : ∃ m : Nat, m = nq := ⟨_, rfl⟩
          go_wp2_with fail
          go_roundw
          case rel => exact ⟨k + 1, m + nq1, by omega, by go_num, by rw [ESUM.out]; exact congrArg _ (by omega), fun i hi => (by by_cases e : i = k; exact e ▸ HIN.out; exact HA.out i (by omega)), by rw [HWR.out, World.drewN_drewN]⟩
          case measure => simp [intOf]; omega
    · obtain rfl : k = n' := by omega
      go_wp2_with fail
      go_ret
      refine ⟨ret_b ?_, m, HWR.out⟩
      rw [HR.out, HYES.out z HA.out]
      by_cases e : sumTo z k = t
      · simp [e]
      · have e' : ¬ t - sumTo z k = 0 := by omega
        simp [e, e']

set_option maxHeartbeats 1000000 in
theorem law_IsSharing (w : World) (t : Int) (A : Option Addr) (n cap : Nat) (f : Nat → Int) (h : IntsF w A n cap f) (A' : Option Addr) (n' cap' : Nat) (z : Nat → Int) (h' : IntsF w A' n' cap' z) :
    Calls Try.prog 5 #[.int .i64 t, .slice A n cap, .slice A' n' cap'] w fun e w' => e = .returned (.bool true) ∧ Below w.heap.size w w' := by
  have hn : n ≤ 9223372036854775807 := by have := h.max; have := h.le; omega
  have hn' : n' ≤ 9223372036854775807 := by have := h'.max; have := h'.le; omega
  have H := Lib.hid h
  have H' := Lib.hid h'
  clear h h'
  by_cases hle : n ≤ 1048576
  case neg =>
    have hbig' : (1048576 : Int) < (n : Int) := by omega
    go_enter Try.func5, Try.ntmps5
    go_wp2_with fail
    go_ret
    exact ⟨rfl, Below.refl _ _⟩
  have hb1 : ¬ (1048576 : Int) < (n : Int) := by omega
  by_cases hle' : n' ≤ 1048576
  case neg =>
    have hbig' : (1048576 : Int) < (n' : Int) := by omega
    go_enter Try.func5, Try.ntmps5
    go_wp2_with fail
    go_ret
    exact ⟨rfl, Below.refl _ _⟩
  have hb2 : ¬ (1048576 : Int) < (n' : Int) := by omega
  go_enter Try.func5, Try.ntmps5
  go_wp2_with fail
  refine (toIntS_any _ _ _ _ _ H.out hle).mono ?_; rintro e w1 ⟨rfl, hr1, hb1⟩
  have R1 := Lib.hid hr1
  have B1 := Lib.hid hb1
  clear hr1 hb1
  go_wp2_with fail
  refine (toIntS_any _ _ _ _ _ (H'.out.call B1.out) hle').mono ?_; rintro e w2 ⟨rfl, hr2, hb2⟩
  have R2 := Lib.hid hr2
  have R1' := Lib.hid (R1.out.call hb2)
  have B2 := Lib.hid (B1.out.trans (hb2.mono B1.out.size))
  clear hr2 hb2
  go_wp2_with fail
  refine (spec_isSharing _ _ _ _ _ (H.out.row R1'.out) _ _ _ _ (H'.out.row R2.out) t).mono ?_; rintro e w2' ⟨rfl, m2, rfl⟩
  have B2' := Lib.hid (B2.out.trans ((drewN_below w2 m2).mono B2.out.size))
  go_wp2_with fail
  refine (toIntS_any _ _ _ _ _ (H.out.call B2'.out) hle).mono ?_; rintro e w3 ⟨rfl, hr3, hb3⟩
  have R3 := Lib.hid hr3
  have B3 := Lib.hid (B2'.out.trans (hb3.mono B2'.out.size))
  clear hr3 hb3
  go_wp2_with fail
  refine (toIntS_any _ _ _ _ _ (H'.out.call B3.out) hle').mono ?_; rintro e w4 ⟨rfl, hr4, hb4⟩
  have R4 := Lib.hid hr4
  have R3' := Lib.hid (R3.out.call hb4)
  have B4 := Lib.hid (B3.out.trans (hb4.mono B3.out.size))
  clear hr4 hb4
  go_wp2_with fail
  refine (impl_isSharing _ _ _ _ _ (H.out.row R3'.out) _ _ _ _ (H'.out.row R4.out) t).mono ?_; rintro e w4' ⟨rfl, m4, rfl⟩
  have B4' := Lib.hid (B4.out.trans ((drewN_below w4 m4).mono B4.out.size))
  go_wp2_with fail
  refine (toIntS_any _ _ _ _ _ (H.out.call B4'.out) hle).mono ?_; rintro e w5 ⟨rfl, hr5, hb5⟩
  have R5 := Lib.hid hr5
  have R3'' := Lib.hid ((R3'.out.drewN m4).call hb5)
  have R4'' := Lib.hid ((R4.out.drewN m4).call hb5)
  have B5 := Lib.hid (B4'.out.trans (hb5.mono B4'.out.size))
  clear hr5 hb5
  go_wp2_with fail
  refine (eqIntS_same _ _ _ _ _ _ _ _ (H.out.row R3''.out) (H.out.row R5.out) (fun i hi => rfl)).mono ?_; rintro e w5' ⟨rfl, m5, rfl⟩
  have B5' := Lib.hid (B5.out.trans ((drewN_below w5 m5).mono B5.out.size))
  go_wp2_with fail
  refine (toIntS_any _ _ _ _ _ (H'.out.call B5'.out) hle').mono ?_; rintro e w6 ⟨rfl, hr6, hb6⟩
  have R6 := Lib.hid hr6
  have R4''' := Lib.hid ((R4''.out.drewN m5).call hb6)
  have B6 := Lib.hid (B5'.out.trans (hb6.mono B5'.out.size))
  clear hr6 hb6
  go_wp2_with fail
  refine (eqIntS_same _ _ _ _ _ _ _ _ (H'.out.row R4'''.out) (H'.out.row R6.out) (fun i hi => rfl)).mono ?_; rintro e w6' ⟨rfl, m6, rfl⟩
  go_wp2_with fail
  go_ret
  exact ⟨rfl, B6.out.trans ((drewN_below w6 m6).mono B6.out.size)⟩
end Go.Proofs.Ytmplfpdokkcpcaa
