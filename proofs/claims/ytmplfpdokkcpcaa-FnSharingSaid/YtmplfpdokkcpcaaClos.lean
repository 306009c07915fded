/-
  Walks of the laws FnClosest and FnSharing.
-/
import Derived.Test.YtmplfpdokkcpcaaClosNum
import Derived.Test.YtmplfpdokkcpcaaDrawAp
import Derived.Test.YtmplfpdokkcpcaaLr
import Derived.Test.YtmplfpdokkcpcaaLrSpec
import Derived.Test.YtmplfpdokkcpcaaApLaws2
import Derived.BigQuiet
namespace Go.Proofs.Ytmplfpdokkcpcaa
open Go.RowKit cost num
set_option linter.unusedVariables false
set_option linter.unusedSimpArgs false

theorem laws_sum (w : World) (A : Option Addr) (n cap : Nat) (f : Nat → Int) (h : IntsF w A n cap f) (hs : ∀ k, k ≤ n → -1000000000000000000 ≤ sumTo f k ∧ sumTo f k ≤ 1000000000000000000) :
    Calls Try.prog 26 #[.slice A n cap] w fun e w' => e = .returned (.int .i64 (sumTo f n)) ∧ w' = w := by
  have hn : n ≤ 9223372036854775807 := by have := h.max; have := h.le; omega
  have H := Lib.hid h
  have HS := Lib.hid hs
  clear h hs
  go_enter Try.func26, Try.ntmps26
  go_wp2_with fail
  go_loop [3, 4] (fun x i => ∃ k : Nat, k ≤ n ∧ i = .int .i64 (k : Int) ∧ x = .int .i64 (sumTo f k)) (fun _ i => n - (intOf i).toNat)
  case atStart => exact ⟨0, Nat.zero_le _, rfl, rfl⟩
  case round =>
    obtain ⟨k, hk, rfl, rfl⟩ := hrel
    by_cases hlt : k < n
    · have hlt' : (k : Int) < (n : Int) := by omega
      obtain ⟨b, o, rfl, hB, hc, hf0, hf1⟩ := H.out.cell k hlt
      obtain ⟨s0, s1⟩ := HS.out k (by omega)
      obtain ⟨s2, s3⟩ := HS.out (k + 1) (by omega)
      simp only [sumTo] at s2 s3
      go_wp2_with fail
      go_round
      case rel => exact ⟨k + 1, by omega, by go_num, by simp only [sumTo]⟩
      case measure => simp [intOf]; omega
    · obtain rfl : k = n := by omega
      go_wp2_with fail
      go_ret
      exact ⟨rfl, rfl⟩
theorem far_bounds {e : Nat → Int} {n : Nat} {M : Int} (h : ∀ i, i < n → -M ≤ e i ∧ e i ≤ M) : ∀ k, k ≤ n → 0 ≤ sumTo (fun i => max (e i) (-(e i))) k ∧ sumTo (fun i => max (e i) (-(e i))) k ≤ M * (k : Int)
  | 0, _ => by simp [sumTo]
  | k + 1, hk => by
    have ih := far_bounds h k (by omega)
    have := h k (by omega)
    have e2 : M * ((k + 1 : Nat) : Int) = M * (k : Int) + M := by rw [show ((k + 1 : Nat) : Int) = (k : Int) + 1 by omega, Int.mul_add, Int.mul_one]
    simp only [sumTo] at ih ⊢
    omega

set_option maxHeartbeats 2000000 in
theorem law_Closest (w : World) (A : Option Addr) (len cap : Nat) (hb : Bytes w A len) :
    Calls Try.prog 8 #[.slice A len cap] w fun e w' => e = .returned (.bool true) ∧ Below w.heap.size w w' := by
  have hm := hb.1
  have HB := Lib.hid hb
  clear hb
  by_cases hbig : 1048576 < len
  · have hd : decide (1048576 < len) = true := by simpa using hbig
    go_enter Try.func8, Try.ntmps8
    go_wp2_with fail
    refine (big_any _ _ _ _ hm).mono ?_; rintro e w0 ⟨rfl, hw'⟩; obtain rfl := hw'.symm
    go_wp2_with fail
    go_ret
    exact ⟨rfl, Below.refl _ _⟩
  have hd : decide (1048576 < len) = false := by simpa using hbig
  go_enter Try.func8, Try.ntmps8
  go_wp2_with fail
  refine (big_any _ _ _ _ hm).mono ?_; rintro e w0 ⟨rfl, hw'⟩; obtain rfl := hw'.symm
  go_wp2_with fail
  refine (DrawLargestRemainder_any _ _ _ _ HB.out).mono ?_; rintro e w1 ⟨t, A1, n, c1, f, rfl, ht0, ht1, hn8, hi1, hb1⟩
  have hn : n ≤ 9223372036854775807 := by omega
  have H1 := Lib.hid hi1
  have B1 := Lib.hid hb1
  clear hi1 hb1 HB

  cases haw : awB f n
  · skip
    go_wp2_with fail
    refine (impl_lr_no1 _ _ _ _ _ H1.out t haw).mono ?_; rintro e w2 ⟨A2, c2, rfl, hi2, hf2, hb2⟩
    have I2 := Lib.hid hi2
    have B2 := Lib.hid hb2
    clear hi2 hf2 hb2
    go_wp2_with fail
    refine (spec_lr_no1 _ _ _ _ _ (H1.out.call B2.out) t haw).mono ?_; rintro e w3 ⟨A3, c3, rfl, hi3, hf3, hb3⟩
    have I3 := Lib.hid hi3
    have J2 := Lib.hid (I2.out.call hb3)
    have B3 := Lib.hid (B2.out.trans (hb3.mono B2.out.size))
    clear hi3 hf3 hb3
    go_wp2_with fail
    refine (impl_app_no1 _ _ _ _ _ (H1.out.call B3.out) t haw).mono ?_; rintro e w4 ⟨A4, c4, rfl, hi4, hf4, hb4⟩
    have I4 := Lib.hid hi4
    have K2 := Lib.hid (J2.out.call hb4)
    have K3 := Lib.hid (I3.out.call hb4)
    have B4 := Lib.hid (B3.out.trans (hb4.mono B3.out.size))
    have K1 := Lib.hid (H1.out.call B4.out)
    have BW := Lib.hid (B1.out.trans (B4.out.mono B1.out.size))
    clear hi4 hf4 hb4
    go_wp2_with fail
    go_ret
    exact ⟨rfl, BW.out⟩
  by_cases ht : -1000000000 ≤ t ∧ t ≤ 1000000000
  case neg =>
    go_wp2_with fail
    refine (impl_lr_no2 _ _ _ _ _ H1.out t haw ht).mono ?_; rintro e w2 ⟨A2, c2, rfl, hi2, hf2, hb2⟩
    have I2 := Lib.hid hi2
    have B2 := Lib.hid hb2
    clear hi2 hf2 hb2
    go_wp2_with fail
    refine (spec_lr_no2 _ _ _ _ _ (H1.out.call B2.out) t haw ht).mono ?_; rintro e w3 ⟨A3, c3, rfl, hi3, hf3, hb3⟩
    have I3 := Lib.hid hi3
    have J2 := Lib.hid (I2.out.call hb3)
    have B3 := Lib.hid (B2.out.trans (hb3.mono B2.out.size))
    clear hi3 hf3 hb3
    go_wp2_with fail
    refine (impl_app_no2 _ _ _ _ _ (H1.out.call B3.out) t haw ht).mono ?_; rintro e w4 ⟨A4, c4, rfl, hi4, hf4, hb4⟩
    have I4 := Lib.hid hi4
    have K2 := Lib.hid (J2.out.call hb4)
    have K3 := Lib.hid (I3.out.call hb4)
    have B4 := Lib.hid (B3.out.trans (hb4.mono B3.out.size))
    have K1 := Lib.hid (H1.out.call B4.out)
    have BW := Lib.hid (B1.out.trans (B4.out.mono B1.out.size))
    clear hi4 hf4 hb4
    go_wp2_with fail
    go_ret
    exact ⟨rfl, BW.out⟩
  have HAW := Lib.hid haw
  have HT := Lib.hid ht
  have hS := lr_S haw ht
  have SB := Lib.hid (aw_sums haw)
  have HP := Lib.hid (fun i hi => (⟨lr_one haw ht i hi, lr_near haw ht i hi, app_near haw ht i hi⟩ : _ ∧ _ ∧ _))
  have HX := Lib.hid (far_bounds (e := fun i => lr f n t i * sumTo f n - t * f i) (n := n) (M := 40000000) (fun i hi => by have := lr_near haw ht i hi; omega))
  have HY := Lib.hid (far_bounds (e := fun i => app f n t i * sumTo f n - t * f i) (n := n) (M := 40000000) (fun i hi => by have := app_near haw ht i hi; omega))
  have HF := Lib.hid (far_le haw ht)
  clear haw ht
  go_wp2_with fail
  refine (impl_lr_yes _ _ _ _ _ H1.out t HAW.out HT.out).mono ?_; rintro e w2 ⟨A2, c2, rfl, hi2, hf2, hb2⟩
  have I2 := Lib.hid hi2
  have B2 := Lib.hid hb2
  clear hi2 hf2 hb2
  go_wp2_with fail
  refine (spec_lr_yes _ _ _ _ _ (H1.out.call B2.out) t HAW.out HT.out).mono ?_; rintro e w3 ⟨A3, c3, rfl, hi3, hf3, hb3⟩
  have I3 := Lib.hid hi3
  have J2 := Lib.hid (I2.out.call hb3)
  have B3 := Lib.hid (B2.out.trans (hb3.mono B2.out.size))
  clear hi3 hf3 hb3
  go_wp2_with fail
  refine (impl_app_yes _ _ _ _ _ (H1.out.call B3.out) t HAW.out HT.out).mono ?_; rintro e w4 ⟨A4, c4, rfl, hi4, hf4, hb4⟩
  have I4 := Lib.hid hi4
  have K2 := Lib.hid (J2.out.call hb4)
  have K3 := Lib.hid (I3.out.call hb4)
  have B4 := Lib.hid (B3.out.trans (hb4.mono B3.out.size))
  have K1 := Lib.hid (H1.out.call B4.out)
  have BW := Lib.hid (B1.out.trans (B4.out.mono B1.out.size))
  clear hi4 hf4 hb4
  go_wp2_with fail
  go_loopw [11, 12, 13] (fun x y i wr => ∃ k m : Nat, k ≤ n ∧ i = .int .i64 (k : Int) ∧ x = .int .i64 (sumTo (fun i => max (lr f n t i * sumTo f n - t * f i) (-(lr f n t i * sumTo f n - t * f i))) k) ∧ y = .int .i64 (sumTo (fun i => max (app f n t i * sumTo f n - t * f i) (-(app f n t i * sumTo f n - t * f i))) k) ∧ wr = w4.drewN m) (fun _ _ i _ => n - (intOf i).toNat)
  case atStart => exact ⟨0, 0, Nat.zero_le _, rfl, rfl, rfl, rfl⟩
  case round =>
    obtain ⟨k, m, hk, rfl, rfl, rfl, hwr⟩ := hrel
    have HWR := Lib.hid hwr
    clear hwr
    by_cases hlt : k < n
    · have hlt' : (k : Int) < (n : Int) := by omega
      have hbw : Below w4.heap.size w4 wr := HWR.out ▸ drewN_below w4 m
      have Q1 := Lib.hid (K1.out.call hbw)
      obtain ⟨b1, o1, e1, hB1, hc1, _⟩ := Q1.out.cell k hlt
      obtain ⟨b2, o2, e2, hB2, hc2, _⟩ := (K2.out.call hbw).cell k hlt
      obtain ⟨b4, o4, e4, hB4, hc4, _⟩ := (I4.out.call hbw).cell k hlt
      subst e1 e2 e4
      clear hbw
      obtain ⟨⟨p1, p2, _⟩, ⟨p3, p4⟩, p5, p6⟩ := HP.out k hlt
      obtain ⟨x1, x2⟩ := HX.out k (by omega)
      obtain ⟨y1, y2⟩ := HY.out k (by omega)
      have ex : sumTo (fun i => max (lr f n t i * sumTo f n - t * f i) (-(lr f n t i * sumTo f n - t * f i))) (k + 1) = sumTo (fun i => max (lr f n t i * sumTo f n - t * f i) (-(lr f n t i * sumTo f n - t * f i))) k + max (lr f n t k * sumTo f n - t * f k) (-(lr f n t k * sumTo f n - t * f k)) := rfl
      have ey : sumTo (fun i => max (app f n t i * sumTo f n - t * f i) (-(app f n t i * sumTo f n - t * f i))) (k + 1) = sumTo (fun i => max (app f n t i * sumTo f n - t * f i) (-(app f n t i * sumTo f n - t * f i))) k + max (app f n t k * sumTo f n - t * f k) (-(app f n t k * sumTo f n - t * f k)) := rfl
      have EX := Lib.hid ex
      have EY := Lib.hid ey
      clear ex ey
      have u1 : IntKind.i64.wrap (t * f k) = t * f k := IntWalk.i64_in _ ⟨by omega, by omega⟩
      have u2 : IntKind.i64.wrap (lr f n t k * sumTo f n) = lr f n t k * sumTo f n := IntWalk.i64_in _ ⟨by omega, by omega⟩
      have u3 : IntKind.i64.wrap (app f n t k * sumTo f n) = app f n t k * sumTo f n := IntWalk.i64_in _ ⟨by omega, by omega⟩
      have u4 : IntKind.i64.wrap (lr f n t k * sumTo f n - t * f k) = lr f n t k * sumTo f n - t * f k := IntWalk.i64_in _ ⟨by omega, by omega⟩
      have u5 : IntKind.i64.wrap (app f n t k * sumTo f n - t * f k) = app f n t k * sumTo f n - t * f k := IntWalk.i64_in _ ⟨by omega, by omega⟩
      go_wp2_with fail
      go_quiet (first | (go_at_call 26; exact Calls.quiet_of_same (laws_sum _ _ _ _ _ (Q1.out.drewN _) (fun k hk => by have := SB.out k hk; omega))))
      obtain ⟨nq1, rfl⟩ : ∃ m : Nat, m = nq := ⟨_, rfl⟩
      have Q1' := Lib.hid (Q1.out.drewN nq1)
      have HWR' := Lib.hid ((congrArg (fun W => World.drewN W nq1) HWR.out).trans (World.drewN_drewN _ _ _))
      have d1 : (wr.drewN nq1).cell? ⟨b1, o1 + k, none⟩ = some (.int .i64 (f k)) := hc1
      have d4 : (wr.drewN nq1).cell? ⟨b4, o4 + k, none⟩ = some (.int .i64 (app f n t k)) := hc4
      clear hc1 hc2 hc4
      generalize wr.drewN nq1 = W5 at *
      go_wp2_with fail
      go_quiet (first | (go_at_call 26; exact Calls.quiet_of_same (laws_sum _ _ _ _ _ (Q1'.out.drewN _) (fun k hk => by have := SB.out k hk; omega))))
      obtain ⟨nq2, rfl⟩ : ∃ m : Nat, m = nq := ⟨_, rfl⟩
      generalize hD1 : lr f n t k * sumTo f n - t * f k = D1 at *
      generalize hD2 : app f n t k * sumTo f n - t * f k = D2 at *
      have HD1 := Lib.hid hD1
      have HD2 := Lib.hid hD2
      have b1' : -40000000 ≤ D1 ∧ D1 ≤ 40000000 := by omega
      have b2' : -40000000 ≤ D2 ∧ D2 ≤ 40000000 := by omega
      clear hD1 hD2 u1 u2 u3 u4 u5 p1 p2 p3 p4 p5 p6
      go_wp2_with fail
      go_roundw
      case rel => exact ⟨k + 1, m + nq1 + nq2, by omega, by go_num, by rw [EX.out]; exact congrArg (Value.int .i64) (by split <;> omega), by rw [EY.out]; exact congrArg (Value.int .i64) (by split <;> omega), by rw [HWR'.out, World.drewN_drewN]⟩
      case measure => simp [intOf]; omega
    · obtain rfl : k = n := by omega
      have hf := HF.out
      go_wp2_with fail
      go_ret
      refine ⟨ret_b (by simp [hf]), ?_⟩
      rw [HWR.out]
      exact BW.out.trans ⟨rfl, rfl, rfl, Nat.le_refl _, fun _ _ => rfl⟩

set_option maxHeartbeats 4000000 in
theorem law_Sharing (w : World) (A : Option Addr) (len cap : Nat) (hb : Bytes w A len) :
    Calls Try.prog 9 #[.slice A len cap] w fun e w' => e = .returned (.bool true) ∧ Below w.heap.size w w' := by
  have hm := hb.1
  have HB := Lib.hid hb
  clear hb
  by_cases hbig : 1048576 < len
  · have hd : decide (1048576 < len) = true := by simpa using hbig
    go_enter Try.func9, Try.ntmps9
    go_wp2_with fail
    refine (big_any _ _ _ _ hm).mono ?_; rintro e w0 ⟨rfl, hw'⟩; obtain rfl := hw'.symm
    go_wp2_with fail
    go_ret
    exact ⟨rfl, Below.refl _ _⟩
  have hd : decide (1048576 < len) = false := by simpa using hbig
  go_enter Try.func9, Try.ntmps9
  go_wp2_with fail
  refine (big_any _ _ _ _ hm).mono ?_; rintro e w0 ⟨rfl, hw'⟩; obtain rfl := hw'.symm
  go_wp2_with fail
  refine (DrawApportion_any _ _ _ _ HB.out).mono ?_; rintro e w1 ⟨t, A1, n, c1, f, rfl, ht0, ht1, hn8, hi1, hb1⟩
  have hn : n ≤ 9223372036854775807 := by omega
  have H1 := Lib.hid hi1
  have B1 := Lib.hid hb1
  clear hi1 hb1 HB

  have ew : IntKind.i64.wrap (-t) = if t = -9223372036854775808 then t else -t := by
    by_cases e : t = -9223372036854775808
    · subst e; rfl
    · rw [if_neg e]; exact IntWalk.i64_in _ ⟨by omega, by omega⟩
  obtain ⟨t', ht', htr⟩ : ∃ t', IntKind.i64.wrap (-t) = t' ∧ ((-1000000000 ≤ t ∧ t ≤ 1000000000) → t' = -t) ∧ (¬ (-1000000000 ≤ t ∧ t ≤ 1000000000) → ¬ (-1000000000 ≤ t' ∧ t' ≤ 1000000000)) := by
    refine ⟨_, ew, fun h => ?_, fun h => ?_⟩
    · rw [if_neg (by omega)]
    · split <;> omega
  have ht'' : wrap64 (-t) = t' := by rw [← ht', IntKind.wrap_i64]; unfold wrap64; rfl
  clear ew
  cases haw : awB f n
  · clear htr
    go_wp2_with fail
    refine (impl_app_no1 _ _ _ _ _ H1.out t haw).mono ?_; rintro e w2 ⟨A2, c2, rfl, hi2, hf2, hb2⟩
    have I2 := Lib.hid hi2
    have B2 := Lib.hid hb2
    clear hi2 hf2 hb2
    go_wp2_with fail
    refine (impl_lr_no1 _ _ _ _ _ (H1.out.call B2.out) t haw).mono ?_; rintro e w3 ⟨A3, c3, rfl, hi3, hf3, hb3⟩
    have I3 := Lib.hid hi3
    have J2 := Lib.hid (I2.out.call hb3)
    have B3 := Lib.hid (B2.out.trans (hb3.mono B2.out.size))
    clear hi3 hf3 hb3
    go_wp2_with fail
    refine (impl_app_no1 _ _ _ _ _ (H1.out.call B3.out) t' haw).mono ?_; rintro e w4 ⟨A4, c4, rfl, hi4, hf4, hb4⟩
    have I4 := Lib.hid hi4
    have K2 := Lib.hid (J2.out.call hb4)
    have K3 := Lib.hid (I3.out.call hb4)
    have B4 := Lib.hid (B3.out.trans (hb4.mono B3.out.size))
    have K1 := Lib.hid (H1.out.call B4.out)
    have BW := Lib.hid (B1.out.trans (B4.out.mono B1.out.size))
    clear hi4 hf4 hb4
    go_wp2_with (go_at_call 10; refine (spec_areWeights _ _ _ _ _ K1.out).mono ?_; rintro e w' ⟨rfl, hw'⟩; obtain rfl := hw'.symm)
    go_ret
    exact ⟨rfl, BW.out⟩
  by_cases ht : -1000000000 ≤ t ∧ t ≤ 1000000000
  case neg =>
    have htn := htr.2 ht
    clear htr
    go_wp2_with fail
    refine (impl_app_no2 _ _ _ _ _ H1.out t haw ht).mono ?_; rintro e w2 ⟨A2, c2, rfl, hi2, hf2, hb2⟩
    have I2 := Lib.hid hi2
    have B2 := Lib.hid hb2
    clear hi2 hf2 hb2
    go_wp2_with fail
    refine (impl_lr_no2 _ _ _ _ _ (H1.out.call B2.out) t haw ht).mono ?_; rintro e w3 ⟨A3, c3, rfl, hi3, hf3, hb3⟩
    have I3 := Lib.hid hi3
    have J2 := Lib.hid (I2.out.call hb3)
    have B3 := Lib.hid (B2.out.trans (hb3.mono B2.out.size))
    clear hi3 hf3 hb3
    go_wp2_with fail
    refine (impl_app_no2 _ _ _ _ _ (H1.out.call B3.out) t' haw htn).mono ?_; rintro e w4 ⟨A4, c4, rfl, hi4, hf4, hb4⟩
    have I4 := Lib.hid hi4
    have K2 := Lib.hid (J2.out.call hb4)
    have K3 := Lib.hid (I3.out.call hb4)
    have B4 := Lib.hid (B3.out.trans (hb4.mono B3.out.size))
    have K1 := Lib.hid (H1.out.call B4.out)
    have BW := Lib.hid (B1.out.trans (B4.out.mono B1.out.size))
    clear hi4 hf4 hb4
    by_cases hlo : -1000000000 ≤ t
    · have hhi : ¬ t ≤ 1000000000 := by omega
      go_wp2_with (go_at_call 10; refine (spec_areWeights _ _ _ _ _ K1.out).mono ?_; rintro e w' ⟨rfl, hw'⟩; obtain rfl := hw'.symm)
      go_ret
      exact ⟨rfl, BW.out⟩
    · go_wp2_with (go_at_call 10; refine (spec_areWeights _ _ _ _ _ K1.out).mono ?_; rintro e w' ⟨rfl, hw'⟩; obtain rfl := hw'.symm)
      go_ret
      exact ⟨rfl, BW.out⟩
  have htn := htr.1 ht
  have htb : -1000000000 ≤ -t ∧ -t ≤ 1000000000 := by omega
  subst htn
  clear htr
  have HAW := Lib.hid haw
  have HT := Lib.hid ht
  have HTN := Lib.hid htb
  have HSA := Lib.hid (fun k hk => sh_bounds haw ht (k := k) hk)
  have HAB := Lib.hid (app_bounds haw ht)
  have HAI := Lib.hid (app_is haw ht)
  have HLI := Lib.hid (lr_is haw ht)
  have n1 := (aw_n haw).1
  clear haw ht htb
  go_wp2_with fail
  refine (impl_app_yes _ _ _ _ _ H1.out t HAW.out HT.out).mono ?_; rintro e w2 ⟨A2, c2, rfl, hi2, hf2, hb2⟩
  have I2 := Lib.hid hi2
  have B2 := Lib.hid hb2
  clear hi2 hf2 hb2
  go_wp2_with fail
  refine (impl_lr_yes _ _ _ _ _ (H1.out.call B2.out) t HAW.out HT.out).mono ?_; rintro e w3 ⟨A3, c3, rfl, hi3, hf3, hb3⟩
  have I3 := Lib.hid hi3
  have J2 := Lib.hid (I2.out.call hb3)
  have B3 := Lib.hid (B2.out.trans (hb3.mono B2.out.size))
  clear hi3 hf3 hb3
  go_wp2_with fail
  refine (impl_app_yes _ _ _ _ _ (H1.out.call B3.out) (-t) HAW.out HTN.out).mono ?_; rintro e w4 ⟨A4, c4, rfl, hi4, hf4, hb4⟩
  have I4 := Lib.hid hi4
  have K2 := Lib.hid (J2.out.call hb4)
  have K3 := Lib.hid (I3.out.call hb4)
  have B4 := Lib.hid (B3.out.trans (hb4.mono B3.out.size))
  have K1 := Lib.hid (H1.out.call B4.out)
  have BW := Lib.hid (B1.out.trans (B4.out.mono B1.out.size))
  clear hi4 hf4 hb4
  obtain ⟨ht0', ht1'⟩ := HT.out
  go_wp2_with (go_at_call 10; refine (spec_areWeights _ _ _ _ _ K1.out).mono ?_; rintro e w' ⟨rfl, hw'⟩; obtain rfl := hw'.symm)
  go_loopw [11] (fun i wr => ∃ k m : Nat, k ≤ n + 1 ∧ i = .int .i64 (k : Int) ∧ wr = w4.drewN m) (fun i _ => n + 1 - (intOf i).toNat)
  case atStart => exact ⟨0, 0, Nat.zero_le _, rfl, rfl⟩
  case round =>
    obtain ⟨k, m, hk, rfl, hwr⟩ := hrel
    have HWR := Lib.hid hwr
    have hbw : Below w4.heap.size w4 wr := HWR.out ▸ drewN_below w4 m
    have Q1 := Lib.hid (K1.out.call hbw)
    have Q2 := Lib.hid (K2.out.call hbw)
    have Q3 := Lib.hid (K3.out.call hbw)
    have Q4 := Lib.hid (I4.out.call hbw)
    clear hwr hbw
    by_cases hle : k ≤ n
    · have hle' : (k : Int) ≤ (n : Int) := by omega
      go_wp2_with fail
      refine (impl_share_yes _ _ _ _ _ Q1.out t k HAW.out HT.out hle).mono ?_; rintro e w5 ⟨rfl, hw'⟩; obtain rfl := hw'.symm
      have hc2c : k ≤ c2 := by have := K2.out.le; omega
      have hc2c' : (k : Int) ≤ (c2 : Int) := by omega
      have SQ : Hid (∀ j, j ≤ k → -1000000000000000000 ≤ sumTo (app f n t) j ∧ sumTo (app f n t) j ≤ 1000000000000000000) := Lib.hid (fun j hj => by rw [app_sum]; exact HSA.out j (by omega))
      have hsum : ∀ (W : World), IntsF W A2 k c2 (app f n t) → Calls Try.prog 26 #[.slice A2 k c2] W fun e w' => e = .returned (.int .i64 (sh f n t k)) ∧ w' = W := fun W h => by
        rw [← app_sum]; exact laws_sum W A2 k c2 _ h SQ.out
      have HSUM := Lib.hid hsum
      clear hsum SQ
      obtain ⟨b2, o2, e2, _⟩ := K2.out.cell 0 (by omega)
      by_cases hlt : k < n
      · have hlt' : (k : Int) < (n : Int) := by omega
        obtain ⟨b2', o2', e2', hB2, hc2, _⟩ := Q2.out.cell k hlt
        obtain ⟨b4, o4, e4, hB4, hc4, _⟩ := Q4.out.cell k hlt
        rw [e2] at e2'
        injection e2' with e2'
        injection e2' with q1 q2 _
        subst q1 q2
        rw [app_neg] at hc4
        have u1 : IntKind.i64.wrap (-(app f n t k)) = -(app f n t k) := IntWalk.i64_in _ ⟨by have := HAB.out k hlt; omega, by have := HAB.out k hlt; omega⟩
        subst e2 e4
        go_wp2_with fail
        go_quiet (first | (go_at_call 26; exact Calls.quiet_of_same (HSUM.out _ ((Q2.out.drewN _).short hle))))
        obtain ⟨nq1, rfl⟩ : ∃ m : Nat, m = nq := ⟨_, rfl⟩
        go_wp2_with fail
        go_roundw
        case rel => exact ⟨k + 1, m + nq1, by omega, by go_num, by rw [HWR.out, World.drewN_drewN]⟩
        case measure => simp [intOf]; omega
      · have hlt' : decide ((k : Int) < (n : Int)) = false := by simp; omega
        subst e2
        go_wp2_with fail
        go_quiet (first | (go_at_call 26; exact Calls.quiet_of_same (HSUM.out _ ((Q2.out.drewN _).short hle))))
        obtain ⟨nq1, rfl⟩ : ∃ m : Nat, m = nq := ⟨_, rfl⟩
        go_wp2_with fail
        go_roundw
        case rel => exact ⟨k + 1, m + nq1, by omega, by go_num, by rw [HWR.out, World.drewN_drewN]⟩
        case measure => simp [intOf]; omega
    · obtain rfl : k = n + 1 := by omega
      have hle' : ¬ ((n + 1 : Nat) : Int) ≤ (n : Int) := by omega
      go_wp2_with fail
      refine (impl_isSharing _ _ _ _ _ Q1.out _ _ _ _ Q2.out t).mono ?_; rintro e w5 ⟨rfl, m5, rfl⟩
      rw [HAI.out]
      go_wp2_with fail
      refine (spec_isSharing _ _ _ _ _ (Q1.out.drewN m5) _ _ _ _ (Q2.out.drewN m5) t).mono ?_; rintro e w6 ⟨rfl, m6, rfl⟩
      rw [HAI.out]
      go_wp2_with fail
      refine (spec_isSharing _ _ _ _ _ (Q1.out.drewN _) _ _ _ _ (Q3.out.drewN _) t).mono ?_; rintro e w7 ⟨rfl, m7, rfl⟩
      rw [HLI.out]
      go_wp2_with fail
      go_ret
      refine ⟨rfl, ?_⟩
      rw [HWR.out]
      exact BW.out.trans ⟨rfl, rfl, rfl, Nat.le_refl _, fun _ _ => rfl⟩

end Go.Proofs.Ytmplfpdokkcpcaa
