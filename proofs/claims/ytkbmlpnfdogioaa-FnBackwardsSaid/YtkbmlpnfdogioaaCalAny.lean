/-
  Calendars: contracts for whatever arguments; what the results have to do with one another.
-/
import Derived.Test.YtkbmlpnfdogioaaCalOps2
import Derived.Test.YtkbmlpnfdogioaaCalFacts
namespace Go.Proofs.Ytkbmlpnfdogioaa
open Go.RowKit cost
set_option linter.unusedVariables false
section
variable (n : Nat) (f : Nat → Int) (m : Nat) (dy hr : Nat → Int)
/-- hours between, 0 if the calendar is not valid -/
@[irreducible] noncomputable def hbv (a b : Int) : Int := if calB n f m dy hr = true then hb (over f dy hr m) a b else 0
/-- workdays between -/
@[irreducible] noncomputable def wbv (a b : Int) : Int := if calB n f m dy hr = true then wb (over f dy hr m) a b else 0
noncomputable def finR (a t : Int) : Option Nat := if calB n f m dy hr = true ∧ (0 ≤ a ∧ a ≤ 999) ∧ 1 ≤ t then fin (over f dy hr m) (1000 - a.toNat) a.toNat t else none
noncomputable def addWR (a k : Int) : Option Nat := if calB n f m dy hr = true ∧ (0 ≤ a ∧ a ≤ 999) then (if 0 ≤ k then fwd (one1 (over f dy hr m)) (1000 - a.toNat) a.toNat k else bwd (one1 (over f dy hr m)) a.toNat k) else none
noncomputable def hov (d : Int) : Int := if calB n f m dy hr = true ∧ (0 ≤ d ∧ d ≤ 999) then over f dy hr m d.toNat else 0
theorem hbv_bd (a b : Int) : 0 ≤ hbv n f m dy hr a b ∧ hbv n f m dy hr a b ≤ 24000 := by
  unfold hbv
  split
  · next hc => exact hb_bd (fun d => cal_over hc d) a b
  · omega
theorem wbv_bd (a b : Int) : -1000 ≤ wbv n f m dy hr a b ∧ wbv n f m dy hr a b ≤ 1000 := by
  unfold wbv
  split
  · next hc => exact wb_bd (fun d => cal_over hc d) a b
  · omega
theorem wbv_add (a k b : Int) : wbv n f m dy hr a k + wbv n f m dy hr k b = wbv n f m dy hr a b := by
  unfold wbv
  split
  · exact wb_add _ _ _ _
  · rfl
theorem wbv_neg (a b : Int) : wbv n f m dy hr a b = -wbv n f m dy hr b a := by
  unfold wbv
  split
  · exact wb_neg _ _ _
  · rfl
theorem hbv_add {a k b : Int} (h1 : a ≤ k) (h2 : k ≤ b) : hbv n f m dy hr a k + hbv n f m dy hr k b = hbv n f m dy hr a b := by
  unfold hbv
  split
  · exact hb_add _ h1 h2
  · rfl
theorem fin_facts {a t : Int} {d : Nat} (h : finR n f m dy hr a t = some d) : (0 ≤ a ∧ a ≤ (d : Int)) ∧ d ≤ 999 ∧ t ≤ hbv n f m dy hr a ((d : Int) + 1) ∧ hbv n f m dy hr a (d : Int) < t := by
  unfold finR at h
  split at h
  case isFalse => cases h
  next hc =>
    obtain ⟨hc, ha, ht⟩ := hc
    obtain ⟨h1, h2, h3, h4⟩ := fin_spec _ _ _ _ _ (by omega) h
    refine ⟨⟨ha.1, by omega⟩, by omega, ?_, ?_⟩
    · unfold hbv
      rw [if_pos hc, hb_upto _ (by omega), show ((d : Int) + 1) = ((d + 1 : Nat) : Int) by omega, upto_nat _ (by omega), show a = ((a.toNat : Nat) : Int) by omega, upto_nat _ (by omega)]
      simpa using h3
    · unfold hbv
      rw [if_pos hc, hb_upto _ (by omega), upto_nat _ (by omega), show a = ((a.toNat : Nat) : Int) by omega, upto_nat _ (by omega)]
      simpa using h4
theorem addW_facts {a k : Int} {b : Nat} (h : addWR n f m dy hr a k = some b) : calB n f m dy hr = true ∧ (0 ≤ a ∧ a ≤ 999) ∧ b ≤ 999 ∧ wbv n f m dy hr a (b : Int) = k ∧ (k = 0 → a = (b : Int)) ∧ (0 < k → a < (b : Int) ∧ wbv n f m dy hr a ((b : Int) - 1) = k - 1) ∧
    (k < 0 → (b : Int) < a ∧ 0 < hov n f m dy hr (b : Int) ∧ wbv n f m dy hr (b : Int) a = -k) := by
  unfold addWR at h
  split at h
  case isFalse => cases h
  next hc =>
    obtain ⟨hc, ha⟩ := hc
    have hg := fun d => cal_over hc d
    have e : ∀ x y : Int, wbv n f m dy hr x y = upto (one1 (over f dy hr m)) y - upto (one1 (over f dy hr m)) x := fun x y => by unfold wbv; rw [if_pos hc, wb_upto]
    have ea : upto (one1 (over f dy hr m)) a = sumTo (one1 (over f dy hr m)) a.toNat := by
      rw [show a = ((a.toNat : Nat) : Int) by omega, upto_nat _ (by omega)]; rfl
    by_cases h0 : 0 ≤ k
    · rw [if_pos h0] at h
      obtain ⟨h1, h2, h3, h4⟩ := fwd_spec _ _ _ _ _ h
      refine ⟨hc, ha, by omega, ?_, ?_, ?_, fun h => by omega⟩
      · rw [e, ea, upto_nat _ (by omega)]; exact h3
      · intro hk
        subst hk
        have := fwd_zero _ h
        omega
      · intro hk
        obtain ⟨h5, h6⟩ := h4 (by omega)
        refine ⟨by omega, ?_⟩
        have h7 := (one1_pos hg h6).2
        rw [e, ea, show (b : Int) - 1 = ((b - 1 : Nat) : Int) by omega, upto_nat _ (by omega)]
        have h8 : sumTo (one1 (over f dy hr m)) b = sumTo (one1 (over f dy hr m)) (b - 1) + one1 (over f dy hr m) (b - 1) := by
          obtain ⟨q, rfl⟩ : ∃ q, b = q + 1 := ⟨b - 1, by omega⟩
          rfl
        omega
    · rw [if_neg h0] at h
      obtain ⟨h1, h2, h3⟩ := bwd_spec _ _ _ _ (by omega) h
      have e2 : upto (one1 (over f dy hr m)) (b : Int) = sumTo (one1 (over f dy hr m)) b := upto_nat _ (by omega)
      refine ⟨hc, ha, by omega, ?_, fun h => by omega, fun h => by omega, fun _ => ⟨by omega, ?_, ?_⟩⟩
      · rw [e, ea, e2]; omega
      · have := (one1_pos hg h3).1
        unfold hov
        rw [if_pos ⟨hc, by omega, by omega⟩]
        simpa using this
      · rw [e, ea, e2]; omega
end

theorem impl_HB (w : World) (A : Option Addr) (n c : Nat) (f : Nat → Int) (B : Option Addr) (m c2 : Nat) (dy hr : Nat → Int) (h : CalF w A n c f B m c2 dy hr) (a b : Int) (ha : (-9223372036854775808 ≤ a ∧ a ≤ 9223372036854775807)) :
    Calls Try.prog 23 #[.agg #[.slice A n c, .slice B m c2], .int .i64 a, .int .i64 b] w fun e w' => e = .returned (.int .i64 (hbv n f m dy hr a b)) ∧ Below w.heap.size w w' := by
  unfold hbv
  cases hc : calB n f m dy hr
  · exact impl_HoursBetween_no1 w A n c f B m c2 dy hr h a b hc
  · exact impl_HoursBetween_yes w A n c f B m c2 dy hr h a b hc
theorem spec_HB (w : World) (A : Option Addr) (n c : Nat) (f : Nat → Int) (B : Option Addr) (m c2 : Nat) (dy hr : Nat → Int) (h : CalF w A n c f B m c2 dy hr) (a b : Int) (ha : (-9223372036854775808 ≤ a ∧ a ≤ 9223372036854775807)) :
    Calls Try.prog 24 #[.agg #[.slice A n c, .slice B m c2], .int .i64 a, .int .i64 b] w fun e w' => e = .returned (.int .i64 (hbv n f m dy hr a b)) ∧ Below w.heap.size w w' := by
  unfold hbv
  cases hc : calB n f m dy hr
  · exact spec_HoursBetween_no1 w A n c f B m c2 dy hr h a b hc
  · exact spec_HoursBetween_yes w A n c f B m c2 dy hr h a b hc ha.2
theorem impl_WB (w : World) (A : Option Addr) (n c : Nat) (f : Nat → Int) (B : Option Addr) (m c2 : Nat) (dy hr : Nat → Int) (h : CalF w A n c f B m c2 dy hr) (a b : Int) :
    Calls Try.prog 25 #[.agg #[.slice A n c, .slice B m c2], .int .i64 a, .int .i64 b] w fun e w' => e = .returned (.int .i64 (wbv n f m dy hr a b)) ∧ Below w.heap.size w w' := by
  unfold wbv
  cases hc : calB n f m dy hr
  · exact impl_WorkdaysBetween_no1 w A n c f B m c2 dy hr h a b hc
  · exact impl_WorkdaysBetween_yes w A n c f B m c2 dy hr h a b hc
theorem impl_HO (w : World) (A : Option Addr) (n c : Nat) (f : Nat → Int) (B : Option Addr) (m c2 : Nat) (dy hr : Nat → Int) (h : CalF w A n c f B m c2 dy hr) (d : Int) :
    Calls Try.prog 19 #[.agg #[.slice A n c, .slice B m c2], .int .i64 d] w fun e w' => e = .returned (.int .i64 (hov n f m dy hr d)) ∧ Below w.heap.size w w' := by
  unfold hov
  cases hc : calB n f m dy hr
  · rw [if_neg (by simp)]
    exact impl_HoursOn_no1 w A n c f B m c2 dy hr h d hc
  · by_cases hd : 0 ≤ d ∧ d ≤ 999
    · rw [if_pos ⟨rfl, hd⟩]
      obtain ⟨k, rfl⟩ : ∃ k : Nat, d = (k : Int) := ⟨d.toNat, by omega⟩
      exact impl_HoursOn_yes w A n c f B m c2 dy hr h k hc (by omega)
    · rw [if_neg (fun x => hd x.2)]
      exact impl_HoursOn_no2 w A n c f B m c2 dy hr h d hc hd
theorem impl_AW (w : World) (A : Option Addr) (n c : Nat) (f : Nat → Int) (B : Option Addr) (m c2 : Nat) (dy hr : Nat → Int) (h : CalF w A n c f B m c2 dy hr) (k l : Int) (hl : (-9223372036854775808 ≤ l ∧ l ≤ 9223372036854775807)) (R : Option Nat) (hR : addWR n f m dy hr k l = R) :
    Calls Try.prog 31 #[.agg #[.slice A n c, .slice B m c2], .int .i64 k, .int .i64 l] w fun e w' => e = .returned (.tuple #[.int .i64 (resN R), .bool (resB R)]) ∧ Below w.heap.size w w' := by
  unfold addWR at hR
  cases hc : calB n f m dy hr
  · rw [hc, if_neg (by simp)] at hR; subst hR
    exact impl_AddWorkdays_no1 w A n c f B m c2 dy hr h k l hc
  · by_cases hd : 0 ≤ k ∧ k ≤ 999
    case neg =>
      rw [if_neg (fun x => hd x.2)] at hR; subst hR
      exact impl_AddWorkdays_no2 w A n c f B m c2 dy hr h k l hc hd
    rw [if_pos ⟨hc, hd⟩] at hR
    obtain ⟨k', rfl⟩ : ∃ k' : Nat, k = (k' : Int) := ⟨k.toNat, by omega⟩
    by_cases h0 : 0 ≤ l
    · rw [if_pos h0] at hR
      exact impl_AddWorkdays_yesF w A n c f B m c2 dy hr h k' l R hc (by omega) h0 hR.symm
    · rw [if_neg h0] at hR
      exact impl_AddWorkdays_yesB w A n c f B m c2 dy hr h k' l R hc (by omega) (by omega) hl.1 hR.symm
theorem impl_FD (w : World) (A : Option Addr) (n c : Nat) (f : Nat → Int) (B : Option Addr) (m c2 : Nat) (dy hr : Nat → Int) (h : CalF w A n c f B m c2 dy hr) (k l : Int) (hl : (-9223372036854775808 ≤ l ∧ l ≤ 9223372036854775807)) (R : Option Nat) (hR : finR n f m dy hr k l = R) :
    Calls Try.prog 27 #[.agg #[.slice A n c, .slice B m c2], .int .i64 k, .int .i64 l] w fun e w' => e = .returned (.tuple #[.int .i64 (resN R), .bool (resB R)]) ∧ Below w.heap.size w w' := by
  unfold finR at hR
  cases hc : calB n f m dy hr
  · rw [hc, if_neg (by simp)] at hR; subst hR
    exact impl_FinishDay_no1 w A n c f B m c2 dy hr h k l hc
  · by_cases hd : 0 ≤ k ∧ k ≤ 999
    case neg =>
      rw [if_neg (fun x => hd x.2.1)] at hR; subst hR
      exact impl_FinishDay_no2 w A n c f B m c2 dy hr h k l hc hd
    by_cases h1 : l < 1
    · rw [if_neg (fun x => by omega)] at hR; subst hR
      exact impl_FinishDay_no3 w A n c f B m c2 dy hr h k l hc hd h1
    rw [if_pos ⟨hc, hd, by omega⟩] at hR
    obtain ⟨k', rfl⟩ : ∃ k' : Nat, k = (k' : Int) := ⟨k.toNat, by omega⟩
    exact impl_FinishDay_yes w A n c f B m c2 dy hr h k' l R hc (by omega) (by omega) hl.2 hR.symm
theorem spec_AW (w : World) (A : Option Addr) (n c : Nat) (f : Nat → Int) (B : Option Addr) (m c2 : Nat) (dy hr : Nat → Int) (h : CalF w A n c f B m c2 dy hr) (k l : Int) (hl : (-9223372036854775808 ≤ l ∧ l ≤ 9223372036854775807)) (R : Option Nat) (hR : addWR n f m dy hr k l = R) :
    Calls Try.prog 32 #[.agg #[.slice A n c, .slice B m c2], .int .i64 k, .int .i64 l] w fun e w' => e = .returned (.tuple #[.int .i64 (resN R), .bool (resB R)]) ∧ Below w.heap.size w w' := by
  unfold addWR at hR
  cases hc : calB n f m dy hr
  · rw [hc, if_neg (by simp)] at hR; subst hR
    exact spec_AddWorkdays_no1 w A n c f B m c2 dy hr h k l hc
  · by_cases hd : 0 ≤ k ∧ k ≤ 999
    case neg =>
      rw [if_neg (fun x => hd x.2)] at hR; subst hR
      exact spec_AddWorkdays_no2 w A n c f B m c2 dy hr h k l hc hd
    rw [if_pos ⟨hc, hd⟩] at hR
    obtain ⟨k', rfl⟩ : ∃ k' : Nat, k = (k' : Int) := ⟨k.toNat, by omega⟩
    by_cases h0 : 0 ≤ l
    · rw [if_pos h0] at hR
      exact spec_AddWorkdays_yesF w A n c f B m c2 dy hr h k' l R hc (by omega) h0 hl.2 hR.symm
    · rw [if_neg h0] at hR
      exact spec_AddWorkdays_yesB w A n c f B m c2 dy hr h k' l R hc (by omega) (by omega) hl.1 hR.symm
theorem spec_FD (w : World) (A : Option Addr) (n c : Nat) (f : Nat → Int) (B : Option Addr) (m c2 : Nat) (dy hr : Nat → Int) (h : CalF w A n c f B m c2 dy hr) (k l : Int) (hl : (-9223372036854775808 ≤ l ∧ l ≤ 9223372036854775807)) (R : Option Nat) (hR : finR n f m dy hr k l = R) :
    Calls Try.prog 28 #[.agg #[.slice A n c, .slice B m c2], .int .i64 k, .int .i64 l] w fun e w' => e = .returned (.tuple #[.int .i64 (resN R), .bool (resB R)]) ∧ Below w.heap.size w w' := by
  unfold finR at hR
  cases hc : calB n f m dy hr
  · rw [hc, if_neg (by simp)] at hR; subst hR
    exact spec_FinishDay_no1 w A n c f B m c2 dy hr h k l hc
  · by_cases hd : 0 ≤ k ∧ k ≤ 999
    case neg =>
      rw [if_neg (fun x => hd x.2.1)] at hR; subst hR
      exact spec_FinishDay_no2 w A n c f B m c2 dy hr h k l hc hd
    by_cases h1 : l < 1
    · rw [if_neg (fun x => by omega)] at hR; subst hR
      exact spec_FinishDay_no3 w A n c f B m c2 dy hr h k l hc hd h1
    rw [if_pos ⟨hc, hd, by omega⟩] at hR
    obtain ⟨k', rfl⟩ : ∃ k' : Nat, k = (k' : Int) := ⟨k.toNat, by omega⟩
    exact spec_FinishDay_yes w A n c f B m c2 dy hr h k' l R hc (by omega) (by omega) hl.2 hR.symm
end Go.Proofs.Ytkbmlpnfdogioaa
