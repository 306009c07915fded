/-
  Calendars: how they read; contracts of IsCalendar.
-/
import Derived.Test.YtkbmlpnfdogioaaSlices
import Derived.Test.YtkbmlpnfdogioaaInts
import Derived.Test.YtkbmlpnfdogioaaIn
import Derived.Test.YtkbmlpnfdogioaaCalNum
import Derived.Test.YtkbmlpnfdogioaaKept
import Derived.BigQuiet
namespace Go.Proofs.Ytkbmlpnfdogioaa
open Go.RowKit
set_option linter.unusedVariables false
set_option linter.unusedSimpArgs false

/-- what an exception's cells hold -/
def excC (dy hr : Nat → Int) (j q : Nat) : Value := if q = 0 then .int .i64 (dy j) else .int .i64 (hr j)
def inI (f : Nat → Int) (n : Nat) : Prop := ∀ i, i < n → -9223372036854775808 ≤ f i ∧ f i ≤ 9223372036854775807
/-- the two slices of a calendar -/
structure CalF (w : World) (A : Option Addr) (n c : Nat) (f : Nat → Int) (B : Option Addr) (m c2 : Nat) (dy hr : Nat → Int) : Prop where
  week : IntsF w A n c f
  exc : SliceF w B m c2 2 (excC dy hr)
  day : inI dy m
  hour : inI hr m
section
variable {w w' : World} {A : Option Addr} {n c : Nat} {f : Nat → Int} {B : Option Addr} {m c2 : Nat} {dy hr : Nat → Int}
theorem CalF.call (h : CalF w A n c f B m c2 dy hr) (hb : Below w.heap.size w w') : CalF w' A n c f B m c2 dy hr := ⟨h.week.call hb, h.exc.call hb, h.day, h.hour⟩
theorem CalF.cells (h : CalF w A n c f B m c2 dy hr) {j : Nat} (hj : j < m) : ∃ b o, B = some ⟨b, o, none⟩ ∧ b < w.heap.size ∧ w.cell? ⟨b, o + j * 2, none⟩ = some (.int .i64 (dy j)) ∧ w.cell? ⟨b, o + j * 2 + 1, none⟩ = some (.int .i64 (hr j)) := by
  obtain ⟨b, o, e, hB, hc⟩ := h.exc.cell j hj
  exact ⟨b, o, e, hB, hc 0 (by omega), hc 1 (by omega)⟩
end
/-- the cells of the call's own copy of a calendar -/
def calBox (w : World) (A : Option Addr) (n c : Nat) (B : Option Addr) (m c2 : Nat) : List (Addr × Value) := [(⟨w.heap.size, 0, none⟩, .slice A n c), (⟨w.heap.size, 1, none⟩, .slice B m c2)]
theorem Kept.pair {w W : World} {a0 a1 : Addr} {v0 v1 : Value} (h : Kept w [(a0, v0), (a1, v1)] W) : W.cell? a0 = some v0 ∧ W.cell? a1 = some v1 :=
  ⟨h.cell (a0, v0) (by simp), h.cell (a1, v1) (by simp)⟩
theorem calB_no {n : Nat} {f : Nat → Int} {m : Nat} {dy hr : Nat → Int} (h : ¬ (n = 7 ∧ m ≤ 20 ∧ (∀ i, i < 7 → 0 ≤ f i ∧ f i ≤ 24) ∧ ∀ i, i < m → excOk dy hr i)) : calB n f m dy hr = false := by
  cases e : calB n f m dy hr
  · rfl
  · exact absurd (calB_iff.1 e) h
theorem calB_yes {f : Nat → Int} {m : Nat} {dy hr : Nat → Int} (h1 : m ≤ 20) (h2 : ∀ i, i < 7 → 0 ≤ f i ∧ f i ≤ 24) (h3 : ∀ i, i < m → excOk dy hr i) : calB 7 f m dy hr = true := calB_iff.2 ⟨rfl, h1, h2, h3⟩
theorem cal_boxed (w : World) (A : Option Addr) (n c : Nat) (B : Option Addr) (m c2 : Nat) (T : TypeId) : Kept w (calBox w A n c B m c2) (w.alloc (.cells #[.slice A n c, .slice B m c2] T)) :=
  Kept.cons (Kept.cons ((Kept.nil (w := w)).alloc _) (by simp) (by simp [World.cell?_alloc_new])) (by simp) (by simp [World.cell?_alloc_new])


set_option maxHeartbeats 2000000 in
theorem spec_isCalendar (w : World) (A : Option Addr) (n c : Nat) (f : Nat → Int) (B : Option Addr) (m c2 : Nat) (dy hr : Nat → Int) (h : CalF w A n c f B m c2 dy hr) :
    Calls Try.prog 14 #[.agg #[.slice A n c, .slice B m c2]] w fun e w' => e = .returned (.bool (calB n f m dy hr)) ∧ Below w.heap.size w w' := by
  have hn : n ≤ 9223372036854775807 := by have := h.week.max; have := h.week.le; omega
  have hm : m ≤ 9223372036854775807 := by have := h.exc.max; have := h.exc.le; omega
  have K0 := Lib.hid (cal_boxed w A n c B m c2 30)
  have H := Lib.hid h
  clear h
  obtain ⟨q, hq⟩ : ∃ q, q = calB n f m dy hr := ⟨_, rfl⟩
  have HQ := Lib.hid hq
  rw [← hq]
  clear hq
  by_cases h7 : n = 7
  case neg =>
    have h7' : ¬ (n : Int) = 7 := by omega
    go_enter Try.func14, Try.ntmps14
    go_wp2_with fail
    go_ret
    exact ⟨ret_b (HQ.out.trans (calB_no (fun h => h7 h.1))).symm, K0.out.below⟩
  subst h7
  by_cases h20 : m ≤ 20
  case neg =>
    have h20' : (20 : Int) < (m : Int) := by omega
    go_enter Try.func14, Try.ntmps14
    go_wp2_with fail
    go_ret
    exact ⟨ret_b (HQ.out.trans (calB_no (fun h => h20 h.2.1))).symm, K0.out.below⟩
  have h20' : ¬ (20 : Int) < (m : Int) := by omega
  go_enter Try.func14, Try.ntmps14
  go_wp2_with fail
  obtain ⟨a0, a1⟩ := K0.out.pair
  generalize w.alloc (.cells #[.slice A 7 c, .slice B m c2] 30) = W0 at *
  go_loop [3] (fun i => ∃ k : Nat, k ≤ 7 ∧ i = .int .i64 (k : Int) ∧ Hid (∀ j, j < k → 0 ≤ f j ∧ f j ≤ 24)) (fun i => 7 - (intOf i).toNat)
  case atStart => exact ⟨0, Nat.zero_le _, rfl, fun j hj => absurd hj (by omega)⟩
  case round =>
    obtain ⟨k, hk, rfl, HK⟩ := hrel
    by_cases hlt : k < 7
    · have hlt' : (k : Int) < 7 := by omega
      obtain ⟨b, o, rfl, hB, hc, hf0, hf1⟩ := (H.out.week.call K0.out.below).cell k hlt
      by_cases hgood : 0 ≤ f k ∧ f k ≤ 24
      · go_wp2_with (go_at_call 35; refine (l1In_yes _ _ _ _ (by omega)).mono ?_; rintro e w' ⟨rfl, hw'⟩; obtain rfl := hw'.symm)
        go_round
        case rel => exact ⟨k + 1, by omega, by go_num, Lib.hid (fun j hj => (by by_cases e : j = k; exact e ▸ hgood; exact HK.out j (by omega)))⟩
        case measure => simp [intOf]; omega
      · go_wp2_with (go_at_call 35; refine (l1In_no _ _ _ _ (by omega)).mono ?_; rintro e w' ⟨rfl, hw'⟩; obtain rfl := hw'.symm)
        go_ret
        exact ⟨ret_b (HQ.out.trans (calB_no (fun h => hgood (h.2.2.1 k hlt)))).symm, K0.out.below⟩
    · obtain rfl : k = 7 := by omega
      go_wp2_with fail
      go_loopw [4] (fun i wr => ∃ k : Nat, k ≤ m ∧ i = .int .i64 (k : Int) ∧ (∀ j, j < k → excOk dy hr j) ∧ Kept w (calBox w A 7 c B m c2) wr) (fun i _ => m - (intOf i).toNat)
      case atStart => exact ⟨0, Nat.zero_le _, rfl, fun j hj => absurd hj (by omega), K0.out⟩
      case round =>
        clear a0 a1
        obtain ⟨k, hk, rfl, hall, hkept⟩ := hrel
        have HA := Lib.hid hall
        have KR := Lib.hid hkept
        clear hall hkept
        obtain ⟨a0, a1⟩ := KR.out.pair
        by_cases hlt : k < m
        · have hlt' : (k : Int) < (m : Int) := by omega
          obtain ⟨b, o, rfl, hB, c0, c1⟩ := (H.out.call KR.out.below).cells hlt
          have hbb : b < wr.heap.size := hB
          go_wp2_with fail
          have KW := Lib.hid (KR.out.alloc (.cells #[.int .i64 (dy k), .int .i64 (hr k)] 48))
          have d0 : (wr.alloc (.cells #[.int .i64 (dy k), .int .i64 (hr k)] 48)).cell? ⟨wr.heap.size, 0, none⟩ = some (.int .i64 (dy k)) := by simp [World.cell?_alloc_new]
          have d1 : (wr.alloc (.cells #[.int .i64 (dy k), .int .i64 (hr k)] 48)).cell? ⟨wr.heap.size, 1, none⟩ = some (.int .i64 (hr k)) := by simp [World.cell?_alloc_new]
          have HX := Lib.hid (H.out.call KW.out.below)
          clear c0 c1 a0 a1
          obtain ⟨a0, a1⟩ := KW.out.pair
          generalize wr.alloc (.cells #[.int .i64 (dy k), .int .i64 (hr k)] 48) = W1 at *
          by_cases hd : 0 ≤ dy k ∧ dy k ≤ 999
          case neg =>
            have hbad : ¬ excOk dy hr k := fun h => hd h.1
            go_quiet (first | (go_at_call 35; exact Calls.quiet_of_same (l1In_no _ _ _ _ (by omega))))
            obtain ⟨nq1, rfl⟩ : ∃ m : Nat, m = nq := ⟨_, rfl⟩
            go_wp2_with fail
            go_ret
            exact ⟨ret_b (HQ.out.trans (calB_no (fun h => hbad (h.2.2.2 k hlt)))).symm, KW.out.below.trans ⟨rfl, rfl, rfl, Nat.le_refl _, fun _ _ => rfl⟩⟩
          by_cases hh : 0 ≤ hr k ∧ hr k ≤ 24
          case neg =>
            have hbad : ¬ excOk dy hr k := fun h => hh h.2.1
            go_quiet (first | (go_at_call 35; exact Calls.quiet_of_same (l1In_yes _ _ _ _ (by omega))) | (go_at_call 35; exact Calls.quiet_of_same (l1In_no _ _ _ _ (by omega))))
            obtain ⟨nq1, rfl⟩ : ∃ m : Nat, m = nq := ⟨_, rfl⟩
            go_wp2_with fail
            go_ret
            exact ⟨ret_b (HQ.out.trans (calB_no (fun h => hbad (h.2.2.2 k hlt)))).symm, KW.out.below.trans ⟨rfl, rfl, rfl, Nat.le_refl _, fun _ _ => rfl⟩⟩
          by_cases hk0 : k = 0
          · subst hk0
            have hgood : excOk dy hr 0 := ⟨hd, hh, .inl rfl⟩
            have k := 0
            go_quiet (first | (go_at_call 35; exact Calls.quiet_of_same (l1In_yes _ _ _ _ (by omega))))
            obtain ⟨nq1, rfl⟩ : ∃ m : Nat, m = nq := ⟨_, rfl⟩
            go_wp2_with fail
            go_roundw
            case rel => exact ⟨0 + 1, by omega, by go_num, fun j hj => (by by_cases e : j = 0; exact e ▸ hgood; exact HA.out j (by omega)), KW.out.drewN nq1⟩
            case measure => simp [intOf]; omega
          · obtain ⟨k', rfl⟩ : ∃ k', k = k' + 1 := ⟨k - 1, by omega⟩
            obtain ⟨b', o', e', hB', p0, p1⟩ := HX.out.cells (j := k') (by omega)
            injection e' with e'
            injection e' with q1 q2 _
            subst q1 q2
            have hp : (0 : Int) < ((k' + 1 : Nat) : Int) := by omega
            have u1 : IntKind.i64.wrap (((k' + 1 : Nat) : Int) - 1) = (k' : Int) := (IntWalk.i64_in _ ⟨by omega, by omega⟩).trans (by omega)
            have u2' : IntKind.i64.wrap ((k' : Int) + 1 - 1) = (k' : Int) := (IntWalk.i64_in _ ⟨by omega, by omega⟩).trans (by omega)
            have km : (k' : Int) < (m : Int) := by omega
            by_cases hgt : dy (k' + 1) ≤ dy k'
            · have hbad : ¬ excOk dy hr (k' + 1) := fun h => by
                rcases h.2.2 with h | h
                · omega
                · simp at h; omega
              go_quiet (first | (go_at_call 35; exact Calls.quiet_of_same (l1In_yes _ _ _ _ (by omega))))
              obtain ⟨nq1, rfl⟩ : ∃ m : Nat, m = nq := ⟨_, rfl⟩
              go_wp2_with fail
              go_ret
              exact ⟨ret_b (HQ.out.trans (calB_no (fun h => hbad (h.2.2.2 (k' + 1) hlt)))).symm, KW.out.below.trans ⟨rfl, rfl, rfl, Nat.le_refl _, fun _ _ => rfl⟩⟩
            · have hgood : excOk dy hr (k' + 1) := ⟨hd, hh, .inr (by simp; omega)⟩
              have hgt' : decide (dy (k' + 1) ≤ dy k') = false := by simpa using hgt
              go_quiet (first | (go_at_call 35; exact Calls.quiet_of_same (l1In_yes _ _ _ _ (by omega))))
              obtain ⟨nq1, rfl⟩ : ∃ m : Nat, m = nq := ⟨_, rfl⟩
              go_wp2_with fail
              go_roundw
              case rel => exact ⟨k' + 1 + 1, by omega, by go_num, fun j hj => (by by_cases e : j = k' + 1; exact e ▸ hgood; exact HA.out j (by omega)), KW.out.drewN nq1⟩
              case measure => simp [intOf]; omega
        · obtain rfl : k = m := by omega
          go_wp2_with fail
          go_ret
          exact ⟨ret_b (HQ.out.trans (calB_yes h20 HK.out HA.out)).symm, KR.out.below⟩

set_option maxHeartbeats 2000000 in
theorem impl_isCalendar (w : World) (A : Option Addr) (n c : Nat) (f : Nat → Int) (B : Option Addr) (m c2 : Nat) (dy hr : Nat → Int) (h : CalF w A n c f B m c2 dy hr) :
    Calls Try.prog 16 #[.agg #[.slice A n c, .slice B m c2]] w fun e w' => e = .returned (.bool (calB n f m dy hr)) ∧ Below w.heap.size w w' := by
  have hn : n ≤ 9223372036854775807 := by have := h.week.max; have := h.week.le; omega
  have hm : m ≤ 9223372036854775807 := by have := h.exc.max; have := h.exc.le; omega
  have K0 := Lib.hid (cal_boxed w A n c B m c2 30)
  have H := Lib.hid h
  clear h
  obtain ⟨q, hq⟩ : ∃ q, q = calB n f m dy hr := ⟨_, rfl⟩
  have HQ := Lib.hid hq
  rw [← hq]
  clear hq
  by_cases h7 : n = 7
  case neg =>
    have h7' : ¬ (n : Int) = 7 := by omega
    go_enter Try.func16, Try.ntmps16
    go_wp2_with fail
    go_ret
    exact ⟨ret_b (HQ.out.trans (calB_no (fun h => h7 h.1))).symm, K0.out.below⟩
  subst h7
  by_cases h20 : m ≤ 20
  case neg =>
    have h20' : (20 : Int) < (m : Int) := by omega
    go_enter Try.func16, Try.ntmps16
    go_wp2_with fail
    go_ret
    exact ⟨ret_b (HQ.out.trans (calB_no (fun h => h20 h.2.1))).symm, K0.out.below⟩
  have h20' : ¬ (20 : Int) < (m : Int) := by omega
  go_enter Try.func16, Try.ntmps16
  go_wp2_with fail
  obtain ⟨a0, a1⟩ := K0.out.pair
  generalize w.alloc (.cells #[.slice A 7 c, .slice B m c2] 30) = W0 at *
  go_loop [20] (fun i => ∃ k : Nat, k ≤ 7 ∧ i = .int .i64 (k : Int) ∧ Hid (∀ j, j < k → 0 ≤ f j ∧ f j ≤ 24)) (fun i => 7 - (intOf i).toNat)
  case atStart => exact ⟨0, Nat.zero_le _, rfl, fun j hj => absurd hj (by omega)⟩
  case round =>
    obtain ⟨k, hk, rfl, HK⟩ := hrel
    by_cases hlt : k < 7
    · have hlt' : (k : Int) < 7 := by omega
      obtain ⟨b, o, rfl, hB, hc, hf0, hf1⟩ := (H.out.week.call K0.out.below).cell k hlt
      by_cases hgood : 0 ≤ f k ∧ f k ≤ 24
      · go_wp2_with (go_at_call 38; refine (in_yes _ _ _ _ (by omega)).mono ?_; rintro e w' ⟨rfl, hw'⟩; obtain rfl := hw'.symm)
        go_round
        case rel => exact ⟨k + 1, by omega, by go_num, Lib.hid (fun j hj => (by by_cases e : j = k; exact e ▸ hgood; exact HK.out j (by omega)))⟩
        case measure => simp [intOf]; omega
      · go_wp2_with (go_at_call 38; refine (in_no _ _ _ _ (by omega)).mono ?_; rintro e w' ⟨rfl, hw'⟩; obtain rfl := hw'.symm)
        go_ret
        exact ⟨ret_b (HQ.out.trans (calB_no (fun h => hgood (h.2.2.1 k hlt)))).symm, K0.out.below⟩
    · obtain rfl : k = 7 := by omega
      go_wp2_with fail
      go_loopw [31] (fun i wr => ∃ k : Nat, k ≤ m ∧ i = .int .i64 (k : Int) ∧ (∀ j, j < k → excOk dy hr j) ∧ Kept w (calBox w A 7 c B m c2) wr) (fun i _ => m - (intOf i).toNat)
      case atStart => exact ⟨0, Nat.zero_le _, rfl, fun j hj => absurd hj (by omega), K0.out⟩
      case round =>
        clear a0 a1
        obtain ⟨k, hk, rfl, hall, hkept⟩ := hrel
        have HA := Lib.hid hall
        have KR := Lib.hid hkept
        clear hall hkept
        obtain ⟨a0, a1⟩ := KR.out.pair
        by_cases hlt : k < m
        · have hlt' : (k : Int) < (m : Int) := by omega
          obtain ⟨b, o, rfl, hB, c0, c1⟩ := (H.out.call KR.out.below).cells hlt
          have hbb : b < wr.heap.size := hB
          go_wp2_with fail
          have KW := Lib.hid (KR.out.alloc (.cells #[.int .i64 (dy k), .int .i64 (hr k)] 48))
          have d0 : (wr.alloc (.cells #[.int .i64 (dy k), .int .i64 (hr k)] 48)).cell? ⟨wr.heap.size, 0, none⟩ = some (.int .i64 (dy k)) := by simp [World.cell?_alloc_new]
          have d1 : (wr.alloc (.cells #[.int .i64 (dy k), .int .i64 (hr k)] 48)).cell? ⟨wr.heap.size, 1, none⟩ = some (.int .i64 (hr k)) := by simp [World.cell?_alloc_new]
          have HX := Lib.hid (H.out.call KW.out.below)
          clear c0 c1 a0 a1
          obtain ⟨a0, a1⟩ := KW.out.pair
          generalize wr.alloc (.cells #[.int .i64 (dy k), .int .i64 (hr k)] 48) = W1 at *
          by_cases hd : 0 ≤ dy k ∧ dy k ≤ 999
          case neg =>
            have hbad : ¬ excOk dy hr k := fun h => hd h.1
            go_quiet (first | (go_at_call 38; exact Calls.quiet_of_same (in_no _ _ _ _ (by omega))))
            obtain ⟨nq1, rfl⟩ : ∃ m : Nat, m = nq := ⟨_, rfl⟩
            go_wp2_with fail
            go_ret
            exact ⟨ret_b (HQ.out.trans (calB_no (fun h => hbad (h.2.2.2 k hlt)))).symm, KW.out.below.trans ⟨rfl, rfl, rfl, Nat.le_refl _, fun _ _ => rfl⟩⟩
          by_cases hh : 0 ≤ hr k ∧ hr k ≤ 24
          case neg =>
            have hbad : ¬ excOk dy hr k := fun h => hh h.2.1
            go_quiet (first | (go_at_call 38; exact Calls.quiet_of_same (in_yes _ _ _ _ (by omega))) | (go_at_call 38; exact Calls.quiet_of_same (in_no _ _ _ _ (by omega))))
            obtain ⟨nq1, rfl⟩ : ∃ m : Nat, m = nq := ⟨_, rfl⟩
            go_wp2_with fail
            go_ret
            exact ⟨ret_b (HQ.out.trans (calB_no (fun h => hbad (h.2.2.2 k hlt)))).symm, KW.out.below.trans ⟨rfl, rfl, rfl, Nat.le_refl _, fun _ _ => rfl⟩⟩
          by_cases hk0 : k = 0
          · subst hk0
            have hgood : excOk dy hr 0 := ⟨hd, hh, .inl rfl⟩
            have k := 0
            go_quiet (first | (go_at_call 38; exact Calls.quiet_of_same (in_yes _ _ _ _ (by omega))))
            obtain ⟨nq1, rfl⟩ : ∃ m : Nat, m = nq := ⟨_, rfl⟩
            go_wp2_with fail
            go_roundw
            case rel => exact ⟨0 + 1, by omega, by go_num, fun j hj => (by by_cases e : j = 0; exact e ▸ hgood; exact HA.out j (by omega)), KW.out.drewN nq1⟩
            case measure => simp [intOf]; omega
          · obtain ⟨k', rfl⟩ : ∃ k', k = k' + 1 := ⟨k - 1, by omega⟩
            obtain ⟨b', o', e', hB', p0, p1⟩ := HX.out.cells (j := k') (by omega)
            injection e' with e'
            injection e' with q1 q2 _
            subst q1 q2
            have hp : (0 : Int) < ((k' + 1 : Nat) : Int) := by omega
            have u1 : IntKind.i64.wrap (((k' + 1 : Nat) : Int) - 1) = (k' : Int) := (IntWalk.i64_in _ ⟨by omega, by omega⟩).trans (by omega)
            have u2' : IntKind.i64.wrap ((k' : Int) + 1 - 1) = (k' : Int) := (IntWalk.i64_in _ ⟨by omega, by omega⟩).trans (by omega)
            have km : (k' : Int) < (m : Int) := by omega
            by_cases hgt : dy (k' + 1) ≤ dy k'
            · have hbad : ¬ excOk dy hr (k' + 1) := fun h => by
                rcases h.2.2 with h | h
                · omega
                · simp at h; omega
              go_quiet (first | (go_at_call 38; exact Calls.quiet_of_same (in_yes _ _ _ _ (by omega))))
              obtain ⟨nq1, rfl⟩ : ∃ m : Nat, m = nq := ⟨_, rfl⟩
              go_wp2_with fail
              go_ret
              exact ⟨ret_b (HQ.out.trans (calB_no (fun h => hbad (h.2.2.2 (k' + 1) hlt)))).symm, KW.out.below.trans ⟨rfl, rfl, rfl, Nat.le_refl _, fun _ _ => rfl⟩⟩
            · have hgood : excOk dy hr (k' + 1) := ⟨hd, hh, .inr (by simp; omega)⟩
              have hgt' : decide (dy (k' + 1) ≤ dy k') = false := by simpa using hgt
              go_quiet (first | (go_at_call 38; exact Calls.quiet_of_same (in_yes _ _ _ _ (by omega))))
              obtain ⟨nq1, rfl⟩ : ∃ m : Nat, m = nq := ⟨_, rfl⟩
              go_wp2_with fail
              go_roundw
              case rel => exact ⟨k' + 1 + 1, by omega, by go_num, fun j hj => (by by_cases e : j = k' + 1; exact e ▸ hgood; exact HA.out j (by omega)), KW.out.drewN nq1⟩
              case measure => simp [intOf]; omega
        · obtain rfl : k = m := by omega
          go_wp2_with fail
          go_ret
          exact ⟨ret_b (HQ.out.trans (calB_yes h20 HK.out HA.out)).symm, KR.out.below⟩

end Go.Proofs.Ytkbmlpnfdogioaa
