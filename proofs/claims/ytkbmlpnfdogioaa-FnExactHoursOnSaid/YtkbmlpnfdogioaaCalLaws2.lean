/-
  The exact laws of calendars, case by case.
-/
import Derived.Test.YtkbmlpnfdogioaaCalLaws
namespace Go.Proofs.Ytkbmlpnfdogioaa
open Go.RowKit cost
set_option linter.unusedVariables false
set_option linter.unusedSimpArgs false

/-- what a slice of exceptions that came in is -/
structure ExcOpen (w : World) (B : Option Addr) (m c : Nat) (dy hr : Nat → Int) : Prop where
  exc : SliceF w B m c 2 (excC dy hr)
  day : inI dy m
  hour : inI hr m
theorem ExcOpen.cal {w : World} {A B : Option Addr} {n c m c2 : Nat} {f dy hr : Nat → Int} (h : ExcOpen w B m c2 dy hr) (hw : IntsF w A n c f) : CalF w A n c f B m c2 dy hr := ⟨hw, h.exc, h.day, h.hour⟩
theorem exc_none (w : World) : ExcOpen w none 0 0 (fun _ => 0) (fun _ => 0) := ⟨SliceF.empty _ _ _ (by omega) _ _, fun i hi => absurd hi (by omega), fun i hi => absurd hi (by omega)⟩
theorem wf_i64 {n : Int} (h : (Lit.int .i64 n).wf = true) : -9223372036854775808 ≤ n ∧ n ≤ 9223372036854775807 := by
  have e1 : IntKind.i64.min = -9223372036854775808 := rfl
  have e2 : IntKind.i64.max = 9223372036854775807 := rfl
  simpa [Lit.wf, e1, e2] using h
theorem exc_open {w : World} {x : Addr} {l c : Nat} {q : Nat → Int × Int} (hl : l ≤ c) (hm : c ≤ 9223372036854775807)
    (h : ∀ i, i < l → w.cell? (x.add (i * 2)) = some (.int .i64 (q i).1) ∧ w.cell? (x.add (i * 2 + 1)) = some (.int .i64 (q i).2) ∧ (Lit.int .i64 (q i).1).wf = true ∧ (Lit.int .i64 (q i).2).wf = true) :
    ExcOpen w (some x) l c (fun i => (q i).1) (fun i => (q i).2) := by
  refine ⟨⟨hm, hl, fun j hj => ?_⟩, fun i hi => wf_i64 (h i hi).2.2.1, fun i hi => wf_i64 (h i hi).2.2.2⟩
  obtain ⟨b, o, s⟩ := x
  have hs : s = none := by
    have h1 := (h 0 (by omega)).1
    simpa [Addr.add] using World.cell?_spot h1
  subst hs
  obtain ⟨h0, h1, _, _⟩ := h j hj
  rw [WideShapes.add_plain] at h0 h1
  refine ⟨b, o, rfl, block_lt_of_cell h0, fun p hp => ?_⟩
  rcases (by omega : p = 0 ∨ p = 1) with rfl | rfl
  · exact h0
  · rw [show o + j * 2 + 1 = o + (j * 2 + 1) by omega]; exact h1

theorem big_HoursOn (w : World) (A : Option Addr) (n c : Nat) (f : Nat → Int) (B : Option Addr) (m c2 : Nat) (dy hr : Nat → Int) (h : CalF w A n c f B m c2 dy hr) (k : Int) (hs : ¬ n + m ≤ 1048576) :
    Calls Try.prog 4 #[.agg #[.slice A n c, .slice B m c2], .int .i64 k] w fun e w' => e = .returned (.bool true) ∧ Below w.heap.size w w' := by
  have K0 := Lib.hid (cal_boxed w A n c B m c2 25)
  have H := Lib.hid h
  clear h
  go_enter Try.func4, Try.ntmps4
  go_wp2_with fail
  refine (szCalendar_no _ A n c f B m c2 dy hr (H.out.call K0.out.below) hs).mono ?_; rintro e w1 ⟨rfl, hb1⟩
  have K1 := Lib.hid (Kept.call hb1 K0.out)
  go_wp2_with fail
  go_ret
  exact ⟨rfl, K1.out.below⟩

theorem big_HoursBetween (w : World) (A : Option Addr) (n c : Nat) (f : Nat → Int) (B : Option Addr) (m c2 : Nat) (dy hr : Nat → Int) (h : CalF w A n c f B m c2 dy hr) (k l : Int) (hs : ¬ n + m ≤ 1048576) :
    Calls Try.prog 8 #[.agg #[.slice A n c, .slice B m c2], .int .i64 k, .int .i64 l] w fun e w' => e = .returned (.bool true) ∧ Below w.heap.size w w' := by
  have K0 := Lib.hid (cal_boxed w A n c B m c2 25)
  have H := Lib.hid h
  clear h
  go_enter Try.func8, Try.ntmps8
  go_wp2_with fail
  refine (szCalendar_no _ A n c f B m c2 dy hr (H.out.call K0.out.below) hs).mono ?_; rintro e w1 ⟨rfl, hb1⟩
  have K1 := Lib.hid (Kept.call hb1 K0.out)
  go_wp2_with fail
  go_ret
  exact ⟨rfl, K1.out.below⟩

theorem big_WorkdaysBetween (w : World) (A : Option Addr) (n c : Nat) (f : Nat → Int) (B : Option Addr) (m c2 : Nat) (dy hr : Nat → Int) (h : CalF w A n c f B m c2 dy hr) (k l : Int) (hs : ¬ n + m ≤ 1048576) :
    Calls Try.prog 9 #[.agg #[.slice A n c, .slice B m c2], .int .i64 k, .int .i64 l] w fun e w' => e = .returned (.bool true) ∧ Below w.heap.size w w' := by
  have K0 := Lib.hid (cal_boxed w A n c B m c2 25)
  have H := Lib.hid h
  clear h
  go_enter Try.func9, Try.ntmps9
  go_wp2_with fail
  refine (szCalendar_no _ A n c f B m c2 dy hr (H.out.call K0.out.below) hs).mono ?_; rintro e w1 ⟨rfl, hb1⟩
  have K1 := Lib.hid (Kept.call hb1 K0.out)
  go_wp2_with fail
  go_ret
  exact ⟨rfl, K1.out.below⟩

theorem big_AddWorkdays (w : World) (A : Option Addr) (n c : Nat) (f : Nat → Int) (B : Option Addr) (m c2 : Nat) (dy hr : Nat → Int) (h : CalF w A n c f B m c2 dy hr) (k l : Int) (hs : ¬ n + m ≤ 1048576) :
    Calls Try.prog 11 #[.agg #[.slice A n c, .slice B m c2], .int .i64 k, .int .i64 l] w fun e w' => e = .returned (.bool true) ∧ Below w.heap.size w w' := by
  have K0 := Lib.hid (cal_boxed w A n c B m c2 25)
  have H := Lib.hid h
  clear h
  go_enter Try.func11, Try.ntmps11
  go_wp2_with fail
  refine (szCalendar_no _ A n c f B m c2 dy hr (H.out.call K0.out.below) hs).mono ?_; rintro e w1 ⟨rfl, hb1⟩
  have K1 := Lib.hid (Kept.call hb1 K0.out)
  go_wp2_with fail
  go_ret
  exact ⟨rfl, K1.out.below⟩

theorem big_FinishDay (w : World) (A : Option Addr) (n c : Nat) (f : Nat → Int) (B : Option Addr) (m c2 : Nat) (dy hr : Nat → Int) (h : CalF w A n c f B m c2 dy hr) (k l : Int) (hs : ¬ n + m ≤ 1048576) :
    Calls Try.prog 7 #[.agg #[.slice A n c, .slice B m c2], .int .i64 k, .int .i64 l] w fun e w' => e = .returned (.bool true) ∧ Below w.heap.size w w' := by
  have K0 := Lib.hid (cal_boxed w A n c B m c2 25)
  have H := Lib.hid h
  clear h
  go_enter Try.func7, Try.ntmps7
  go_wp2_with fail
  refine (szCalendar_no _ A n c f B m c2 dy hr (H.out.call K0.out.below) hs).mono ?_; rintro e w1 ⟨rfl, hb1⟩
  have K1 := Lib.hid (Kept.call hb1 K0.out)
  go_wp2_with fail
  go_ret
  exact ⟨rfl, K1.out.below⟩

theorem law_HoursOn (w : World) (A : Option Addr) (n c : Nat) (f : Nat → Int) (B : Option Addr) (m c2 : Nat) (dy hr : Nat → Int) (h : CalF w A n c f B m c2 dy hr) (k : Int) :
    Calls Try.prog 4 #[.agg #[.slice A n c, .slice B m c2], .int .i64 k] w fun e w' => e = .returned (.bool true) ∧ Below w.heap.size w w' := by
  by_cases hs : n + m ≤ 1048576
  case neg => exact big_HoursOn w A n c f B m c2 dy hr h k hs
  cases hc : calB n f m dy hr
  · exact shape_HoursOn w A n c f B m c2 dy hr h k 0 hs (fun W X Y d e hx => spec_HoursOn_no1 W X n d f Y m e dy hr hx k hc) (fun W X Y d e hx => impl_HoursOn_no1 W X n d f Y m e dy hr hx k hc)
  by_cases hd : 0 ≤ k ∧ k ≤ 999
  · obtain ⟨k', rfl⟩ : ∃ k' : Nat, k = (k' : Int) := ⟨k.toNat, by omega⟩
    exact shape_HoursOn w A n c f B m c2 dy hr h (k' : Int) _ hs (fun W X Y d e hx => spec_HoursOn_yes W X n d f Y m e dy hr hx k' hc (by omega)) (fun W X Y d e hx => impl_HoursOn_yes W X n d f Y m e dy hr hx k' hc (by omega))
  · exact shape_HoursOn w A n c f B m c2 dy hr h k 0 hs (fun W X Y d e hx => spec_HoursOn_no2 W X n d f Y m e dy hr hx k hc hd) (fun W X Y d e hx => impl_HoursOn_no2 W X n d f Y m e dy hr hx k hc hd)

theorem law_HoursBetween (w : World) (A : Option Addr) (n c : Nat) (f : Nat → Int) (B : Option Addr) (m c2 : Nat) (dy hr : Nat → Int) (h : CalF w A n c f B m c2 dy hr) (k l : Int) (hk : -9223372036854775808 ≤ k ∧ k ≤ 9223372036854775807) (hl : -9223372036854775808 ≤ l ∧ l ≤ 9223372036854775807) :
    Calls Try.prog 8 #[.agg #[.slice A n c, .slice B m c2], .int .i64 k, .int .i64 l] w fun e w' => e = .returned (.bool true) ∧ Below w.heap.size w w' := by
  by_cases hs : n + m ≤ 1048576
  case neg => exact big_HoursBetween w A n c f B m c2 dy hr h k l hs
  cases hc : calB n f m dy hr
  · exact shape_HoursBetween w A n c f B m c2 dy hr h k l 0 hs (fun W X Y d e hx => spec_HoursBetween_no1 W X n d f Y m e dy hr hx k l hc) (fun W X Y d e hx => impl_HoursBetween_no1 W X n d f Y m e dy hr hx k l hc)
  · exact shape_HoursBetween w A n c f B m c2 dy hr h k l _ hs (fun W X Y d e hx => spec_HoursBetween_yes W X n d f Y m e dy hr hx k l hc hk.2) (fun W X Y d e hx => impl_HoursBetween_yes W X n d f Y m e dy hr hx k l hc)

theorem law_WorkdaysBetween (w : World) (A : Option Addr) (n c : Nat) (f : Nat → Int) (B : Option Addr) (m c2 : Nat) (dy hr : Nat → Int) (h : CalF w A n c f B m c2 dy hr) (k l : Int) (hk : -9223372036854775808 ≤ k ∧ k ≤ 9223372036854775807) (hl : -9223372036854775808 ≤ l ∧ l ≤ 9223372036854775807) :
    Calls Try.prog 9 #[.agg #[.slice A n c, .slice B m c2], .int .i64 k, .int .i64 l] w fun e w' => e = .returned (.bool true) ∧ Below w.heap.size w w' := by
  by_cases hs : n + m ≤ 1048576
  case neg => exact big_WorkdaysBetween w A n c f B m c2 dy hr h k l hs
  cases hc : calB n f m dy hr
  · exact shape_WorkdaysBetween w A n c f B m c2 dy hr h k l 0 hs (fun W X Y d e hx => spec_WorkdaysBetween_no1 W X n d f Y m e dy hr hx k l hc) (fun W X Y d e hx => impl_WorkdaysBetween_no1 W X n d f Y m e dy hr hx k l hc)
  · exact shape_WorkdaysBetween w A n c f B m c2 dy hr h k l _ hs (fun W X Y d e hx => spec_WorkdaysBetween_yes W X n d f Y m e dy hr hx k l hc hk.2 hl.2) (fun W X Y d e hx => impl_WorkdaysBetween_yes W X n d f Y m e dy hr hx k l hc)

theorem law_AddWorkdays (w : World) (A : Option Addr) (n c : Nat) (f : Nat → Int) (B : Option Addr) (m c2 : Nat) (dy hr : Nat → Int) (h : CalF w A n c f B m c2 dy hr) (k l : Int) (hk : -9223372036854775808 ≤ k ∧ k ≤ 9223372036854775807) (hl : -9223372036854775808 ≤ l ∧ l ≤ 9223372036854775807) :
    Calls Try.prog 11 #[.agg #[.slice A n c, .slice B m c2], .int .i64 k, .int .i64 l] w fun e w' => e = .returned (.bool true) ∧ Below w.heap.size w w' := by
  by_cases hs : n + m ≤ 1048576
  case neg => exact big_AddWorkdays w A n c f B m c2 dy hr h k l hs
  cases hc : calB n f m dy hr
  · exact shape_AddWorkdays w A n c f B m c2 dy hr h k l 0 false hs (fun W X Y d e hx => spec_AddWorkdays_no1 W X n d f Y m e dy hr hx k l hc) (fun W X Y d e hx => impl_AddWorkdays_no1 W X n d f Y m e dy hr hx k l hc)
  by_cases hd : 0 ≤ k ∧ k ≤ 999
  case neg => exact shape_AddWorkdays w A n c f B m c2 dy hr h k l 0 false hs (fun W X Y d e hx => spec_AddWorkdays_no2 W X n d f Y m e dy hr hx k l hc hd) (fun W X Y d e hx => impl_AddWorkdays_no2 W X n d f Y m e dy hr hx k l hc hd)
  obtain ⟨k', rfl⟩ : ∃ k' : Nat, k = (k' : Int) := ⟨k.toNat, by omega⟩
  by_cases h0 : 0 ≤ l
  · exact shape_AddWorkdays w A n c f B m c2 dy hr h (k' : Int) l _ _ hs (fun W X Y d e hx => spec_AddWorkdays_yesF W X n d f Y m e dy hr hx k' l _ hc (by omega) h0 hl.2 rfl) (fun W X Y d e hx => impl_AddWorkdays_yesF W X n d f Y m e dy hr hx k' l _ hc (by omega) h0 rfl)
  · exact shape_AddWorkdays w A n c f B m c2 dy hr h (k' : Int) l _ _ hs (fun W X Y d e hx => spec_AddWorkdays_yesB W X n d f Y m e dy hr hx k' l _ hc (by omega) (by omega) hl.1 rfl) (fun W X Y d e hx => impl_AddWorkdays_yesB W X n d f Y m e dy hr hx k' l _ hc (by omega) (by omega) hl.1 rfl)

theorem law_FinishDay (w : World) (A : Option Addr) (n c : Nat) (f : Nat → Int) (B : Option Addr) (m c2 : Nat) (dy hr : Nat → Int) (h : CalF w A n c f B m c2 dy hr) (k l : Int) (hk : -9223372036854775808 ≤ k ∧ k ≤ 9223372036854775807) (hl : -9223372036854775808 ≤ l ∧ l ≤ 9223372036854775807) :
    Calls Try.prog 7 #[.agg #[.slice A n c, .slice B m c2], .int .i64 k, .int .i64 l] w fun e w' => e = .returned (.bool true) ∧ Below w.heap.size w w' := by
  by_cases hs : n + m ≤ 1048576
  case neg => exact big_FinishDay w A n c f B m c2 dy hr h k l hs
  cases hc : calB n f m dy hr
  · exact shape_FinishDay w A n c f B m c2 dy hr h k l 0 false hs (fun W X Y d e hx => spec_FinishDay_no1 W X n d f Y m e dy hr hx k l hc) (fun W X Y d e hx => impl_FinishDay_no1 W X n d f Y m e dy hr hx k l hc)
  by_cases hd : 0 ≤ k ∧ k ≤ 999
  case neg => exact shape_FinishDay w A n c f B m c2 dy hr h k l 0 false hs (fun W X Y d e hx => spec_FinishDay_no2 W X n d f Y m e dy hr hx k l hc hd) (fun W X Y d e hx => impl_FinishDay_no2 W X n d f Y m e dy hr hx k l hc hd)
  by_cases h1 : l < 1
  · exact shape_FinishDay w A n c f B m c2 dy hr h k l 0 false hs (fun W X Y d e hx => spec_FinishDay_no3 W X n d f Y m e dy hr hx k l hc hd h1) (fun W X Y d e hx => impl_FinishDay_no3 W X n d f Y m e dy hr hx k l hc hd h1)
  obtain ⟨k', rfl⟩ : ∃ k' : Nat, k = (k' : Int) := ⟨k.toNat, by omega⟩
  exact shape_FinishDay w A n c f B m c2 dy hr h (k' : Int) l _ _ hs (fun W X Y d e hx => spec_FinishDay_yes W X n d f Y m e dy hr hx k' l _ hc (by omega) (by omega) hl.2 rfl) (fun W X Y d e hx => impl_FinishDay_yes W X n d f Y m e dy hr hx k' l _ hc (by omega) (by omega) hl.2 rfl)

end Go.Proofs.Ytkbmlpnfdogioaa
