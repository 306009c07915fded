/-
  Contracts of l5Convert, ConvertDown and ConvertUp, of the reference and of the program. (Printed by gen/convert.py.)
-/
import Derived.Test.YtccejhhhengpcaaFactor
namespace Go.Proofs.Ytccejhhhengpcaa
open Go.RowKit num
set_option linter.unusedVariables false
set_option linter.unusedSimpArgs false

/-- a quantity can be converted -/
noncomputable def cvtB (T : Tab) (a b : ByteArray) (q : Int) : Bool := (facOf T a b).2 && decide (0 ≤ q ∧ q ≤ 1000000000)
/-- rounded down, rounded up -/
noncomputable def dnV (T : Tab) (a b : ByteArray) (q : Int) : Int := (q * (facOf T a b).1.1).tdiv (facOf T a b).1.2
noncomputable def upV (T : Tab) (a b : ByteArray) (q : Int) : Int := -((-(q * (facOf T a b).1.1)) / (facOf T a b).1.2)
noncomputable def dnOf (T : Tab) (a b : ByteArray) (q : Int) : Int × Bool := if cvtB T a b q = true ∧ dnV T a b q ≤ 1000000000 then (dnV T a b q, true) else (0, false)
noncomputable def upOf (T : Tab) (a b : ByteArray) (q : Int) : Int × Bool := if cvtB T a b q = true ∧ upV T a b q ≤ 1000000000 then (upV T a b q, true) else (0, false)
theorem cvt_fac {T : Tab} {a b : ByteArray} {q : Int} (h : (facOf T a b).2 = false) : cvtB T a b q = false := by unfold cvtB; rw [h]; rfl
theorem cvt_q {T : Tab} {a b : ByteArray} {q : Int} (h : ¬ (0 ≤ q ∧ q ≤ 1000000000)) : cvtB T a b q = false := by unfold cvtB; simp [h]
theorem cvt_yes {T : Tab} {a b : ByteArray} {q : Int} (h : cvtB T a b q = true) : (facOf T a b).2 = true ∧ 0 ≤ q ∧ q ≤ 1000000000 := by
  unfold cvtB at h; simpa [Bool.and_eq_true] using h
theorem dn_no {T : Tab} {a b : ByteArray} {q : Int} (h : cvtB T a b q = false) : dnOf T a b q = (0, false) := by unfold dnOf; rw [if_neg (by rw [h]; simp)]
theorem up_no {T : Tab} {a b : ByteArray} {q : Int} (h : cvtB T a b q = false) : upOf T a b q = (0, false) := by unfold upOf; rw [if_neg (by rw [h]; simp)]
theorem dn_big {T : Tab} {a b : ByteArray} {q : Int} (h : ¬ dnV T a b q ≤ 1000000000) : dnOf T a b q = (0, false) := by unfold dnOf; rw [if_neg (fun k => h k.2)]
theorem up_big {T : Tab} {a b : ByteArray} {q : Int} (h : ¬ upV T a b q ≤ 1000000000) : upOf T a b q = (0, false) := by unfold upOf; rw [if_neg (fun k => h k.2)]
theorem dn_yes {T : Tab} {a b : ByteArray} {q : Int} (h : cvtB T a b q = true) (h2 : dnV T a b q ≤ 1000000000) : dnOf T a b q = (dnV T a b q, true) := by unfold dnOf; rw [if_pos ⟨h, h2⟩]
theorem up_yes {T : Tab} {a b : ByteArray} {q : Int} (h : cvtB T a b q = true) (h2 : upV T a b q ≤ 1000000000) : upOf T a b q = (upV T a b q, true) := by unfold upOf; rw [if_pos ⟨h, h2⟩]
/-- how large the parts are -/
theorem cvt_bd {T : Tab} {a b : ByteArray} {q : Int} (h : cvtB T a b q = true) : (1 ≤ (facOf T a b).1.1 ∧ (facOf T a b).1.1 ≤ 1000000000) ∧ (1 ≤ (facOf T a b).1.2 ∧ (facOf T a b).1.2 ≤ 1000000000) ∧ 0 ≤ q * (facOf T a b).1.1 ∧ q * (facOf T a b).1.1 ≤ 1000000000000000000 := by
  obtain ⟨h1, h2, h3⟩ := cvt_yes h
  obtain ⟨ht, _, _, hm⟩ := facOf_yes h1
  have hp := isP_bd (facOf_isP h1)
  have h4 := (srch_good T a).plus' (tableB_iff.1 ht).1.ok hm
  simp only at h4
  have h5 : q * (facOf T a b).1.1 ≤ 1000000000 * 1000000000 := Int.mul_le_mul h3 hp.1.2 (by omega) (by omega)
  have h6 : 0 ≤ q * (facOf T a b).1.1 := Int.mul_nonneg h2 (by omega)
  exact ⟨⟨h4, hp.1.2⟩, hp.2, h6, by omega⟩
theorem dn_bd {T : Tab} {a b : ByteArray} {q : Int} (h : cvtB T a b q = true) : 0 ≤ dnV T a b q ∧ dnV T a b q ≤ 1000000000000000000 := by
  obtain ⟨_, h2, h3, h4⟩ := cvt_bd h
  unfold dnV
  rw [Int.tdiv_eq_ediv_of_nonneg h3]
  exact ⟨Int.ediv_nonneg h3 (by omega), Int.le_trans (Int.ediv_le_self _ h3) h4⟩
theorem up_bd {T : Tab} {a b : ByteArray} {q : Int} (h : cvtB T a b q = true) : -1000000000000000000 ≤ upV T a b q ∧ upV T a b q ≤ 1000000000000000000 := by
  obtain ⟨_, h2, h3, h4⟩ := cvt_bd h
  have := flo_le (n := -(q * (facOf T a b).1.1)) h2.1 ⟨by omega, by omega⟩
  unfold upV
  omega

set_option maxHeartbeats 1000000 in
theorem l5Convert_no1 (w : World) (A : Option Addr) (n c : Nat) (fr to : Nat → ByteArray) (nu de : Nat → Int) (h : UnitRuleF w A n c fr to nu de) (hn20 : n ≤ 1048576) (a b : ByteArray) (za : a.size ≤ 9223372036854775807) (zb : b.size ≤ 9223372036854775807) (q : Int) (h1 : (facOf (tb n fr to nu de) a b).2 = false) :
    Calls Try.prog 50 #[.slice A n c, .string a, .string b, .int .i64 q] w fun e w' => e = .returned (.tuple #[.int .i64 0, .int .i64 1, .bool false]) ∧ Below w.heap.size w w' := by
  have H := Lib.hid h
  clear h
  have FAC := Lib.hid (spec_FactorOf w A n c fr to nu de H.out hn20 a b za zb)
  obtain ⟨T, hT⟩ : ∃ T, T = tb n fr to nu de := ⟨_, rfl⟩
  rw [← hT] at FAC h1 
  clear hT
  generalize facOf T a b = F at *
  obtain ⟨⟨p, d⟩, s⟩ := F
  simp only at h1 FAC
  subst h1
  go_enter Try.func50, Try.ntmps50
  go_wp2_with fail
  refine FAC.out.mono ?_; rintro e w1 ⟨rfl, h⟩
  go_wp2_with fail
  go_ret3
  exact ⟨rfl, by repeat' (first | (with_reducible exact Below.refl _ _) | assumption | (with_reducible refine below_then (by assumption) ?_ ?_) | (with_reducible refine Below.alloc ?_ ?_ _) | (with_reducible refine below_drewN ?_ _) | (with_reducible refine Below.drew ?_) | (with_reducible refine Below.setCell ?_ ?_ _) | (have := h.size; simp at *; omega) | omega | (simp; done) | (simp; omega))⟩
set_option maxHeartbeats 1000000 in
theorem l5Convert_no2 (w : World) (A : Option Addr) (n c : Nat) (fr to : Nat → ByteArray) (nu de : Nat → Int) (h : UnitRuleF w A n c fr to nu de) (hn20 : n ≤ 1048576) (a b : ByteArray) (za : a.size ≤ 9223372036854775807) (zb : b.size ≤ 9223372036854775807) (q : Int) (h1 : (facOf (tb n fr to nu de) a b).2 = true) (h2 : ¬ (0 ≤ q ∧ q ≤ 1000000000)) :
    Calls Try.prog 50 #[.slice A n c, .string a, .string b, .int .i64 q] w fun e w' => e = .returned (.tuple #[.int .i64 0, .int .i64 1, .bool false]) ∧ Below w.heap.size w w' := by
  have H := Lib.hid h
  clear h
  have FAC := Lib.hid (spec_FactorOf w A n c fr to nu de H.out hn20 a b za zb)
  obtain ⟨T, hT⟩ : ∃ T, T = tb n fr to nu de := ⟨_, rfl⟩
  rw [← hT] at FAC h1 
  clear hT
  generalize facOf T a b = F at *
  obtain ⟨⟨p, d⟩, s⟩ := F
  simp only at h1 FAC
  subst h1
  go_enter Try.func50, Try.ntmps50
  go_wp2_with fail
  refine FAC.out.mono ?_; rintro e w1 ⟨rfl, h⟩
  go_wp2_with (first | (go_at_call 56; refine (l1In_yes _ _ _ _ (by omega)).mono ?_; rintro e w' ⟨rfl, rfl⟩) | (go_at_call 56; refine (l1In_no _ _ _ _ (by omega)).mono ?_; rintro e w' ⟨rfl, rfl⟩))
  go_ret3
  exact ⟨rfl, by repeat' (first | (with_reducible exact Below.refl _ _) | assumption | (with_reducible refine below_then (by assumption) ?_ ?_) | (with_reducible refine Below.alloc ?_ ?_ _) | (with_reducible refine below_drewN ?_ _) | (with_reducible refine Below.drew ?_) | (with_reducible refine Below.setCell ?_ ?_ _) | (have := h.size; simp at *; omega) | omega | (simp; done) | (simp; omega))⟩
set_option maxHeartbeats 1000000 in
theorem l5Convert_yes (w : World) (A : Option Addr) (n c : Nat) (fr to : Nat → ByteArray) (nu de : Nat → Int) (h : UnitRuleF w A n c fr to nu de) (hn20 : n ≤ 1048576) (a b : ByteArray) (za : a.size ≤ 9223372036854775807) (zb : b.size ≤ 9223372036854775807) (q : Int) (h1 : cvtB (tb n fr to nu de) a b q = true) :
    Calls Try.prog 50 #[.slice A n c, .string a, .string b, .int .i64 q] w fun e w' => e = .returned (.tuple #[.int .i64 (q * (facOf (tb n fr to nu de) a b).1.1), .int .i64 (facOf (tb n fr to nu de) a b).1.2, .bool true]) ∧ Below w.heap.size w w' := by
  have H := Lib.hid h
  clear h
  have FAC := Lib.hid (spec_FactorOf w A n c fr to nu de H.out hn20 a b za zb)
  obtain ⟨T, hT⟩ : ∃ T, T = tb n fr to nu de := ⟨_, rfl⟩
  rw [← hT] at FAC h1 ⊢
  clear hT
  have bd := cvt_bd h1
  obtain ⟨h2, h3, h4⟩ := cvt_yes h1
  clear h1
  generalize facOf T a b = F at *
  obtain ⟨⟨p, d⟩, s⟩ := F
  simp only at h2 FAC bd ⊢
  subst h2
  obtain ⟨b1, b2, b3, b4⟩ := bd
  have u1 : IntKind.i64.wrap (q * p) = q * p := IntWalk.i64_in _ ⟨by omega, by omega⟩
  go_enter Try.func50, Try.ntmps50
  go_wp2_with fail
  refine FAC.out.mono ?_; rintro e w1 ⟨rfl, h⟩
  go_wp2_with (first | (go_at_call 56; refine (l1In_yes _ _ _ _ (by omega)).mono ?_; rintro e w' ⟨rfl, rfl⟩) | (go_at_call 56; refine (l1In_no _ _ _ _ (by omega)).mono ?_; rintro e w' ⟨rfl, rfl⟩))
  go_quiet (fail)
  go_wp2_with fail
  go_ret3
  exact ⟨rfl, by repeat' (first | (with_reducible exact Below.refl _ _) | assumption | (with_reducible refine below_then (by assumption) ?_ ?_) | (with_reducible refine Below.alloc ?_ ?_ _) | (with_reducible refine below_drewN ?_ _) | (with_reducible refine Below.drew ?_) | (with_reducible refine Below.setCell ?_ ?_ _) | (have := h.size; simp at *; omega) | omega | (simp; done) | (simp; omega))⟩
set_option maxHeartbeats 1000000 in
theorem spec_ConvertDown (w : World) (A : Option Addr) (n c : Nat) (fr to : Nat → ByteArray) (nu de : Nat → Int) (h : UnitRuleF w A n c fr to nu de) (hn20 : n ≤ 1048576) (a b : ByteArray) (za : a.size ≤ 9223372036854775807) (zb : b.size ≤ 9223372036854775807) (q : Int) :
    Calls Try.prog 24 #[.slice A n c, .string a, .string b, .int .i64 q] w fun e w' => e = .returned (.tuple #[.int .i64 (dnOf (tb n fr to nu de) a b q).1, .bool (dnOf (tb n fr to nu de) a b q).2]) ∧ Below w.heap.size w w' := by
  cases hc : cvtB (tb n fr to nu de) a b q with
  | false =>
    have HC := Lib.hid (show Calls Try.prog 50 #[.slice A n c, .string a, .string b, .int .i64 q] w fun e w' => e = .returned (.tuple #[.int .i64 0, .int .i64 1, .bool false]) ∧ Below w.heap.size w w' from by
      cases h1 : (facOf (tb n fr to nu de) a b).2
      · exact l5Convert_no1 w A n c fr to nu de h hn20 a b za zb q h1
      · exact l5Convert_no2 w A n c fr to nu de h hn20 a b za zb q h1 (fun k => by unfold cvtB at hc; rw [h1] at hc; simp at hc; omega))
    rw [dn_no hc]
    clear hc h
    go_enter Try.func24, Try.ntmps24
    go_wp2_with fail
    refine HC.out.mono ?_; rintro e w1 ⟨rfl, h⟩
    go_wp2_with fail
    go_ret2
    exact ⟨rfl, h⟩
  | true =>
    have HC := Lib.hid (l5Convert_yes w A n c fr to nu de h hn20 a b za zb q hc)
    have vb := dn_bd hc
    obtain ⟨b1, b2, b3, b4⟩ := cvt_bd hc
    have bigE := fun k => dn_big (T := (tb n fr to nu de)) (a := a) (b := b) (q := q) k
    have yesE := fun k => dn_yes (T := (tb n fr to nu de)) (a := a) (b := b) (q := q) hc k
    obtain ⟨v, hv⟩ : ∃ v, v = dnV (tb n fr to nu de) a b q := ⟨_, rfl⟩
    rw [← hv] at vb bigE yesE
    unfold dnV at hv
    generalize q * (facOf (tb n fr to nu de) a b).1.1 = m at *
    generalize (facOf (tb n fr to nu de) a b).1.2 = d at *
    generalize dnOf (tb n fr to nu de) a b q = r0 at *
    have BE := Lib.hid bigE
    have YE := Lib.hid yesE
    clear hc h bigE yesE
    have hq : (d == 0) = false := by simp; omega
    have hx : m.tdiv d = v := hv.symm
    have u1 : IntKind.i64.wrap v = v := IntWalk.i64_in _ ⟨by omega, by omega⟩
    clear hv
    by_cases hle : v ≤ 1000000000
    · have hgt : ¬ (1000000000 : Int) < v := by omega
      have hgd : decide ((1000000000 : Int) < v) = false := by simp; omega
      rw [YE.out hle]
      go_enter Try.func24, Try.ntmps24
      go_wp2_with fail
      refine HC.out.mono ?_; rintro e w1 ⟨rfl, h⟩
      go_wp2_with fail
      go_ret2
      exact ⟨rfl, h⟩
    · have hgt : (1000000000 : Int) < v := by omega
      have hgd : decide ((1000000000 : Int) < v) = true := by simp; omega
      rw [BE.out hle]
      go_enter Try.func24, Try.ntmps24
      go_wp2_with fail
      refine HC.out.mono ?_; rintro e w1 ⟨rfl, h⟩
      go_wp2_with fail
      go_ret2
      exact ⟨rfl, h⟩
set_option maxHeartbeats 1000000 in
theorem impl_ConvertDown (w : World) (A : Option Addr) (n c : Nat) (fr to : Nat → ByteArray) (nu de : Nat → Int) (h : UnitRuleF w A n c fr to nu de) (hn20 : n ≤ 1048576) (a b : ByteArray) (za : a.size ≤ 9223372036854775807) (zb : b.size ≤ 9223372036854775807) (q : Int) :
    Calls Try.prog 25 #[.slice A n c, .string a, .string b, .int .i64 q] w fun e w' => e = .returned (.tuple #[.int .i64 (dnOf (tb n fr to nu de) a b q).1, .bool (dnOf (tb n fr to nu de) a b q).2]) ∧ Below w.heap.size w w' := by
  have FAC := Lib.hid (impl_FactorOf w A n c fr to nu de h hn20 a b za zb)
  cases h1 : (facOf (tb n fr to nu de) a b).2 with
  | false =>
    rw [dn_no (cvt_fac h1)]
    rw [h1] at FAC
    generalize (facOf (tb n fr to nu de) a b).1.1 = p at *
    generalize (facOf (tb n fr to nu de) a b).1.2 = d at *
    clear h h1
    go_enter Try.func25, Try.ntmps25
    go_wp2_with fail
    refine FAC.out.mono ?_; rintro e w1 ⟨rfl, h⟩
    go_wp2_with fail
    go_ret2
    exact ⟨rfl, by repeat' (first | (with_reducible exact Below.refl _ _) | assumption | (with_reducible refine below_then (by assumption) ?_ ?_) | (with_reducible refine Below.alloc ?_ ?_ _) | (with_reducible refine below_drewN ?_ _) | (with_reducible refine Below.drew ?_) | (with_reducible refine Below.setCell ?_ ?_ _) | (have := h.size; simp at *; omega) | omega | (simp; done) | (simp; omega))⟩
  | true =>
    rw [h1] at FAC
    by_cases h2 : 0 ≤ q ∧ q ≤ 1000000000
    case neg =>
      rw [dn_no (cvt_q h2)]
      generalize (facOf (tb n fr to nu de) a b).1.1 = p at *
      generalize (facOf (tb n fr to nu de) a b).1.2 = d at *
      clear h h1
      go_enter Try.func25, Try.ntmps25
      go_wp2_with fail
      refine FAC.out.mono ?_; rintro e w1 ⟨rfl, h⟩
      go_wp2_with (first | (go_at_call 51; refine (in_yes _ _ _ _ (by omega)).mono ?_; rintro e w' ⟨rfl, rfl⟩) | (go_at_call 51; refine (in_no _ _ _ _ (by omega)).mono ?_; rintro e w' ⟨rfl, rfl⟩))
      go_ret2
      exact ⟨rfl, by repeat' (first | (with_reducible exact Below.refl _ _) | assumption | (with_reducible refine below_then (by assumption) ?_ ?_) | (with_reducible refine Below.alloc ?_ ?_ _) | (with_reducible refine below_drewN ?_ _) | (with_reducible refine Below.drew ?_) | (with_reducible refine Below.setCell ?_ ?_ _) | (have := h.size; simp at *; omega) | omega | (simp; done) | (simp; omega))⟩
    have hc : cvtB (tb n fr to nu de) a b q = true := by unfold cvtB; rw [h1]; simp [h2]
    have vb := dn_bd hc
    obtain ⟨b1, b2, b3, b4⟩ := cvt_bd hc
    have bigE := fun k => dn_big (T := (tb n fr to nu de)) (a := a) (b := b) (q := q) k
    have yesE := fun k => dn_yes (T := (tb n fr to nu de)) (a := a) (b := b) (q := q) hc k
    obtain ⟨v, hv⟩ : ∃ v, v = dnV (tb n fr to nu de) a b q := ⟨_, rfl⟩
    rw [← hv] at vb bigE yesE
    unfold dnV at hv
    generalize (facOf (tb n fr to nu de) a b).1.1 = p at *
    generalize (facOf (tb n fr to nu de) a b).1.2 = d at *
    generalize dnOf (tb n fr to nu de) a b q = r0 at *
    have BE := Lib.hid bigE
    have YE := Lib.hid yesE
    clear hc h bigE yesE h1
    obtain ⟨h2a, h2b⟩ := h2
    have u9 : IntKind.i64.wrap (q * p) = q * p := IntWalk.i64_in _ ⟨by omega, by omega⟩
    obtain ⟨m, hm⟩ : ∃ m, m = q * p := ⟨_, rfl⟩
    rw [← hm] at u9 b3 b4 hv
    have hm' := hm.symm
    clear hm
    have hq : (d == 0) = false := by simp; omega
    have hx : m.tdiv d = v := hv.symm
    have u1 : IntKind.i64.wrap v = v := IntWalk.i64_in _ ⟨by omega, by omega⟩
    clear hv
    by_cases hle : v ≤ 1000000000
    · have hgt : ¬ (1000000000 : Int) < v := by omega
      rw [YE.out hle]
      go_enter Try.func25, Try.ntmps25
      go_wp2_with fail
      refine FAC.out.mono ?_; rintro e w1 ⟨rfl, h⟩
      go_wp2_with (first | (go_at_call 51; refine (in_yes _ _ _ _ (by omega)).mono ?_; rintro e w' ⟨rfl, rfl⟩) | (go_at_call 51; refine (in_no _ _ _ _ (by omega)).mono ?_; rintro e w' ⟨rfl, rfl⟩))
      go_ret2
      exact ⟨rfl, by repeat' (first | (with_reducible exact Below.refl _ _) | assumption | (with_reducible refine below_then (by assumption) ?_ ?_) | (with_reducible refine Below.alloc ?_ ?_ _) | (with_reducible refine below_drewN ?_ _) | (with_reducible refine Below.drew ?_) | (with_reducible refine Below.setCell ?_ ?_ _) | (have := h.size; simp at *; omega) | omega | (simp; done) | (simp; omega))⟩
    · have hgt : (1000000000 : Int) < v := by omega
      rw [BE.out hle]
      go_enter Try.func25, Try.ntmps25
      go_wp2_with fail
      refine FAC.out.mono ?_; rintro e w1 ⟨rfl, h⟩
      go_wp2_with (first | (go_at_call 51; refine (in_yes _ _ _ _ (by omega)).mono ?_; rintro e w' ⟨rfl, rfl⟩) | (go_at_call 51; refine (in_no _ _ _ _ (by omega)).mono ?_; rintro e w' ⟨rfl, rfl⟩))
      go_ret2
      exact ⟨rfl, by repeat' (first | (with_reducible exact Below.refl _ _) | assumption | (with_reducible refine below_then (by assumption) ?_ ?_) | (with_reducible refine Below.alloc ?_ ?_ _) | (with_reducible refine below_drewN ?_ _) | (with_reducible refine Below.drew ?_) | (with_reducible refine Below.setCell ?_ ?_ _) | (have := h.size; simp at *; omega) | omega | (simp; done) | (simp; omega))⟩
set_option maxHeartbeats 1000000 in
theorem spec_ConvertUp (w : World) (A : Option Addr) (n c : Nat) (fr to : Nat → ByteArray) (nu de : Nat → Int) (h : UnitRuleF w A n c fr to nu de) (hn20 : n ≤ 1048576) (a b : ByteArray) (za : a.size ≤ 9223372036854775807) (zb : b.size ≤ 9223372036854775807) (q : Int) :
    Calls Try.prog 26 #[.slice A n c, .string a, .string b, .int .i64 q] w fun e w' => e = .returned (.tuple #[.int .i64 (upOf (tb n fr to nu de) a b q).1, .bool (upOf (tb n fr to nu de) a b q).2]) ∧ Below w.heap.size w w' := by
  cases hc : cvtB (tb n fr to nu de) a b q with
  | false =>
    have HC := Lib.hid (show Calls Try.prog 50 #[.slice A n c, .string a, .string b, .int .i64 q] w fun e w' => e = .returned (.tuple #[.int .i64 0, .int .i64 1, .bool false]) ∧ Below w.heap.size w w' from by
      cases h1 : (facOf (tb n fr to nu de) a b).2
      · exact l5Convert_no1 w A n c fr to nu de h hn20 a b za zb q h1
      · exact l5Convert_no2 w A n c fr to nu de h hn20 a b za zb q h1 (fun k => by unfold cvtB at hc; rw [h1] at hc; simp at hc; omega))
    rw [up_no hc]
    clear hc h
    go_enter Try.func26, Try.ntmps26
    go_wp2_with fail
    refine HC.out.mono ?_; rintro e w1 ⟨rfl, h⟩
    go_wp2_with fail
    go_ret2
    exact ⟨rfl, h⟩
  | true =>
    have HC := Lib.hid (l5Convert_yes w A n c fr to nu de h hn20 a b za zb q hc)
    have vb := up_bd hc
    obtain ⟨b1, b2, b3, b4⟩ := cvt_bd hc
    have bigE := fun k => up_big (T := (tb n fr to nu de)) (a := a) (b := b) (q := q) k
    have yesE := fun k => up_yes (T := (tb n fr to nu de)) (a := a) (b := b) (q := q) hc k
    obtain ⟨v, hv⟩ : ∃ v, v = upV (tb n fr to nu de) a b q := ⟨_, rfl⟩
    rw [← hv] at vb bigE yesE
    unfold upV at hv
    generalize q * (facOf (tb n fr to nu de) a b).1.1 = m at *
    generalize (facOf (tb n fr to nu de) a b).1.2 = d at *
    generalize upOf (tb n fr to nu de) a b q = r0 at *
    have BE := Lib.hid bigE
    have YE := Lib.hid yesE
    clear hc h bigE yesE
    have fb := flo_le (n := -m) (d := d) (by omega) ⟨by omega, by omega⟩
    have u0 : IntKind.i64.wrap (-m) = -m := IntWalk.i64_in _ ⟨by omega, by omega⟩
    obtain ⟨r, hr⟩ : ∃ r, r = (-m) / d := ⟨_, rfl⟩
    rw [← hr] at hv fb
    obtain rfl : r = -v := by omega
    have u2 : IntKind.i64.wrap (- -v) = v := by rw [Int.neg_neg]; exact IntWalk.i64_in _ ⟨by omega, by omega⟩
    have FLO := Lib.hid (fun (W : World) => spec_floorOf (-m) d W (by omega) (by omega) (by omega) (by omega))
    rw [← hr] at FLO
    clear hr
    clear hv
    by_cases hle : v ≤ 1000000000
    · have hgt : ¬ (1000000000 : Int) < v := by omega
      have hgd : decide ((1000000000 : Int) < v) = false := by simp; omega
      rw [YE.out hle]
      go_enter Try.func26, Try.ntmps26
      go_wp2_with fail
      refine HC.out.mono ?_; rintro e w1 ⟨rfl, h⟩
      go_wp2_with fail
      refine (FLO.out _).mono ?_; rintro e w2 ⟨rfl, hw2⟩; obtain rfl := hw2.symm
      go_wp2_with fail
      refine (FLO.out _).mono ?_; rintro e w2 ⟨rfl, hw2⟩; obtain rfl := hw2.symm
      go_wp2_with fail
      go_ret2
      exact ⟨rfl, h⟩
    · have hgt : (1000000000 : Int) < v := by omega
      have hgd : decide ((1000000000 : Int) < v) = true := by simp; omega
      rw [BE.out hle]
      go_enter Try.func26, Try.ntmps26
      go_wp2_with fail
      refine HC.out.mono ?_; rintro e w1 ⟨rfl, h⟩
      go_wp2_with fail
      refine (FLO.out _).mono ?_; rintro e w2 ⟨rfl, hw2⟩; obtain rfl := hw2.symm
      go_wp2_with fail
      go_ret2
      exact ⟨rfl, h⟩
set_option maxHeartbeats 1000000 in
theorem impl_ConvertUp (w : World) (A : Option Addr) (n c : Nat) (fr to : Nat → ByteArray) (nu de : Nat → Int) (h : UnitRuleF w A n c fr to nu de) (hn20 : n ≤ 1048576) (a b : ByteArray) (za : a.size ≤ 9223372036854775807) (zb : b.size ≤ 9223372036854775807) (q : Int) :
    Calls Try.prog 27 #[.slice A n c, .string a, .string b, .int .i64 q] w fun e w' => e = .returned (.tuple #[.int .i64 (upOf (tb n fr to nu de) a b q).1, .bool (upOf (tb n fr to nu de) a b q).2]) ∧ Below w.heap.size w w' := by
  have FAC := Lib.hid (impl_FactorOf w A n c fr to nu de h hn20 a b za zb)
  cases h1 : (facOf (tb n fr to nu de) a b).2 with
  | false =>
    rw [up_no (cvt_fac h1)]
    rw [h1] at FAC
    generalize (facOf (tb n fr to nu de) a b).1.1 = p at *
    generalize (facOf (tb n fr to nu de) a b).1.2 = d at *
    clear h h1
    go_enter Try.func27, Try.ntmps27
    go_wp2_with fail
    refine FAC.out.mono ?_; rintro e w1 ⟨rfl, h⟩
    go_wp2_with fail
    go_ret2
    exact ⟨rfl, by repeat' (first | (with_reducible exact Below.refl _ _) | assumption | (with_reducible refine below_then (by assumption) ?_ ?_) | (with_reducible refine Below.alloc ?_ ?_ _) | (with_reducible refine below_drewN ?_ _) | (with_reducible refine Below.drew ?_) | (with_reducible refine Below.setCell ?_ ?_ _) | (have := h.size; simp at *; omega) | omega | (simp; done) | (simp; omega))⟩
  | true =>
    rw [h1] at FAC
    by_cases h2 : 0 ≤ q ∧ q ≤ 1000000000
    case neg =>
      rw [up_no (cvt_q h2)]
      generalize (facOf (tb n fr to nu de) a b).1.1 = p at *
      generalize (facOf (tb n fr to nu de) a b).1.2 = d at *
      clear h h1
      go_enter Try.func27, Try.ntmps27
      go_wp2_with fail
      refine FAC.out.mono ?_; rintro e w1 ⟨rfl, h⟩
      go_wp2_with (first | (go_at_call 51; refine (in_yes _ _ _ _ (by omega)).mono ?_; rintro e w' ⟨rfl, rfl⟩) | (go_at_call 51; refine (in_no _ _ _ _ (by omega)).mono ?_; rintro e w' ⟨rfl, rfl⟩))
      go_ret2
      exact ⟨rfl, by repeat' (first | (with_reducible exact Below.refl _ _) | assumption | (with_reducible refine below_then (by assumption) ?_ ?_) | (with_reducible refine Below.alloc ?_ ?_ _) | (with_reducible refine below_drewN ?_ _) | (with_reducible refine Below.drew ?_) | (with_reducible refine Below.setCell ?_ ?_ _) | (have := h.size; simp at *; omega) | omega | (simp; done) | (simp; omega))⟩
    have hc : cvtB (tb n fr to nu de) a b q = true := by unfold cvtB; rw [h1]; simp [h2]
    have vb := up_bd hc
    obtain ⟨b1, b2, b3, b4⟩ := cvt_bd hc
    have bigE := fun k => up_big (T := (tb n fr to nu de)) (a := a) (b := b) (q := q) k
    have yesE := fun k => up_yes (T := (tb n fr to nu de)) (a := a) (b := b) (q := q) hc k
    obtain ⟨v, hv⟩ : ∃ v, v = upV (tb n fr to nu de) a b q := ⟨_, rfl⟩
    rw [← hv] at vb bigE yesE
    unfold upV at hv
    generalize (facOf (tb n fr to nu de) a b).1.1 = p at *
    generalize (facOf (tb n fr to nu de) a b).1.2 = d at *
    generalize upOf (tb n fr to nu de) a b q = r0 at *
    have BE := Lib.hid bigE
    have YE := Lib.hid yesE
    clear hc h bigE yesE h1
    obtain ⟨h2a, h2b⟩ := h2
    have u9 : IntKind.i64.wrap (q * p) = q * p := IntWalk.i64_in _ ⟨by omega, by omega⟩
    obtain ⟨m, hm⟩ : ∃ m, m = q * p := ⟨_, rfl⟩
    rw [← hm] at u9 b3 b4 hv
    have hm' := hm.symm
    clear hm
    have CEI := Lib.hid (fun (W : World) => impl_ceilOf m d W (by omega) (by omega) (by omega) (by omega))
    rw [← hv] at CEI
    clear hv
    by_cases hle : v ≤ 1000000000
    · have hgt : ¬ (1000000000 : Int) < v := by omega
      rw [YE.out hle]
      go_enter Try.func27, Try.ntmps27
      go_wp2_with fail
      refine FAC.out.mono ?_; rintro e w1 ⟨rfl, h⟩
      go_wp2_with (first | (go_at_call 51; refine (in_yes _ _ _ _ (by omega)).mono ?_; rintro e w' ⟨rfl, rfl⟩) | (go_at_call 51; refine (in_no _ _ _ _ (by omega)).mono ?_; rintro e w' ⟨rfl, rfl⟩))
      refine (CEI.out _).mono ?_; rintro e w2 ⟨rfl, hw2⟩; obtain rfl := hw2.symm
      go_wp2_with fail
      go_ret2
      exact ⟨rfl, by repeat' (first | (with_reducible exact Below.refl _ _) | assumption | (with_reducible refine below_then (by assumption) ?_ ?_) | (with_reducible refine Below.alloc ?_ ?_ _) | (with_reducible refine below_drewN ?_ _) | (with_reducible refine Below.drew ?_) | (with_reducible refine Below.setCell ?_ ?_ _) | (have := h.size; simp at *; omega) | omega | (simp; done) | (simp; omega))⟩
    · have hgt : (1000000000 : Int) < v := by omega
      rw [BE.out hle]
      go_enter Try.func27, Try.ntmps27
      go_wp2_with fail
      refine FAC.out.mono ?_; rintro e w1 ⟨rfl, h⟩
      go_wp2_with (first | (go_at_call 51; refine (in_yes _ _ _ _ (by omega)).mono ?_; rintro e w' ⟨rfl, rfl⟩) | (go_at_call 51; refine (in_no _ _ _ _ (by omega)).mono ?_; rintro e w' ⟨rfl, rfl⟩))
      refine (CEI.out _).mono ?_; rintro e w2 ⟨rfl, hw2⟩; obtain rfl := hw2.symm
      go_wp2_with fail
      go_ret2
      exact ⟨rfl, by repeat' (first | (with_reducible exact Below.refl _ _) | assumption | (with_reducible refine below_then (by assumption) ?_ ?_) | (with_reducible refine Below.alloc ?_ ?_ _) | (with_reducible refine below_drewN ?_ _) | (with_reducible refine Below.drew ?_) | (with_reducible refine Below.setCell ?_ ?_ _) | (have := h.size; simp at *; omega) | omega | (simp; done) | (simp; omega))⟩
end Go.Proofs.Ytccejhhhengpcaa
