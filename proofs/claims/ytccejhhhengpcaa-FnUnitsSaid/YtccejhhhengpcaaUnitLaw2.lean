/-
  The laws FnUnits and FnConverts: what they say of tables of units, and their walks. (Printed by gen/unitlaw2.py.)
-/
import Derived.Test.YtccejhhhengpcaaDrawUnit
import Derived.Test.YtccejhhhengpcaaConvert
namespace Go.Proofs.Ytccejhhhengpcaa
open Go.RowKit Go.Sort num
set_option linter.unusedVariables false
set_option linter.unusedSimpArgs false

theorem names_code {T : Tab} (ok : okT T) {a x : ByteArray} (ha : isC a = true) (hx : x ∈ nms (srch T a)) : isC x = true := by
  rcases (srch_good T a).sub x hx with e | e
  · rw [e]; exact ha
  · unfold Tab.all at e
    rcases List.mem_append.1 e with e | e
    · obtain ⟨k, hk, e⟩ := List.mem_map.1 e; rw [← e]; exact (ruleB_iff.1 (ok.2 k (List.mem_range.1 hk))).1
    · obtain ⟨k, hk, e⟩ := List.mem_map.1 e; rw [← e]; exact (ruleB_iff.1 (ok.2 k (List.mem_range.1 hk))).2.1
theorem fac_iff {T : Tab} {a b : ByteArray} : (facOf T a b).2 = true ↔ tableB T = true ∧ isC a = true ∧ isC b = true ∧ b ∈ nms (srch T a) := by
  constructor
  · intro h
    obtain ⟨h1, h2, h3, h4⟩ := facOf_yes h
    exact ⟨h1, h2, h3, nmsI h4⟩
  · intro h
    cases hf : (facOf T a b).2 with
    | true => rfl
    | false => exact absurd h (facOf_no hf).2
theorem fac_back {T : Tab} (a b : ByteArray) : (facOf T b a).2 = (facOf T a b).2 := by
  have key : ∀ a b, (facOf T a b).2 = true → (facOf T b a).2 = true := fun a b h => by
    obtain ⟨h1, h2, h3, h4⟩ := fac_iff.1 h
    exact fac_iff.2 ⟨h1, h3, h2, (back_iff (srch_good T a) (all_fine h1 a) (srch_good T b) (all_fine h1 b)).1 h4⟩
  cases h : (facOf T a b).2 with
  | true => exact key a b h
  | false =>
    cases h2 : (facOf T b a).2 with
    | false => rfl
    | true => rw [key b a h2] at h; cases h
theorem fac_mul {T : Tab} {a b : ByteArray} (h : (facOf T a b).2 = true) : mulP (facOf T a b).1 (facOf T b a).1 = (1, 1) := by
  have h' : (facOf T b a).2 = true := by rw [fac_back]; exact h
  obtain ⟨h1, _, _, h4⟩ := facOf_yes h
  obtain ⟨_, _, _, h5⟩ := facOf_yes h'
  exact mul_back (tableB_iff.1 h1).1.ok (srch_good T a) (all_fine h1 a) (srch_good T b) h4 h5
theorem fac_units {T : Tab} (a b : ByteArray) : (facOf T a b).2 = true ↔ b ∈ nms (unitsOf T a) := by
  rw [fac_iff]
  constructor
  · rintro ⟨h1, h2, _, h4⟩; rw [units_yes a h1 h2]; exact h4
  · intro h
    by_cases k : tableB T = true ∧ isC a = true
    · rw [units_yes a k.1 k.2] at h
      exact ⟨k.1, k.2, names_code (tableB_iff.1 k.1).1 k.2 h, h⟩
    · have : unitsOf T a = [] := by unfold unitsOf; rw [if_neg k]
      rw [this] at h; simp [nms] at h
/-- over a third unit -/
theorem fac_third {T : Tab} {a b u : ByteArray} (h : (facOf T a b).2 = true) (hu : u ∈ nms (unitsOf T a)) : (facOf T a u).2 = true ∧ (facOf T u b).2 = true ∧ mulP (facOf T a u).1 (facOf T u b).1 = (facOf T a b).1 := by
  have hau : (facOf T a u).2 = true := (fac_units a u).2 hu
  obtain ⟨h1, h2, h3, h4⟩ := facOf_yes h
  obtain ⟨_, _, k3, k4⟩ := facOf_yes hau
  have e1 : a ∈ nms (srch T u) := (back_iff (srch_good T a) (all_fine h1 a) (srch_good T u) (all_fine h1 u)).1 (nmsI k4)
  have hub : (facOf T u b).2 = true := fac_iff.2 ⟨h1, k3, h3, (mem_or (srch_good T a) (all_fine h1 u) (nmsI h4)).2 e1⟩
  obtain ⟨_, _, _, k5⟩ := facOf_yes hub
  exact ⟨hau, hub, over_third (tableB_iff.1 h1).1.ok (srch_good T a) (all_fine h1 a) (srch_good T u) k4 k5 h4⟩
/-- the factor back is the factor turned round -/
theorem fac_turn {T : Tab} {a b : ByteArray} (h : (facOf T a b).2 = true) : (facOf T b a).1 = ((facOf T a b).1.2, (facOf T a b).1.1) := by
  have h' : (facOf T b a).2 = true := by rw [fac_back]; exact h
  obtain ⟨h1, _, _, h4⟩ := facOf_yes h
  have h5 := (srch_good T a).plus' (tableB_iff.1 h1).1.ok h4
  exact turned (facOf_isP h) (facOf_isP h') h5 (fac_mul h)
theorem one_one : num.mk 1 1 = (1, 1) := by decide
/-! ### conversions -/
theorem dn_ok {T : Tab} {a b : ByteArray} {q : Int} : (dnOf T a b q).2 = true ↔ cvtB T a b q = true ∧ dnV T a b q ≤ 1000000000 := by
  unfold dnOf; split
  · next h => simp [h]
  · next h => simp [h]
theorem up_ok {T : Tab} {a b : ByteArray} {q : Int} : (upOf T a b q).2 = true ↔ cvtB T a b q = true ∧ upV T a b q ≤ 1000000000 := by
  unfold upOf; split
  · next h => simp [h]
  · next h => simp [h]
theorem dn_val {T : Tab} {a b : ByteArray} {q : Int} (h : (dnOf T a b q).2 = true) : (dnOf T a b q).1 = dnV T a b q := by
  obtain ⟨h1, h2⟩ := dn_ok.1 h; rw [dn_yes h1 h2]
theorem up_val {T : Tab} {a b : ByteArray} {q : Int} (h : (upOf T a b q).2 = true) : (upOf T a b q).1 = upV T a b q := by
  obtain ⟨h1, h2⟩ := up_ok.1 h; rw [up_yes h1 h2]
theorem up_nonneg {T : Tab} {a b : ByteArray} {q : Int} (h : cvtB T a b q = true) : 0 ≤ upV T a b q := by
  obtain ⟨_, h2, h3, h4⟩ := cvt_bd h
  unfold upV
  have : (-(q * (facOf T a b).1.1)) / (facOf T a b).1.2 ≤ 0 := by
    have := Int.ediv_le_ediv (c := (facOf T a b).1.2) (by omega) (show -(q * (facOf T a b).1.1) ≤ 0 by omega)
    simpa using this
  omega
theorem dn_range (T : Tab) (a b : ByteArray) (q : Int) : 0 ≤ (dnOf T a b q).1 ∧ (dnOf T a b q).1 ≤ 1000000000 := by
  cases h : (dnOf T a b q).2 with
  | true =>
    rw [dn_val h]
    obtain ⟨h1, h2⟩ := dn_ok.1 h
    exact ⟨(dn_bd h1).1, h2⟩
  | false =>
    unfold dnOf at h ⊢
    split at h
    · cases h
    · next k => rw [if_neg k]; simp
theorem up_range (T : Tab) (a b : ByteArray) (q : Int) : 0 ≤ (upOf T a b q).1 ∧ (upOf T a b q).1 ≤ 1000000000 := by
  cases h : (upOf T a b q).2 with
  | true =>
    rw [up_val h]
    obtain ⟨h1, h2⟩ := up_ok.1 h
    exact ⟨up_nonneg h1, h2⟩
  | false =>
    unfold upOf at h ⊢
    split at h
    · cases h
    · next k => rw [if_neg k]; simp
/-- rounding down and up -/
theorem near {m d : Int} (hd : 1 ≤ d) : -((-m) / d) = m / d ∨ -((-m) / d) = m / d + 1 := by
  have h1 := Int.mul_ediv_add_emod m d
  have h2 := Int.emod_nonneg m (show d ≠ 0 by omega)
  have h3 := Int.emod_lt_of_pos m (show 0 < d by omega)
  have k1 := Int.mul_ediv_add_emod (-m) d
  have k2 := Int.emod_nonneg (-m) (show d ≠ 0 by omega)
  have k3 := Int.emod_lt_of_pos (-m) (show 0 < d by omega)
  generalize m / d = x at *
  generalize (-m) / d = y at *
  have e : d * (x + y) = -(m % d) - ((-m) % d) := by rw [Int.mul_add]; omega
  by_cases c : x + y ≤ -2
  · have := Int.mul_le_mul_of_nonneg_left c (show 0 ≤ d by omega); omega
  · by_cases c2 : 1 ≤ x + y
    · have := Int.mul_le_mul_of_nonneg_left c2 (show 0 ≤ d by omega); omega
    · omega
theorem cvt_one {T : Tab} {a b : ByteArray} {q : Int} (h : (upOf T a b q).2 = true) : (dnOf T a b q).2 = true ∧ ((upOf T a b q).1 = (dnOf T a b q).1 ∨ (upOf T a b q).1 = (dnOf T a b q).1 + 1) := by
  obtain ⟨h1, h2⟩ := up_ok.1 h
  obtain ⟨_, k2, k3, k4⟩ := cvt_bd h1
  have e1 : dnV T a b q = (q * (facOf T a b).1.1) / (facOf T a b).1.2 := by unfold dnV; rw [Int.tdiv_eq_ediv_of_nonneg k3]
  have e2 : upV T a b q = -((-(q * (facOf T a b).1.1)) / (facOf T a b).1.2) := rfl
  have hn := near (m := q * (facOf T a b).1.1) k2.1
  rw [← e1, ← e2] at hn
  have h3 : (dnOf T a b q).2 = true := dn_ok.2 ⟨h1, by omega⟩
  refine ⟨h3, ?_⟩
  rw [up_val h, dn_val h3]; exact hn
theorem cvt_two {T : Tab} {a b : ByteArray} {q : Int} (h : (upOf T a b q).2 = true) (h2 : (dnOf T b a (upOf T a b q).1).2 = true) : q ≤ (dnOf T b a (upOf T a b q).1).1 := by
  obtain ⟨h1, _⟩ := up_ok.1 h
  obtain ⟨c1, _⟩ := dn_ok.1 h2
  obtain ⟨⟨f1, f2⟩, ⟨d1, d2⟩, k3, k4⟩ := cvt_bd h1
  have hf := (cvt_yes h1).1
  have ht := fac_turn hf
  obtain ⟨_, _, k5, _⟩ := cvt_bd c1
  rw [dn_val h2]
  have e1 : dnV T b a (upOf T a b q).1 = ((upOf T a b q).1 * (facOf T a b).1.2) / (facOf T a b).1.1 := by
    unfold dnV; rw [ht] at k5 ⊢; rw [Int.tdiv_eq_ediv_of_nonneg k5]
  rw [e1, up_val h]
  have e2 : upV T a b q = -((-(q * (facOf T a b).1.1)) / (facOf T a b).1.2) := rfl
  rw [e2]
  generalize (facOf T a b).1.1 = p at *
  generalize (facOf T a b).1.2 = d at *
  apply (Int.le_ediv_iff_mul_le (by omega)).2
  have k1 := Int.mul_ediv_add_emod (-(q * p)) d
  have k2 := Int.emod_nonneg (-(q * p)) (show d ≠ 0 by omega)
  generalize (-(q * p)) / d = y at *
  have e : -y * d = -(d * y) := by rw [Int.neg_mul, Int.mul_comm]
  rw [e]; omega
theorem cvt_three {T : Tab} {a b : ByteArray} {q : Int} (h : (dnOf T a b q).2 = true) : (upOf T b a (dnOf T a b q).1).2 = true ∧ (upOf T b a (dnOf T a b q).1).1 ≤ q := by
  obtain ⟨h1, h1b⟩ := dn_ok.1 h
  obtain ⟨⟨f1, f2⟩, ⟨d1, d2⟩, k3, k4⟩ := cvt_bd h1
  obtain ⟨hf, q0, q1⟩ := cvt_yes h1
  have ht := fac_turn hf
  have hv := dn_val h
  have hbd := dn_bd h1
  have hc : cvtB T b a (dnOf T a b q).1 = true := by
    unfold cvtB; rw [fac_back, hf]; simp; rw [hv]; omega
  have e1 : upV T b a (dnOf T a b q).1 = -((-((dnOf T a b q).1 * (facOf T a b).1.2)) / (facOf T a b).1.1) := by unfold upV; rw [ht]
  have e2 : dnV T a b q = (q * (facOf T a b).1.1) / (facOf T a b).1.2 := by unfold dnV; rw [Int.tdiv_eq_ediv_of_nonneg k3]
  have key : upV T b a (dnOf T a b q).1 ≤ q := by
    rw [e1, hv, e2]
    generalize (facOf T a b).1.1 = p at *
    generalize (facOf T a b).1.2 = d at *
    have : -q ≤ (-(q * p / d * d)) / p := by
      apply (Int.le_ediv_iff_mul_le (by omega)).2
      have k1 := Int.mul_ediv_add_emod (q * p) d
      have k2 := Int.emod_nonneg (q * p) (show d ≠ 0 by omega)
      generalize q * p / d = y at *
      have e : y * d = d * y := Int.mul_comm _ _
      have e' : -q * p = -(q * p) := Int.neg_mul _ _
      rw [e, e']; omega
    omega
  have hs : (upOf T b a (dnOf T a b q).1).2 = true := up_ok.2 ⟨hc, by omega⟩
  refine ⟨hs, ?_⟩
  rw [up_val hs]; exact key

set_option maxRecDepth 20000 in
set_option maxHeartbeats 4000000 in
theorem law_Converts (w : World) (A : Option Addr) (len cap : Nat) (hb : Bytes w A len) :
    Calls Try.prog 9 #[.slice A len cap] w fun e w' => e = .returned (.bool true) ∧ Below w.heap.size w w' := by
  have hm := hb.1
  have HB := Lib.hid hb
  clear hb
  by_cases hbig : 1048576 < len
  · have hd : decide (1048576 < len) = true := by simpa using hbig
    go_enter Try.func9, Try.ntmps9
    go_wp2_with fail
    refine (big_any _ _ _ _ hm).mono ?_; rintro e w1 ⟨rfl, hw⟩; obtain rfl := hw.symm
    rw [hd]
    go_wp2_with fail
    go_ret
    exact ⟨rfl, Below.refl _ _⟩
  have hd : decide (1048576 < len) = false := by simpa using hbig
  go_enter Try.func9, Try.ntmps9
  go_wp2_with fail
  refine (big_any _ _ _ _ hm).mono ?_; rintro e w1 ⟨rfl, hw⟩; obtain rfl := hw.symm
  rw [hd]
  clear hd hbig
  go_wp2_with fail
  refine (DrawConvertUp_any _ _ _ _ HB.out).mono ?_
  rintro e w1 ⟨A1, n, c, fr, to, nu, de, a, b, q, rfl, h1, hn, ha, hb, ⟨q0, q1⟩, b1⟩
  have H1 := Lib.hid h1
  have B1 := Lib.hid b1
  clear h1 b1
  have hn20 : n ≤ 1048576 := by omega
  have za : a.size ≤ 9223372036854775807 := by omega
  have zb : b.size ≤ 9223372036854775807 := by omega
  obtain ⟨T, hT⟩ : ∃ T, T = tb n fr to nu de := ⟨_, rfl⟩
  have CU := Lib.hid (fun (x : Int) (W : World) (hW : UnitRuleF W A1 n c fr to nu de) => impl_ConvertUp W A1 n c fr to nu de hW hn20 a b za zb x)
  have CS := Lib.hid (fun (x : Int) (W : World) (hW : UnitRuleF W A1 n c fr to nu de) => spec_ConvertUp W A1 n c fr to nu de hW hn20 a b za zb x)
  have CD := Lib.hid (fun (x : Int) (W : World) (hW : UnitRuleF W A1 n c fr to nu de) => impl_ConvertDown W A1 n c fr to nu de hW hn20 a b za zb x)
  have BD := Lib.hid (fun (x : Int) (W : World) (hW : UnitRuleF W A1 n c fr to nu de) => impl_ConvertDown W A1 n c fr to nu de hW hn20 b a zb za x)
  have BU := Lib.hid (fun (x : Int) (W : World) (hW : UnitRuleF W A1 n c fr to nu de) => impl_ConvertUp W A1 n c fr to nu de hW hn20 b a zb za x)
  rw [← hT] at CU CS CD BD BU
  clear hT
  have k1 := cvt_one (T := T) (a := a) (b := b) (q := q)
  have k2 := cvt_two (T := T) (a := a) (b := b) (q := q)
  have k3 := cvt_three (T := T) (a := a) (b := b) (q := q)
  have CU1 := Lib.hid (CU.out q)
  have CS1 := Lib.hid (CS.out q)
  have CD1 := Lib.hid (CD.out q)
  have BD1 := Lib.hid (BD.out (upOf T a b q).1)
  have BU1 := Lib.hid (BU.out (dnOf T a b q).1)
  have r1 := up_range T a b q
  have r2 := dn_range T a b q
  have r3 := dn_range T b a (upOf T a b q).1
  have r4 := up_range T b a (dnOf T a b q).1
  clear CU CS CD BD BU
  generalize dnOf T b a (upOf T a b q).1 = R3 at *
  generalize upOf T b a (dnOf T a b q).1 = R4 at *
  generalize upOf T a b q = R1 at *
  generalize dnOf T a b q = R2 at *
  obtain ⟨up, is⟩ := R1
  obtain ⟨dn, too⟩ := R2
  obtain ⟨bk, fits⟩ := R3
  obtain ⟨ls, sm⟩ := R4
  simp only at k1 k2 k3 r1 r2 r3 r4 CU1 CS1 CD1 BD1 BU1
  have hii : (is != is) = false := by simp
  have u1 : IntKind.i64.wrap (dn + 1) = dn + 1 := IntWalk.i64_in _ ⟨by omega, by omega⟩
  obtain ⟨s1, s2, s3, s4⟩ : ∃ s1 s2 s3 s4 : Bool, s1 = is ∧ s2 = too ∧ s3 = fits ∧ s4 = sm := ⟨_, _, _, _, rfl, rfl, rfl, rfl⟩
  clear s1 s2 s3 s4
  cases is
  case false =>
    clear k1 k2 u1
    cases too
    case false =>
      clear k3
      go_wp2_with fail
      refine (CU1.out _ H1.out).mono ?_; rintro e w2 ⟨rfl, b2⟩
      have H2 := Lib.hid (H1.out.call b2)
      have B2 := Lib.hid (B1.out.trans (b2.mono B1.out.size))
      clear b2
      go_wp2_with fail
      refine (CS1.out _ H2.out).mono ?_; rintro e w3 ⟨rfl, b3⟩
      have H3 := Lib.hid (H2.out.call b3)
      have B3 := Lib.hid (B2.out.trans (b3.mono B2.out.size))
      clear b3
      go_wp2_with fail
      refine (CD1.out _ H3.out).mono ?_; rintro e w4 ⟨rfl, b4⟩
      have H4 := Lib.hid (H3.out.call b4)
      have B4 := Lib.hid (B3.out.trans (b4.mono B3.out.size))
      clear b4
      go_wp2_with fail
      refine (BD1.out _ H4.out).mono ?_; rintro e w5 ⟨rfl, b5⟩
      have H5 := Lib.hid (H4.out.call b5)
      have B5 := Lib.hid (B4.out.trans (b5.mono B4.out.size))
      clear b5
      go_wp2_with fail
      refine (BU1.out _ H5.out).mono ?_; rintro e w6 ⟨rfl, b6⟩
      have B6 := Lib.hid (B5.out.trans (b6.mono B5.out.size))
      clear b6
      cases fits
      all_goals
        cases sm
        all_goals
          go_wp2_with fail
          go_ret
          exact ⟨rfl, B6.out⟩
    case true =>
      obtain ⟨rfl, hle⟩ := k3 rfl
      clear k3
      have hd : decide (ls ≤ q) = true := by simpa using hle
      go_wp2_with fail
      refine (CU1.out _ H1.out).mono ?_; rintro e w2 ⟨rfl, b2⟩
      have H2 := Lib.hid (H1.out.call b2)
      have B2 := Lib.hid (B1.out.trans (b2.mono B1.out.size))
      clear b2
      go_wp2_with fail
      refine (CS1.out _ H2.out).mono ?_; rintro e w3 ⟨rfl, b3⟩
      have H3 := Lib.hid (H2.out.call b3)
      have B3 := Lib.hid (B2.out.trans (b3.mono B2.out.size))
      clear b3
      go_wp2_with fail
      refine (CD1.out _ H3.out).mono ?_; rintro e w4 ⟨rfl, b4⟩
      have H4 := Lib.hid (H3.out.call b4)
      have B4 := Lib.hid (B3.out.trans (b4.mono B3.out.size))
      clear b4
      go_wp2_with fail
      refine (BD1.out _ H4.out).mono ?_; rintro e w5 ⟨rfl, b5⟩
      have H5 := Lib.hid (H4.out.call b5)
      have B5 := Lib.hid (B4.out.trans (b5.mono B4.out.size))
      clear b5
      go_wp2_with fail
      refine (BU1.out _ H5.out).mono ?_; rintro e w6 ⟨rfl, b6⟩
      have B6 := Lib.hid (B5.out.trans (b6.mono B5.out.size))
      clear b6
      cases fits
      all_goals
        go_wp2_with fail
        go_ret
        exact ⟨by first | rfl | simp [hle], B6.out⟩
  case true =>
    obtain ⟨rfl, hud⟩ := k1 rfl
    obtain ⟨rfl, hle⟩ := k3 rfl
    have hd : decide (ls ≤ q) = true := by simpa using hle
    clear k1 k3
    cases fits
    case false =>
      clear k2
      rcases hud with rfl | rfl
      · have v1 : (up != up) = false := by simp
        go_wp2_with fail
        refine (CU1.out _ H1.out).mono ?_; rintro e w2 ⟨rfl, b2⟩
        have H2 := Lib.hid (H1.out.call b2)
        have B2 := Lib.hid (B1.out.trans (b2.mono B1.out.size))
        clear b2
        go_wp2_with fail
        refine (CS1.out _ H2.out).mono ?_; rintro e w3 ⟨rfl, b3⟩
        have H3 := Lib.hid (H2.out.call b3)
        have B3 := Lib.hid (B2.out.trans (b3.mono B2.out.size))
        clear b3
        go_wp2_with fail
        refine (CD1.out _ H3.out).mono ?_; rintro e w4 ⟨rfl, b4⟩
        have H4 := Lib.hid (H3.out.call b4)
        have B4 := Lib.hid (B3.out.trans (b4.mono B3.out.size))
        clear b4
        go_wp2_with fail
        refine (BD1.out _ H4.out).mono ?_; rintro e w5 ⟨rfl, b5⟩
        have H5 := Lib.hid (H4.out.call b5)
        have B5 := Lib.hid (B4.out.trans (b5.mono B4.out.size))
        clear b5
        go_wp2_with fail
        refine (BU1.out _ H5.out).mono ?_; rintro e w6 ⟨rfl, b6⟩
        have B6 := Lib.hid (B5.out.trans (b6.mono B5.out.size))
        clear b6
        go_wp2_with fail
        go_ret
        exact ⟨by first | rfl | simp [hle], B6.out⟩
      · have v1 : (dn + 1 != dn) = true := by simp; omega
        have v2 : (dn + 1 != dn + 1) = false := by simp
        go_wp2_with fail
        refine (CU1.out _ H1.out).mono ?_; rintro e w2 ⟨rfl, b2⟩
        have H2 := Lib.hid (H1.out.call b2)
        have B2 := Lib.hid (B1.out.trans (b2.mono B1.out.size))
        clear b2
        go_wp2_with fail
        refine (CS1.out _ H2.out).mono ?_; rintro e w3 ⟨rfl, b3⟩
        have H3 := Lib.hid (H2.out.call b3)
        have B3 := Lib.hid (B2.out.trans (b3.mono B2.out.size))
        clear b3
        go_wp2_with fail
        refine (CD1.out _ H3.out).mono ?_; rintro e w4 ⟨rfl, b4⟩
        have H4 := Lib.hid (H3.out.call b4)
        have B4 := Lib.hid (B3.out.trans (b4.mono B3.out.size))
        clear b4
        go_wp2_with fail
        refine (BD1.out _ H4.out).mono ?_; rintro e w5 ⟨rfl, b5⟩
        have H5 := Lib.hid (H4.out.call b5)
        have B5 := Lib.hid (B4.out.trans (b5.mono B4.out.size))
        clear b5
        go_wp2_with fail
        refine (BU1.out _ H5.out).mono ?_; rintro e w6 ⟨rfl, b6⟩
        have B6 := Lib.hid (B5.out.trans (b6.mono B5.out.size))
        clear b6
        go_wp2_with fail
        go_ret
        exact ⟨by first | rfl | simp [hle], B6.out⟩
    case true =>
      have hge := k2 rfl rfl
      have hgd : decide (q ≤ bk) = true := by simpa using hge
      have hgd2 : decide (bk ≥ q) = true := by simpa using hge
      clear k2
      rcases hud with rfl | rfl
      · have v1 : (up != up) = false := by simp
        go_wp2_with fail
        refine (CU1.out _ H1.out).mono ?_; rintro e w2 ⟨rfl, b2⟩
        have H2 := Lib.hid (H1.out.call b2)
        have B2 := Lib.hid (B1.out.trans (b2.mono B1.out.size))
        clear b2
        go_wp2_with fail
        refine (CS1.out _ H2.out).mono ?_; rintro e w3 ⟨rfl, b3⟩
        have H3 := Lib.hid (H2.out.call b3)
        have B3 := Lib.hid (B2.out.trans (b3.mono B2.out.size))
        clear b3
        go_wp2_with fail
        refine (CD1.out _ H3.out).mono ?_; rintro e w4 ⟨rfl, b4⟩
        have H4 := Lib.hid (H3.out.call b4)
        have B4 := Lib.hid (B3.out.trans (b4.mono B3.out.size))
        clear b4
        go_wp2_with fail
        refine (BD1.out _ H4.out).mono ?_; rintro e w5 ⟨rfl, b5⟩
        have H5 := Lib.hid (H4.out.call b5)
        have B5 := Lib.hid (B4.out.trans (b5.mono B4.out.size))
        clear b5
        go_wp2_with fail
        refine (BU1.out _ H5.out).mono ?_; rintro e w6 ⟨rfl, b6⟩
        have B6 := Lib.hid (B5.out.trans (b6.mono B5.out.size))
        clear b6
        go_wp2_with fail
        go_ret
        exact ⟨by first | rfl | simp [hle, hge], B6.out⟩
      · have v1 : (dn + 1 != dn) = true := by simp; omega
        have v2 : (dn + 1 != dn + 1) = false := by simp
        go_wp2_with fail
        refine (CU1.out _ H1.out).mono ?_; rintro e w2 ⟨rfl, b2⟩
        have H2 := Lib.hid (H1.out.call b2)
        have B2 := Lib.hid (B1.out.trans (b2.mono B1.out.size))
        clear b2
        go_wp2_with fail
        refine (CS1.out _ H2.out).mono ?_; rintro e w3 ⟨rfl, b3⟩
        have H3 := Lib.hid (H2.out.call b3)
        have B3 := Lib.hid (B2.out.trans (b3.mono B2.out.size))
        clear b3
        go_wp2_with fail
        refine (CD1.out _ H3.out).mono ?_; rintro e w4 ⟨rfl, b4⟩
        have H4 := Lib.hid (H3.out.call b4)
        have B4 := Lib.hid (B3.out.trans (b4.mono B3.out.size))
        clear b4
        go_wp2_with fail
        refine (BD1.out _ H4.out).mono ?_; rintro e w5 ⟨rfl, b5⟩
        have H5 := Lib.hid (H4.out.call b5)
        have B5 := Lib.hid (B4.out.trans (b5.mono B4.out.size))
        clear b5
        go_wp2_with fail
        refine (BU1.out _ H5.out).mono ?_; rintro e w6 ⟨rfl, b6⟩
        have B6 := Lib.hid (B5.out.trans (b6.mono B5.out.size))
        clear b6
        go_wp2_with fail
        go_ret
        exact ⟨by first | rfl | simp [hle, hge], B6.out⟩
end Go.Proofs.Ytccejhhhengpcaa
