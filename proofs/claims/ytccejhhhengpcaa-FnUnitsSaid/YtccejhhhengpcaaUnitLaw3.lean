/-
  The law FnUnits. (Printed by gen/unitlaw3.py.)
-/
import Derived.Test.YtccejhhhengpcaaUnitLaw2
import Derived.Test.YtccejhhhengpcaaUnitsLaw
namespace Go.Proofs.Ytccejhhhengpcaa
open Go.RowKit Go.Sort num
set_option linter.unusedVariables false
set_option linter.unusedSimpArgs false

set_option maxHeartbeats 1000000 in
theorem whole_any (n : Int) (w : World) (hn : -1000000000 ≤ n ∧ n ≤ 1000000000) :
    Calls Try.prog 21 #[.int .i64 n] w fun e w' => e = .returned (.agg #[.int .i64 n, .int .i64 1]) ∧ Below w.heap.size w w' := by
  have e1 := num.whole n hn
  go_enter Try.func21, Try.ntmps21
  go_wp2_with fail
  refine (spec_mk_any _ _ _).mono ?_; rintro e w1 ⟨rfl, hb1⟩
  rw [e1]
  have z1 : w.heap.size < w1.heap.size := by have := hb1.size; simp at this; omega
  have r0 : w1.cell? ⟨w.heap.size, 0, none⟩ = some (.int .i64 0) := by rw [hb1.cell (p := ⟨w.heap.size, 0, none⟩) (by simp)]; simp [go_sem]
  have r1 : w1.cell? ⟨w.heap.size, 1, none⟩ = some (.int .i64 0) := by rw [hb1.cell (p := ⟨w.heap.size, 1, none⟩) (by simp)]; simp [go_sem]
  have s0 : w1.frozen? ⟨w.heap.size, 0, none⟩ = false := by rw [hb1.frozen (p := ⟨w.heap.size, 0, none⟩) (by simp)]; simp [go_sem]
  have s1 : w1.frozen? ⟨w.heap.size, 1, none⟩ = false := by rw [hb1.frozen (p := ⟨w.heap.size, 1, none⟩) (by simp)]; simp [go_sem]
  go_wp2_with fail
  refine bodyPost_ret (by simp [results, Try.results21, go_sem, *]; try rfl) rfl ?_
  exact ⟨rfl, by repeat' (first | (with_reducible exact Below.refl _ _) | assumption | (with_reducible refine below_then (by assumption) ?_ ?_) | (with_reducible refine Below.alloc ?_ ?_ _) | (with_reducible refine below_drewN ?_ _) | (with_reducible refine Below.drew ?_) | (with_reducible refine Below.setCell ?_ ?_ _) | omega | (simp; done) | (simp; omega))⟩

theorem hasText_any (w : World) (A : Option Addr) (n cap : Nat) (f : Nat → ByteArray) (s : ByteArray) (h : StrsF w A n cap f) :
    Calls Try.prog 23 #[.slice A n cap, .string s] w fun e w' => e = .returned (.bool (fndS f s n).isSome) ∧ w' = w := by
  have hn := h.le
  have H := Lib.hid h
  clear h
  obtain ⟨R, hR⟩ : ∃ R, R = (fndS f s n).isSome := ⟨_, rfl⟩
  have HR := Lib.hid hR
  rw [← hR]
  clear hR
  go_enter Try.func23, Try.ntmps23
  go_wp2_with fail
  go_loop [5] (fun i => ∃ k : Nat, k ≤ n ∧ i = .int .i64 (k : Int) ∧ fndS f s k = none) (fun i => n - (intOf i).toNat)
  case atStart => exact ⟨0, Nat.zero_le _, rfl, rfl⟩
  case round =>
    obtain ⟨k, hk, rfl, hno⟩ := hrel
    have HN := Lib.hid hno
    clear hno
    by_cases hlt : k < n
    · have hlt' : (k : Int) < (n : Int) := by omega
      obtain ⟨b, o, rfl, hB, hc⟩ := H.out.cell hlt
      by_cases he : f k = s
      · have e := fndS_hit HN.out hlt he
        have hx := txt_same s
        rw [he] at hc
        have E := Lib.hid e
        clear e he
        go_wp2_with fail
        go_ret
        exact ⟨by
          rw [HR.out]
          have e2 := E.out
          unfold fndV at e2
          cases e3 : fndS f s n with
          | none => rw [e3] at e2; simp at e2
          | some i => rfl, rfl⟩
      · have hx := txt_other he
        have E := Lib.hid (show fndS f s (k + 1) = none by simp only [fndS, HN.out]; rw [if_neg he])
        clear he
        go_wp2_with fail
        go_round
        case rel => exact ⟨k + 1, by omega, by go_num, E.out⟩
        case measure => simp [intOf]; omega
    · obtain rfl : k = n := by omega
      go_wp2_with fail
      go_ret
      exact ⟨by rw [HR.out, HN.out]; rfl, rfl⟩
theorem has_iff (L : List Ent) (b : ByteArray) : (fndS (nmF L) b L.length).isSome = true ↔ b ∈ nms L := by
  rcases find_or L b with ⟨h, h'⟩ | ⟨j, h, hj, hn, hm⟩
  · constructor
    · intro k
      unfold fndV at h
      cases e : fndS (nmF L) b L.length with
      | none => rw [e] at k; cases k
      | some i => rw [e] at h; simp at h
    · intro k; exact absurd k h'
  · constructor
    · intro _; exact nmsI hm
    · intro _
      unfold fndV at h
      cases e : fndS (nmF L) b L.length with
      | none => rw [e] at h; simp at h
      | some i => rfl
theorem nm_in {L : List Ent} {i : Nat} (h : i < L.length) : nmF L i ∈ nms L := by
  have : L[i] ∈ L := List.getElem_mem h
  have e : nmF L i = (L[i]).1 := by simp [nmF, List.getD, h]
  rw [e]
  exact nmsI (f := (L[i]).2) this
set_option maxRecDepth 20000 in
set_option maxHeartbeats 4000000 in
theorem law_Units (w : World) (A : Option Addr) (len cap : Nat) (hb : Bytes w A len) :
    Calls Try.prog 5 #[.slice A len cap] w fun e w' => e = .returned (.bool true) ∧ Below w.heap.size w w' := by
  have hm := hb.1
  have HB := Lib.hid hb
  clear hb
  by_cases hbig : 1048576 < len
  · have hd : decide (1048576 < len) = true := by simpa using hbig
    go_enter Try.func5, Try.ntmps5
    go_wp2_with fail
    refine (big_any _ _ _ _ hm).mono ?_; rintro e w1 ⟨rfl, hw⟩; obtain rfl := hw.symm
    rw [hd]
    go_wp2_with fail
    go_ret
    exact ⟨rfl, Below.refl _ _⟩
  have hd : decide (1048576 < len) = false := by simpa using hbig
  go_enter Try.func5, Try.ntmps5
  go_wp2_with fail
  refine (big_any _ _ _ _ hm).mono ?_; rintro e w1 ⟨rfl, hw⟩; obtain rfl := hw.symm
  rw [hd]
  clear hd hbig
  go_wp2_with fail
  refine (DrawFactorOf_any _ _ _ _ HB.out).mono ?_
  rintro e w1 ⟨A1, n, c, fr, to, nu, de, a, b, rfl, h1, hn, ha, hb, b1⟩
  have H1 := Lib.hid h1
  have B1 := Lib.hid b1
  clear h1 b1
  have hn20 : n ≤ 1048576 := by omega
  have za : a.size ≤ 9223372036854775807 := by omega
  have zb : b.size ≤ 9223372036854775807 := by omega
  obtain ⟨T, hT⟩ : ∃ T, T = tb n fr to nu de := ⟨_, rfl⟩
  have LZ := Lib.hid (show ∀ i, i < (unitsOf T a).length → (nmF (unitsOf T a) i).size ≤ 9223372036854775807 by rw [hT]; exact units_size za (fun k hk => ⟨H1.out.z_fr k hk, H1.out.z_to k hk⟩))
  have IF := Lib.hid (fun (x y : ByteArray) (zx : x.size ≤ 9223372036854775807) (zy : y.size ≤ 9223372036854775807) (W : World) (hW : UnitRuleF W A1 n c fr to nu de) => impl_FactorOf W A1 n c fr to nu de hW hn20 x y zx zy)
  have SF := Lib.hid (fun (W : World) (hW : UnitRuleF W A1 n c fr to nu de) => spec_FactorOf W A1 n c fr to nu de hW hn20 a b za zb)
  have IU := Lib.hid (fun (W : World) (hW : UnitRuleF W A1 n c fr to nu de) => impl_UnitsFrom W A1 n c fr to nu de hW hn20 a za)
  have hll : (unitsOf T a).length ≤ 25 := units_len T a
  rw [← hT] at IF SF IU
  clear hT
  have IF1 := Lib.hid (IF.out a b za zb)
  have IF2 := Lib.hid (IF.out b a zb za)
  have k1 := fac_back (T := T) a b
  have k2 : (facOf T a b).2 = true → mulP (facOf T a b).1 (facOf T b a).1 = (1, 1) := fac_mul
  have k3 : (fndS (nmF (unitsOf T a)) b (unitsOf T a).length).isSome = (facOf T a b).2 := by
    rw [Bool.eq_iff_iff, has_iff, fac_units]
  have k4 := Lib.hid (fun (h : (facOf T a b).2 = true) (i : Nat) (hi : i < (unitsOf T a).length) => fac_third h (nm_in hi))
  generalize facOf T a b = R1 at *
  generalize facOf T b a = R2 at *
  obtain ⟨L, hL⟩ : ∃ L, L = unitsOf T a := ⟨_, rfl⟩
  rw [← hL] at LZ IU hll k3 k4
  clear hL
  obtain ⟨⟨p, d0⟩, is⟩ := R1
  obtain ⟨⟨p', d'⟩, back⟩ := R2
  simp only at k1 k2 k3 IF1 IF2 SF
  subst k1
  have hii : (back != back) = false := by simp
  have HAS := Lib.hid (fun (W : World) (X : Option Addr) (cc : Nat) (hx : StrsF W X L.length cc (nmF L)) => hasText_any W X L.length cc (nmF L) b hx)
  rw [k3] at HAS
  clear k3
  cases back
  case false =>
    clear k2 k4
    go_wp2_with fail
    refine (IF1.out _ H1.out).mono ?_; rintro e w2 ⟨rfl, b2⟩
    have H2 := Lib.hid ((H1.out.call b2).call ((Below.refl _ _).alloc (Nat.le_refl _) (.cells #[.int .i64 p, .int .i64 d0] 30)))
    have R2 := Lib.hid (row_lit w2 #[.int .i64 p, .int .i64 d0] 30 2 (boxF (p, d0)) (by simp) (fun i hi => by unfold boxF; rcases (by omega : i = 0 ∨ i = 1) with rfl | rfl <;> rfl))
    have B2 := Lib.hid ((B1.out.trans (b2.mono B1.out.size)).alloc (by have := B1.out.size; have := b2.size; omega) (.cells #[.int .i64 p, .int .i64 d0] 30))
    clear b2
    go_wp2_with fail
    refine (SF.out _ H2.out).mono ?_; rintro e w3 ⟨rfl, b3⟩
    have H3 := Lib.hid ((H2.out.call b3).call ((Below.refl _ _).alloc (Nat.le_refl _) (.cells #[.int .i64 p, .int .i64 d0] 30)))
    have R3 := Lib.hid ((R2.out.call b3).alloc (.cells #[.int .i64 p, .int .i64 d0] 30))
    have B3 := Lib.hid ((B2.out.trans (b3.mono B2.out.size)).alloc (by have := B2.out.size; have := b3.size; omega) (.cells #[.int .i64 p, .int .i64 d0] 30))
    clear b3
    go_wp2_with fail
    refine (IF2.out _ H3.out).mono ?_; rintro e w4 ⟨rfl, b4⟩
    have H4 := Lib.hid ((H3.out.call b4).call ((Below.refl _ _).alloc (Nat.le_refl _) (.cells #[.int .i64 p', .int .i64 d'] 30)))
    have R4 := Lib.hid ((R3.out.call b4).alloc (.cells #[.int .i64 p', .int .i64 d'] 30))
    have G4 := Lib.hid (row_lit w4 #[.int .i64 p', .int .i64 d'] 30 2 (boxF (p', d')) (by simp) (fun i hi => by unfold boxF; rcases (by omega : i = 0 ∨ i = 1) with rfl | rfl <;> rfl))
    have B4 := Lib.hid ((B3.out.trans (b4.mono B3.out.size)).alloc (by have := B3.out.size; have := b4.size; omega) (.cells #[.int .i64 p', .int .i64 d'] 30))
    clear b4
    have H5 := H4
    have R5 := R4
    have B5 := B4
    go_wp2_with fail
    refine (IU.out _ H5.out).mono ?_; rintro e w6 ⟨v, rfl, hO, b6⟩
    obtain ⟨Au, cu, rfl, hsu, hfree⟩ := hO.slice
    clear hfree
    have S6 := Lib.hid (nam_strs hsu LZ.out)
    have H6 := Lib.hid (H5.out.call b6)
    have R6 := Lib.hid (R5.out.call b6)
    have B6 := Lib.hid (B5.out.trans (b6.mono B5.out.size))
    clear b6 hO hsu
    go_wp2_with fail
    refine (HAS.out _ _ _ S6.out).mono ?_; rintro e wz ⟨rfl, hwz⟩; obtain rfl := hwz.symm
    go_wp2_with fail
    go_loopw [13, 14, 15, 16, 17] (fun iv _ _ _ _ W => iv = .int .i64 0 ∧ Below w.heap.size w W) (fun _ _ _ _ _ _ => 0)
    case atStart => exact ⟨rfl, B6.out⟩
    case round =>
      obtain ⟨rfl, hbw⟩ := hrel
      have BW := Lib.hid hbw
      clear hbw
      by_cases hl : 0 < L.length
      · have hl' : (0 : Int) < (L.length : Int) := by omega
        go_wp2_with fail
        go_ret
        exact ⟨rfl, BW.out⟩
      · have hl' : ¬ (0 : Int) < (L.length : Int) := by omega
        go_wp2_with fail
        go_ret
        exact ⟨rfl, BW.out⟩
  case true =>
    have e1 := k2 rfl
    clear k2
    have k5 := Lib.hid (k4.out rfl)
    clear k4
    have CM := Lib.hid (show ∀ W : World, Calls Try.prog 20 #[.agg #[.int .i64 p, .int .i64 d0], .agg #[.int .i64 p', .int .i64 d']] W fun e w' => e = .returned (.agg #[.int .i64 1, .int .i64 1]) ∧ Below W.heap.size W w' from fun W => by
      have := spec_MultiplyRatios p d0 p' d' W
      rw [show mulR p d0 p' d' = (1, 1) from e1] at this
      exact this)
    clear e1
    go_wp2_with fail
    refine (IF1.out _ H1.out).mono ?_; rintro e w2 ⟨rfl, b2⟩
    have H2 := Lib.hid ((H1.out.call b2).call ((Below.refl _ _).alloc (Nat.le_refl _) (.cells #[.int .i64 p, .int .i64 d0] 30)))
    have R2 := Lib.hid (row_lit w2 #[.int .i64 p, .int .i64 d0] 30 2 (boxF (p, d0)) (by simp) (fun i hi => by unfold boxF; rcases (by omega : i = 0 ∨ i = 1) with rfl | rfl <;> rfl))
    have B2 := Lib.hid ((B1.out.trans (b2.mono B1.out.size)).alloc (by have := B1.out.size; have := b2.size; omega) (.cells #[.int .i64 p, .int .i64 d0] 30))
    clear b2
    go_wp2_with fail
    refine (SF.out _ H2.out).mono ?_; rintro e w3 ⟨rfl, b3⟩
    have H3 := Lib.hid ((H2.out.call b3).call ((Below.refl _ _).alloc (Nat.le_refl _) (.cells #[.int .i64 p, .int .i64 d0] 30)))
    have R3 := Lib.hid ((R2.out.call b3).alloc (.cells #[.int .i64 p, .int .i64 d0] 30))
    have B3 := Lib.hid ((B2.out.trans (b3.mono B2.out.size)).alloc (by have := B2.out.size; have := b3.size; omega) (.cells #[.int .i64 p, .int .i64 d0] 30))
    clear b3
    go_wp2_with fail
    refine (IF2.out _ H3.out).mono ?_; rintro e w4 ⟨rfl, b4⟩
    have H4 := Lib.hid ((H3.out.call b4).call ((Below.refl _ _).alloc (Nat.le_refl _) (.cells #[.int .i64 p', .int .i64 d'] 30)))
    have R4 := Lib.hid ((R3.out.call b4).alloc (.cells #[.int .i64 p', .int .i64 d'] 30))
    have G4 := Lib.hid (row_lit w4 #[.int .i64 p', .int .i64 d'] 30 2 (boxF (p', d')) (by simp) (fun i hi => by unfold boxF; rcases (by omega : i = 0 ∨ i = 1) with rfl | rfl <;> rfl))
    have B4 := Lib.hid ((B3.out.trans (b4.mono B3.out.size)).alloc (by have := B3.out.size; have := b4.size; omega) (.cells #[.int .i64 p', .int .i64 d'] 30))
    clear b4
    have c0 : (w4.alloc (.cells #[.int .i64 p', .int .i64 d'] 30)).cell? ⟨w2.heap.size, 0, none⟩ = some (.int .i64 p) := R4.out.cell (i := 0) (by omega)
    have c1 : (w4.alloc (.cells #[.int .i64 p', .int .i64 d'] 30)).cell? ⟨w2.heap.size, 1, none⟩ = some (.int .i64 d0) := R4.out.cell (i := 1) (by omega)
    have c2 : (w4.alloc (.cells #[.int .i64 p', .int .i64 d'] 30)).cell? ⟨w4.heap.size, 0, none⟩ = some (.int .i64 p') := G4.out.cell (i := 0) (by omega)
    have c3 : (w4.alloc (.cells #[.int .i64 p', .int .i64 d'] 30)).cell? ⟨w4.heap.size, 1, none⟩ = some (.int .i64 d') := G4.out.cell (i := 1) (by omega)
    go_wp2_with fail
    refine (CM.out _).mono ?_; rintro e w5 ⟨rfl, b5⟩
    go_wp2_with fail
    refine (whole_any 1 _ ⟨by omega, by omega⟩).mono ?_; rintro e w5b ⟨rfl, b5b⟩
    clear c0 c1 c2 c3
    have H5 := Lib.hid ((H4.out.call b5).call b5b)
    have R5 := Lib.hid ((R4.out.call b5).call b5b)
    have B5 := Lib.hid ((B4.out.trans (b5.mono B4.out.size)).trans (b5b.mono (by have := B4.out.size; have := b5.size; omega)))
    clear b5 b5b
    go_wp2_with fail
    refine (IU.out _ H5.out).mono ?_; rintro e w6 ⟨v, rfl, hO, b6⟩
    obtain ⟨Au, cu, rfl, hsu, hfree⟩ := hO.slice
    clear hfree
    have S6 := Lib.hid (nam_strs hsu LZ.out)
    have H6 := Lib.hid (H5.out.call b6)
    have R6 := Lib.hid (R5.out.call b6)
    have B6 := Lib.hid (B5.out.trans (b6.mono B5.out.size))
    clear b6 hO hsu
    go_wp2_with fail
    refine (HAS.out _ _ _ S6.out).mono ?_; rintro e wz ⟨rfl, hwz⟩; obtain rfl := hwz.symm
    go_wp2_with fail
    go_loopw [13, 14, 15, 16, 17] (fun iv _ _ _ _ W => ∃ k : Nat, k ≤ L.length ∧ iv = .int .i64 (k : Int) ∧ UnitRuleF W A1 n c fr to nu de ∧ StrsF W Au L.length cu (nmF L) ∧ Row W w2.heap.size 30 2 (boxF (p, d0)) ∧ Below w.heap.size w W) (fun iv _ _ _ _ _ => L.length - (intOf iv).toNat)
    case atStart => exact ⟨0, Nat.zero_le _, rfl, H6.out, S6.out, R6.out, B6.out⟩
    case round =>
      obtain ⟨k, hk, rfl, hh, hs, hr, hbw⟩ := hrel
      have HW := Lib.hid hh
      have SW := Lib.hid hs
      have RW := Lib.hid hr
      have BW := Lib.hid hbw
      clear hh hs hr hbw
      by_cases hlt : k < L.length
      case neg =>
        have hl' : ¬ (k : Int) < (L.length : Int) := by omega
        go_wp2_with fail
        go_ret
        exact ⟨rfl, BW.out⟩
      have hl' : (k : Int) < (L.length : Int) := by omega
      obtain ⟨ub, uo, rfl, hub, huc⟩ := SW.out.cell hlt
      obtain ⟨t1, t2, t3⟩ := k5.out k hlt
      have zu := LZ.out k hlt
      have IFx := Lib.hid (IF.out a (nmF L k) za zu)
      have IFy := Lib.hid (IF.out (nmF L k) b zu zb)
      obtain ⟨u, hu⟩ : ∃ u, u = nmF L k := ⟨_, rfl⟩
      rw [← hu] at t1 t2 t3 zu IFx IFy huc
      have HU := Lib.hid hu
      clear hu
      generalize facOf T a u = Q1 at *
      generalize facOf T u b = Q2 at *
      obtain ⟨⟨x1, x2⟩, one⟩ := Q1
      obtain ⟨⟨y1, y2⟩, two⟩ := Q2
      simp only at t1 t2 t3 IFx IFy
      subst t1
      subst t2
      have CX := Lib.hid (show ∀ W : World, Calls Try.prog 20 #[.agg #[.int .i64 x1, .int .i64 x2], .agg #[.int .i64 y1, .int .i64 y2]] W fun e w' => e = .returned (.agg #[.int .i64 p, .int .i64 d0]) ∧ Below W.heap.size W w' from fun W => by
        have := spec_MultiplyRatios x1 x2 y1 y2 W
        rw [show mulR x1 x2 y1 y2 = (p, d0) from t3] at this
        exact this)
      clear t3
      go_wp2_with fail
      refine (IFx.out _ HW.out).mono ?_; rintro e w7 ⟨rfl, b7⟩
      have H7 := Lib.hid ((HW.out.call b7).call ((Below.refl _ _).alloc (Nat.le_refl _) (.cells #[.int .i64 x1, .int .i64 x2] 30)))
      have S7 := Lib.hid ((SW.out.call b7).call ((Below.refl _ _).alloc (Nat.le_refl _) (.cells #[.int .i64 x1, .int .i64 x2] 30)))
      have R7 := Lib.hid ((RW.out.call b7).alloc (.cells #[.int .i64 x1, .int .i64 x2] 30))
      have X7 := Lib.hid (row_lit w7 #[.int .i64 x1, .int .i64 x2] 30 2 (boxF (x1, x2)) (by simp) (fun i hi => by unfold boxF; rcases (by omega : i = 0 ∨ i = 1) with rfl | rfl <;> rfl))
      have B7 := Lib.hid ((BW.out.trans (b7.mono BW.out.size)).alloc (by have := BW.out.size; have := b7.size; omega) (.cells #[.int .i64 x1, .int .i64 x2] 30))
      clear b7 huc
      obtain ⟨_, _, e8, hub8, huc8⟩ := S7.out.cell hlt
      injection e8 with e8
      injection e8 with e81 e82
      subst e81
      subst e82
      rw [← HU.out] at huc8
      go_wp2_with fail
      refine (IFy.out _ H7.out).mono ?_; rintro e w8 ⟨rfl, b8⟩
      have H8 := Lib.hid ((H7.out.call b8).call ((Below.refl _ _).alloc (Nat.le_refl _) (.cells #[.int .i64 y1, .int .i64 y2] 30)))
      have S8 := Lib.hid ((S7.out.call b8).call ((Below.refl _ _).alloc (Nat.le_refl _) (.cells #[.int .i64 y1, .int .i64 y2] 30)))
      have R8 := Lib.hid ((R7.out.call b8).alloc (.cells #[.int .i64 y1, .int .i64 y2] 30))
      have X8 := Lib.hid ((X7.out.call b8).alloc (.cells #[.int .i64 y1, .int .i64 y2] 30))
      have Y8 := Lib.hid (row_lit w8 #[.int .i64 y1, .int .i64 y2] 30 2 (boxF (y1, y2)) (by simp) (fun i hi => by unfold boxF; rcases (by omega : i = 0 ∨ i = 1) with rfl | rfl <;> rfl))
      have B8 := Lib.hid ((B7.out.trans (b8.mono B7.out.size)).alloc (by have := B7.out.size; have := b8.size; omega) (.cells #[.int .i64 y1, .int .i64 y2] 30))
      clear b8 hub8 huc8
      go_wp2_with fail
      obtain ⟨W8, hW8⟩ : ∃ W, W = w8.alloc (.cells #[.int .i64 y1, .int .i64 y2] 30) := ⟨_, rfl⟩
      rw [← hW8] at H8 S8 R8 X8 Y8 B8 ⊢
      have c0 : W8.cell? ⟨w2.heap.size, 0, none⟩ = some (.int .i64 p) := R8.out.cell (i := 0) (by omega)
      have c1 : W8.cell? ⟨w2.heap.size, 1, none⟩ = some (.int .i64 d0) := R8.out.cell (i := 1) (by omega)
      have c2 : W8.cell? ⟨w7.heap.size, 0, none⟩ = some (.int .i64 x1) := X8.out.cell (i := 0) (by omega)
      have c3 : W8.cell? ⟨w7.heap.size, 1, none⟩ = some (.int .i64 x2) := X8.out.cell (i := 1) (by omega)
      have c4 : W8.cell? ⟨w8.heap.size, 0, none⟩ = some (.int .i64 y1) := Y8.out.cell (i := 0) (by omega)
      have c5 : W8.cell? ⟨w8.heap.size, 1, none⟩ = some (.int .i64 y2) := Y8.out.cell (i := 1) (by omega)
      clear hW8
      have rg0 := fun d os => cell_regrown c0 d os
      have rg1 := fun d os => cell_regrown c1 d os
      have rg2 := fun d os => cell_regrown c2 d os
      have rg3 := fun d os => cell_regrown c3 d os
      have rg4 := fun d os => cell_regrown c4 d os
      have rg5 := fun d os => cell_regrown c5 d os
      refine wp_region_quiet_below (by kernel_rfl) (by kernel_rfl) ?_
      repeat (first | go_big_quiet_step ((go_at_call 20; exact Calls.regrown_of (CX.out _))) | quiet_step ((go_at_call 20; exact Calls.regrown_of (CX.out _))))
      refine wpQuiet_nil ?_
      intro _ hw'
      obtain ⟨⟨dq, osq⟩, hw''⟩ := hw'
      subst hw''
      clear rg0 rg1 rg2 rg3 rg4 rg5 c0 c1 c2 c3 c4 c5
      have bq := below_regrown W8 dq osq
      have H9 := Lib.hid (H8.out.call bq)
      have S9 := Lib.hid (S8.out.call bq)
      have R9 := Lib.hid (R8.out.call bq)
      have B9 := Lib.hid (B8.out.trans (bq.mono B8.out.size))
      clear bq
      go_wp2_with fail
      go_roundw
      case rel => exact ⟨k + 1, by omega, by go_num, H9.out, S9.out, R9.out, B9.out⟩
      case measure => simp [intOf]; omega
end Go.Proofs.Ytccejhhhengpcaa
