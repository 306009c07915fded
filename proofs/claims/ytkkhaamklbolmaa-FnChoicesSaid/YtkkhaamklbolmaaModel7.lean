/-
  spec.IsModel. (Printed by gen/model7.py.)
-/
import Derived.Test.YtkkhaamklbolmaaModel6
namespace Go.Proofs.Ytkkhaamklbolmaa
open Go.RowKit Go.Sort
set_option linter.unusedVariables false
set_option linter.unusedSimpArgs false

theorem first_iff {f : Nat → ByteArray} {n i : Nat} (hi : i < n) : fndV f (f i) n = (i : Int) ↔ ∀ k, k < i → f k ≠ f i := by
  constructor
  · intro h
    unfold fndV at h
    cases e : fndS f (f i) n with
    | none => rw [e] at h; simp at h
    | some j =>
      rw [e] at h
      have hj : j = i := by simp at h; omega
      subst hj
      exact (fndS_some e).2.2
  · intro h
    exact fndS_hit (fndS_none.2 h) hi rfl
theorem codes_opt (D : OptD) (i : Nat) : codesB (D.vs i) (D.n i) 4 = optOk D i := by
  unfold codesB optOk
  have e : decide (1 ≤ D.n i) = decide ((1 : Int) ≤ (D.n i : Int)) := by
    by_cases h : 1 ≤ D.n i
    · rw [decide_eq_true h, decide_eq_true (by omega)]
    · rw [decide_eq_false h, decide_eq_false (by omega)]
  rw [e, Bool.and_comm]
def nameOk (D : OptD) (i : Nat) : Prop := isC (D.nm i) = true ∧ optOk D i = true ∧ ∀ k, k < i → D.nm k ≠ D.nm i
theorem mdl_yes {n m : Nat} {D : OptD} {E : RulD} (h1 : n ≤ 4) (h2 : m ≤ 6) (h3 : ∀ i, i < n → nameOk D i) (h4 : ∀ i, i < m → rulOk E i = true) : mdlB n D m E = true :=
  mdl_iff.2 ⟨h1, h2, fun i hi => (h3 i hi).2.1, h4, diff_iff.2 fun i hi => ⟨(h3 i hi).1, (first_iff hi).2 (h3 i hi).2.2⟩⟩
theorem mdl_name {n m i : Nat} {D : OptD} {E : RulD} (hi : i < n) (h : ¬ nameOk D i) : mdlB n D m E = false := mdl_no fun q => by
  have q5 := diff_iff.1 q.2.2.2.2 i hi
  exact h ⟨q5.1, q.2.2.1 i hi, (first_iff hi).1 q5.2⟩

set_option maxRecDepth 20000 in
set_option maxHeartbeats 4000000 in
theorem spec_IsModel (w : World) (A : Option Addr) (n c : Nat) (D : OptD) (P : Loc) (A2 : Option Addr) (m c2 : Nat) (E : RulD) (Q : Loc) (h : OptsF w A n c D P) (h2 : RulsF w A2 m c2 E Q) :
    Calls Try.prog 43 #[.agg #[.slice A n c, .slice A2 m c2]] w fun e w' => e = .returned (.bool (mdlB n D m E)) ∧ Below w.heap.size w w' := by
  have hn := h.le
  have hm := h2.le
  have H := Lib.hid h
  have H2 := Lib.hid h2
  clear h h2
  have NO := Lib.hid (fun (q : ¬ (n ≤ 4 ∧ m ≤ 6 ∧ (∀ i, i < n → optOk D i = true) ∧ (∀ i, i < m → rulOk E i = true) ∧ diffB D.nm n = true)) => mdl_no q)
  have NM := Lib.hid (fun (i : Nat) (hi : i < n) (q : ¬ nameOk D i) => mdl_name (m := m) (E := E) hi q)
  have YES := Lib.hid (fun (h1 : n ≤ 4) (h2 : m ≤ 6) (h3 : ∀ i, i < n → nameOk D i) (h4 : ∀ i, i < m → rulOk E i = true) => mdl_yes (n := n) (m := m) (D := D) (E := E) h1 h2 h3 h4)
  generalize mdlB n D m E = R at *
  by_cases h4 : n ≤ 4
  case neg =>
    have e : R = false := NO.out (fun q => h4 q.1)
    have hd : (4 : Int) < (n : Int) := by omega
    subst e
    go_enter Try.func43, Try.ntmps43
    go_wp2_with fail
    go_ret
    exact ⟨rfl, (Below.refl _ _).alloc (Nat.le_refl _) _⟩
  by_cases h6 : m ≤ 6
  case neg =>
    have e : R = false := NO.out (fun q => h6 q.2.1)
    have hd : ¬ (4 : Int) < (n : Int) := by omega
    have hd2 : (6 : Int) < (m : Int) := by omega
    subst e
    go_enter Try.func43, Try.ntmps43
    go_wp2_with fail
    go_ret
    exact ⟨rfl, (Below.refl _ _).alloc (Nat.le_refl _) _⟩
  have hd : ¬ (4 : Int) < (n : Int) := by omega
  have hd2 : ¬ (6 : Int) < (m : Int) := by omega
  go_enter Try.func43, Try.ntmps43
  go_wp2_with fail
  have R0 := Lib.hid (row_lit w #[.slice A n c, .slice A2 m c2] 66 2 (modelM (.slice A n c) (.slice A2 m c2)) (by simp) (fun i hi => by unfold modelM; rcases (by omega : i = 0 ∨ i = 1) with rfl | rfl <;> rfl))
  have B0 := Lib.hid ((Below.refl w.heap.size w).alloc (Nat.le_refl _) (.cells #[.slice A n c, .slice A2 m c2] 66))
  clear hd hd2
  go_loopw [3, 4] (fun iv _ W => ∃ i : Nat, iv = .int .i64 (i : Int) ∧ i ≤ n ∧ (∀ j, j < i → nameOk D j) ∧ Row W w.heap.size 66 2 (modelM (.slice A n c) (.slice A2 m c2)) ∧ Below w.heap.size w W) (fun iv _ _ => n - (intOf iv).toNat)
  case atStart => exact ⟨0, rfl, Nat.zero_le _, fun i hi => absurd hi (by omega), R0.out, B0.out⟩
  case round =>
    clear R0 B0
    obtain ⟨i, rfl, hi, hall, hrow, hbel⟩ := hrel
    have HA := Lib.hid hall
    have RW := Lib.hid hrow
    have BE := Lib.hid hbel
    have m0 : wr.cell? ⟨w.heap.size, 0, none⟩ = some (.slice A n c) := RW.out.cell (i := 0) (by omega)
    clear hall hrow hbel
    by_cases hlt : i < n
    case pos =>
      have hlt' : (i : Int) < (n : Int) := by omega
      have HW := Lib.hid (H.out.call BE.out)
      obtain ⟨b, o, rfl, hB, c0, c1⟩ := HW.out.cells hlt
      have zi := HW.out.z i hlt
      have CD := Lib.hid (l7Codes_any wr (P.A i) (D.n i) (P.c i) (D.vs i) 4 (HW.out.vals i hlt))
      rw [codes_opt D i] at CD
      have N1 := Lib.hid (NM.out i hlt)
      obtain ⟨s, hs⟩ : ∃ s, s = D.nm i := ⟨_, rfl⟩
      have HS := Lib.hid hs
      rw [← hs] at c0 zi
      clear hs
      have K1 := Lib.hid (show isC s = false → R = false from fun q => N1.out (fun p => by have := p.1; rw [← HS.out, q] at this; cases this))
      have K2 := Lib.hid (show optOk D i = false → R = false from fun q => N1.out (fun p => by have := p.2.1; rw [q] at this; cases this))
      have K3 := Lib.hid (show ∀ k, k < i → D.nm k = s → R = false from fun k hk q => N1.out (fun p => p.2.2 k hk (by rw [q, HS.out])))
      have K4 := Lib.hid (show isC s = true → optOk D i = true → (∀ k, k < i → D.nm k ≠ s) → ∀ j, j < i + 1 → nameOk D j from fun a b q j hj => by
        by_cases e : j = i
        · subst e; exact ⟨by rw [← HS.out]; exact a, b, fun k hk => by rw [← HS.out]; exact q k hk⟩
        · exact HA.out j (by omega))
      generalize optOk D i = J at *
      clear N1 NM
      cases hic : isC s
      case false =>
        have e : R = false := K1.out hic
        subst e
        go_wp2_with fail
        refine (spec_isCode s _ zi).mono ?_; rintro e w1 ⟨rfl, hw⟩; obtain rfl := hw.symm
        rw [hic]
        go_wp2_with fail
        go_ret
        exact ⟨rfl, BE.out⟩
      cases J
      case false =>
        have e : R = false := K2.out (by rfl)
        subst e
        go_wp2_with fail
        refine (spec_isCode s _ zi).mono ?_; rintro e w1 ⟨rfl, hw⟩; obtain rfl := hw.symm
        rw [hic]
        go_wp2_with fail
        refine CD.out.mono ?_; rintro e w1 ⟨rfl, hw⟩; obtain rfl := hw.symm
        go_wp2_with fail
        go_ret
        exact ⟨rfl, BE.out⟩
      have K5 := Lib.hid (K4.out hic (by rfl))
      clear K1 K2 K4
      go_wp2_with fail
      refine (spec_isCode s _ zi).mono ?_; rintro e w1 ⟨rfl, hw⟩; obtain rfl := hw.symm
      rw [hic]
      clear hic
      go_wp2_with fail
      refine CD.out.mono ?_; rintro e w1 ⟨rfl, hw⟩; obtain rfl := hw.symm
      clear CD c0 c1 m0
      go_wp2_with fail
      go_loopw [4] (fun kv W => ∃ k : Nat, kv = .int .i64 (k : Int) ∧ k ≤ i ∧ (∀ j, j < k → D.nm j ≠ s) ∧ Row W w.heap.size 66 2 (modelM (.slice (some ⟨b, o, none⟩) n c) (.slice A2 m c2)) ∧ Below w.heap.size w W) (fun kv _ => i - (intOf kv).toNat)
      case atStart => exact ⟨0, rfl, Nat.zero_le _, fun i hi => absurd hi (by omega), RW.out, BE.out⟩
      case round =>
        clear RW BE HW
        obtain ⟨k, rfl, hk, hne, hrow, hbe⟩ := hrel
        have NE := Lib.hid hne
        have RW := Lib.hid hrow
        have BE := Lib.hid hbe
        clear hne hrow hbe
        have HW := Lib.hid (H.out.call BE.out)
        by_cases hkl : k < i
        case pos =>
          have hkl' : (k : Int) < (i : Int) := by omega
          have hkn : (k : Int) < (n : Int) := by omega
          obtain ⟨b1, o1, e8, hB1, d0, _⟩ := HW.out.cells (show k < n by omega)
          injection e8 with e8
          injection e8 with e81 e82
          subst e81
          subst e82
          obtain ⟨b2, o2, e9, hB2, c0, _⟩ := HW.out.cells hlt
          injection e9 with e9
          injection e9 with e91 e92
          subst e91
          subst e92
          rw [← HS.out] at c0
          have m0 : wr.cell? ⟨w.heap.size, 0, none⟩ = some (.slice (some ⟨b, o, none⟩) n c) := RW.out.cell (i := 0) (by omega)
          have g0 := fun d os => cell_regrown m0 d os
          have g1 := fun d os => cell_regrown c0 d os
          by_cases he : D.nm k = s
          case pos =>
            have e : R = false := K3.out k hkl he
            subst e
            rw [he] at d0
            have hx := txt_same s
            have g2 := fun d os => cell_regrown d0 d os
            clear he K3
            go_wp2_with fail
            refine wp_region_quiet_below (by kernel_rfl) (by kernel_rfl) ?_
            repeat (first | go_big_quiet_step (fail) | quiet_step (fail))
            refine wpQuiet_nil ?_
            intro _ hw'
            obtain ⟨⟨dq, osq⟩, hw''⟩ := hw'
            subst hw''
            have BE2 := Lib.hid (BE.out.trans ((below_regrown wr dq osq).mono BE.out.size))
            go_wp2_with fail
            go_ret
            exact ⟨rfl, BE2.out⟩
          case neg =>
            have hx := txt_other he
            have N2 := Lib.hid (show ∀ j, j < k + 1 → D.nm j ≠ s from fun j hj => by
              by_cases e : j = k
              · subst e; exact he
              · exact NE.out j (by omega))
            obtain ⟨t, ht⟩ : ∃ t, t = D.nm k := ⟨_, rfl⟩
            rw [← ht] at d0 hx
            have g2 := fun d os => cell_regrown d0 d os
            clear he ht NE
            go_wp2_with fail
            refine wp_region_quiet_below (by kernel_rfl) (by kernel_rfl) ?_
            repeat (first | go_big_quiet_step (fail) | quiet_step (fail))
            refine wpQuiet_nil ?_
            intro _ hw'
            obtain ⟨⟨dq, osq⟩, hw''⟩ := hw'
            subst hw''
            have BE2 := Lib.hid (BE.out.trans ((below_regrown wr dq osq).mono BE.out.size))
            have RW2 := Lib.hid (RW.out.call (below_regrown wr dq osq))
            clear g0 g1 g2 m0 c0 d0 hx
            go_wp2_with fail
            go_roundw
            case rel => exact ⟨k + 1, by go_num, by omega, N2.out, RW2.out, BE2.out⟩
            case measure => simp [intOf]; omega
        obtain rfl : k = i := by omega
        have hkl' : ¬ (k : Int) < (k : Int) := by omega
        have K6 := Lib.hid (K5.out NE.out)
        go_wp2_with fail
        go_roundw
        case rel => exact ⟨k + 1, by go_num, by omega, K6.out, RW.out, BE.out⟩
        case measure => simp [intOf]; omega
    obtain rfl : i = n := by omega
    have hlt' : ¬ (i : Int) < (i : Int) := by omega
    go_wp2_with fail
    clear m0 hlt hlt'
    go_loopw [5] (fun jv W => ∃ j : Nat, jv = .int .i64 (j : Int) ∧ j ≤ m ∧ (∀ i, i < j → rulOk E i = true) ∧ Row W w.heap.size 66 2 (modelM (.slice A i c) (.slice A2 m c2)) ∧ Below w.heap.size w W) (fun jv _ => m - (intOf jv).toNat)
    case atStart => exact ⟨0, rfl, Nat.zero_le _, fun i hi => absurd hi (by omega), RW.out, BE.out⟩
    case round =>
      clear RW BE
      obtain ⟨j, rfl, hj, hal2, hrow, hbe⟩ := hrel
      have RA := Lib.hid hal2
      have RW := Lib.hid hrow
      have BE := Lib.hid hbe
      have m1 : wr.cell? ⟨w.heap.size, 1, none⟩ = some (.slice A2 m c2) := RW.out.cell (i := 1) (by omega)
      clear hal2 hrow hbe
      by_cases hlt : j < m
      case pos =>
        have hlt' : (j : Int) < (m : Int) := by omega
        have HW := Lib.hid (H2.out.call BE.out)
        obtain ⟨b, o, rfl, hB, c0⟩ := HW.out.cell hlt
        have IC := Lib.hid (fun (W : World) (hW : CondNodeF W (Q.A j) (E.n j) (Q.c j) (E.kd j) (E.op j) (E.vl j)) => spec_IsCond W (Q.A j) (E.n j) (Q.c j) (E.kd j) (E.op j) (E.vl j) hW)
        have S1 := Lib.hid (show ∀ hf : rulOk E j = false, R = false from fun hf => NO.out (fun q => by have := q.2.2.2.1 j hlt; rw [hf] at this; cases this))
        have S2 := Lib.hid (show ∀ hf : rulOk E j = true, ∀ i, i < j + 1 → rulOk E i = true from fun hf i hi => by
          by_cases e : i = j
          · subst e; exact hf
          · exact RA.out i (by omega))
        have D1 := Lib.hid (show rulOk E j = isCondB (E.kd j) (E.op j) (E.vl j) (E.n j) from rfl)
        generalize isCondB (E.kd j) (E.op j) (E.vl j) (E.n j) = I at *
        cases I
        case false =>
          have e : R = false := S1.out D1.out
          subst e
          go_wp2_with fail
          refine (IC.out _ (HW.out.conds j hlt)).mono ?_; rintro e w8 ⟨rfl, b8⟩
          have B8 := Lib.hid (BE.out.trans (b8.mono BE.out.size))
          clear b8
          go_wp2_with fail
          go_ret
          exact ⟨rfl, B8.out⟩
        case true =>
          have A7' := Lib.hid (S2.out D1.out)
          clear S1 S2 D1
          go_wp2_with fail
          refine (IC.out _ (HW.out.conds j hlt)).mono ?_; rintro e w8 ⟨rfl, b8⟩
          have B8 := Lib.hid (BE.out.trans (b8.mono BE.out.size))
          have R8 := Lib.hid (RW.out.call b8)
          clear b8
          go_wp2_with fail
          go_roundw
          case rel => exact ⟨j + 1, by go_num, by omega, A7'.out, R8.out, B8.out⟩
          case measure => simp [intOf]; omega
      obtain rfl : j = m := by omega
      have hlt' : ¬ (j : Int) < (j : Int) := by omega
      have e : R = true := YES.out h4 h6 HA.out RA.out
      subst e
      go_wp2_with fail
      go_ret
      exact ⟨rfl, BE.out⟩

end Go.Proofs.Ytkkhaamklbolmaa
