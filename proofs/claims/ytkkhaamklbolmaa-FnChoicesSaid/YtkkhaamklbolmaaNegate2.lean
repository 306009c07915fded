/-
  Contracts of NegateCond and heldCondNodeS. (Printed by gen/negate2.py.)
-/
import Derived.Test.YtkkhaamklbolmaaNegate
import Derived.Test.YtkkhaamklbolmaaCondNodeMark
import Derived.Lib.QuietBelow
namespace Go.Proofs.Ytkkhaamklbolmaa
open Go.RowKit Go.Sort
set_option linter.unusedVariables false
set_option linter.unusedSimpArgs false

/-- what NegateCond hands back: these nodes, and whether -/
def NegRet (w : World) (L : List Nd) (ok : Bool) (e : Ending) (w' : World) : Prop := ∃ A c, e = .returned (.tuple #[.slice A L.length c, .bool ok]) ∧ OwnV w.heap.size w' 54 3 (.slice A L.length c) L.length (ndC L) ∧ Below w.heap.size w w'
/-- the opposite, if it is not too long -/
def negOf (t : Cnd) : List Nd := if (t.neg true).length ≤ 30 then t.neg true else []
def negOk (t : Cnd) : Bool := decide ((t.neg true).length ≤ 30)
theorem negOf_len (t : Cnd) : (negOf t).length ≤ 30 := by unfold negOf; split <;> simp [*]
theorem impl_NegateCond_no (w : World) (A : Option Addr) (n c : Nat) (kd : Nat → Int) (op vl : Nat → ByteArray) (h : CondNodeF w A n c kd op vl) (hC : isCondB kd op vl n = false) :
    Calls Try.prog 32 #[.slice A n c] w (NegRet w [] false) := by
  have H := Lib.hid h
  clear h
  go_enter Try.func32, Try.ntmps32
  go_wp2_with fail
  refine (impl_IsCond _ A n c kd op vl H.out).mono ?_; rintro e w2 ⟨rfl, b2⟩
  rw [hC]
  have B2 := Lib.hid b2
  clear b2
  go_wp2_with fail
  go_ret2
  exact ⟨none, 0, rfl, OwnV.nil _ _ _ _ _, B2.out⟩
set_option maxRecDepth 20000 in
theorem impl_NegateCond_yes (w : World) (A : Option Addr) (n c : Nat) (kd : Nat → Int) (op vl : Nat → ByteArray) (h : CondNodeF w A n c kd op vl) (hC : isCondB kd op vl n = true) {t : Cnd} (hs : Sub kd op vl 0 n t) :
    Calls Try.prog 32 #[.slice A n c] w (NegRet w (negOf t) (negOk t)) := by
  have H := Lib.hid h
  clear h
  have hn30 := isCondB_le hC
  have hl := hs.lt
  obtain ⟨i, hi⟩ : ∃ i, n = i + 1 := ⟨n - 1, by omega⟩
  have hn1 : i < n := by omega
  have hs' : Sub kd op vl 0 (i + 1) t := by rw [← hi]; exact hs
  have hi1 : (n : Int) - 1 = (i : Int) := by omega
  have CALL := Lib.hid (fun (W : World) (hW : CondNodeF W A n c kd op vl) => impl_neg A n c kd op vl hn30 (kinds_of hC) (texts_of hC) t hs' hn1 true W hW)
  have hlen := hs.negLen true
  have e1 : (t.neg true).length ≤ 30 → negOf t = t.neg true ∧ negOk t = true := fun h => ⟨by unfold negOf; rw [if_pos h], by unfold negOk; simpa using h⟩
  have e2 : ¬ (t.neg true).length ≤ 30 → negOf t = [] ∧ negOk t = false := fun h => ⟨by unfold negOf; rw [if_neg h], by unfold negOk; simpa using h⟩
  clear hs hs' hi hl hn1
  generalize t.neg true = L at *
  have hL60 : L.length ≤ 60 := by omega
  by_cases hb : L.length ≤ 30
  · obtain ⟨q1, q2⟩ := e1 hb
    rw [q1, q2]
    have hgt : ¬ (30 : Int) < (L.length : Int) := by omega
    clear e1 e2 q1 q2 hb
    go_enter Try.func32, Try.ntmps32
    go_wp2_with fail
    refine (impl_IsCond _ A n c kd op vl H.out).mono ?_; rintro e w2 ⟨rfl, b2⟩
    rw [hC]
    have B2 := Lib.hid b2
    have H2 := Lib.hid (H.out.call b2)
    clear b2
    go_wp2_with fail
    refine (CALL.out _ H2.out).mono ?_; rintro e w3 ⟨v, rfl, o3, b3⟩
    obtain ⟨g3, c3, rfl⟩ := o3.formN (by omega)
    have O3 := Lib.hid (o3.base B2.out.size)
    have B3 := Lib.hid (B2.out.trans (b3.mono B2.out.size))
    clear o3 b3
    go_wp2_with fail
    go_ret2
    exact ⟨_, _, rfl, O3.out, B3.out⟩
  · obtain ⟨q1, q2⟩ := e2 hb
    rw [q1, q2]
    have hgt : (30 : Int) < (L.length : Int) := by omega
    clear e1 e2 q1 q2 hb
    go_enter Try.func32, Try.ntmps32
    go_wp2_with fail
    refine (impl_IsCond _ A n c kd op vl H.out).mono ?_; rintro e w2 ⟨rfl, b2⟩
    rw [hC]
    have B2 := Lib.hid b2
    have H2 := Lib.hid (H.out.call b2)
    clear b2
    go_wp2_with fail
    refine (CALL.out _ H2.out).mono ?_; rintro e w3 ⟨v, rfl, o3, b3⟩
    obtain ⟨g3, c3, rfl⟩ := o3.formN (by omega)
    have B3 := Lib.hid (B2.out.trans (b3.mono B2.out.size))
    clear o3 b3
    go_wp2_with fail
    go_ret2
    exact ⟨none, 0, rfl, OwnV.nil _ _ _ _ _, B3.out⟩
theorem spec_NegateCond_no (w : World) (A : Option Addr) (n c : Nat) (kd : Nat → Int) (op vl : Nat → ByteArray) (h : CondNodeF w A n c kd op vl) (hC : isCondB kd op vl n = false) :
    Calls Try.prog 31 #[.slice A n c] w (NegRet w [] false) := by
  have H := Lib.hid h
  clear h
  go_enter Try.func31, Try.ntmps31
  go_wp2_with fail
  refine (spec_IsCond _ A n c kd op vl H.out).mono ?_; rintro e w2 ⟨rfl, b2⟩
  rw [hC]
  have B2 := Lib.hid b2
  clear b2
  go_wp2_with fail
  go_ret2
  exact ⟨some ⟨w2.heap.size, 0, none⟩, 0, rfl, OwnV.lit _ B2.out.size _ 3 0 #[] _ (by simp [flat]) (by omega), B2.out.alloc B2.out.size _⟩
set_option maxRecDepth 20000 in
theorem spec_NegateCond_yes (w : World) (A : Option Addr) (n c : Nat) (kd : Nat → Int) (op vl : Nat → ByteArray) (h : CondNodeF w A n c kd op vl) (hC : isCondB kd op vl n = true) {t : Cnd} (hs : Sub kd op vl 0 n t) :
    Calls Try.prog 31 #[.slice A n c] w (NegRet w (negOf t) (negOk t)) := by
  have H := Lib.hid h
  clear h
  have hn30 := isCondB_le hC
  have hl := hs.lt
  obtain ⟨i, hi⟩ : ∃ i, n = i + 1 := ⟨n - 1, by omega⟩
  have hn1 : i < n := by omega
  have hs' : Sub kd op vl 0 (i + 1) t := by rw [← hi]; exact hs
  have hi1 : (n : Int) - 1 = (i : Int) := by omega
  have CALL := Lib.hid (fun (W : World) (hW : CondNodeF W A n c kd op vl) => spec_neg A n c kd op vl hn30 (kinds_of hC) (texts_of hC) t hs' hn1 true W hW)
  have hlen := hs.negLen true
  have e1 : (t.neg true).length ≤ 30 → negOf t = t.neg true ∧ negOk t = true := fun h => ⟨by unfold negOf; rw [if_pos h], by unfold negOk; simpa using h⟩
  have e2 : ¬ (t.neg true).length ≤ 30 → negOf t = [] ∧ negOk t = false := fun h => ⟨by unfold negOf; rw [if_neg h], by unfold negOk; simpa using h⟩
  clear hs hs' hi hl hn1
  generalize t.neg true = L at *
  have hL60 : L.length ≤ 60 := by omega
  by_cases hb : L.length ≤ 30
  · obtain ⟨q1, q2⟩ := e1 hb
    rw [q1, q2]
    have hgt : ¬ (30 : Int) < (L.length : Int) := by omega
    clear e1 e2 q1 q2 hb
    go_enter Try.func31, Try.ntmps31
    go_wp2_with fail
    refine (spec_IsCond _ A n c kd op vl H.out).mono ?_; rintro e w2 ⟨rfl, b2⟩
    rw [hC]
    have B2 := Lib.hid b2
    have H2 := Lib.hid (H.out.call b2)
    clear b2
    go_wp2_with fail
    refine (CALL.out _ H2.out).mono ?_; rintro e w3 ⟨v, rfl, o3, b3⟩
    obtain ⟨g3, c3, rfl⟩ := o3.formN (by omega)
    have O3 := Lib.hid (o3.base B2.out.size)
    have B3 := Lib.hid (B2.out.trans (b3.mono B2.out.size))
    clear o3 b3
    go_wp2_with fail
    go_ret2
    exact ⟨_, _, rfl, O3.out, B3.out⟩
  · obtain ⟨q1, q2⟩ := e2 hb
    rw [q1, q2]
    have hgt : (30 : Int) < (L.length : Int) := by omega
    clear e1 e2 q1 q2 hb
    go_enter Try.func31, Try.ntmps31
    go_wp2_with fail
    refine (spec_IsCond _ A n c kd op vl H.out).mono ?_; rintro e w2 ⟨rfl, b2⟩
    rw [hC]
    have B2 := Lib.hid b2
    have H2 := Lib.hid (H.out.call b2)
    clear b2
    go_wp2_with fail
    refine (CALL.out _ H2.out).mono ?_; rintro e w3 ⟨v, rfl, o3, b3⟩
    obtain ⟨g3, c3, rfl⟩ := o3.formN (by omega)
    have B3 := Lib.hid (B2.out.trans (b3.mono B2.out.size))
    clear o3 b3
    go_wp2_with fail
    go_ret2
    exact ⟨some ⟨w3.heap.size, 0, none⟩, 0, rfl, OwnV.lit _ B3.out.size _ 3 0 #[] _ (by simp [flat]) (by omega), B3.out.alloc B3.out.size _⟩
/-- cells that hold marks are held -/
theorem heldCondNodeS_yes (w : World) (A : Option Addr) (n cap : Nat) (k : Int) (h : SliceF w A n cap 3 (condNodeM k)) (hn : n ≤ 1048577) (hk0 : 1 ≤ k) (hk : k ≤ 1000000000) :
    Calls Try.prog 33 #[.slice A n cap, .int .i64 k] w fun e w' => e = .returned (.int .i64 (k + 3 * (n : Int))) ∧ Below w.heap.size w w' := by
  have H := Lib.hid h
  clear h
  go_enter Try.func33, Try.ntmps33
  go_wp2_with fail
  go_loopw [1, 5] (fun q i wr => ∃ j : Nat, j ≤ n ∧ i = .int .i64 (j : Int) ∧ q = .int .i64 (k + 3 * (j : Int)) ∧ Below w.heap.size w wr) (fun _ i _ => n - (intOf i).toNat)
  case atStart => exact ⟨0, Nat.zero_le _, rfl, by simp, Below.refl _ _⟩
  case round =>
    obtain ⟨j, hj, rfl, rfl, hbe⟩ := hrel
    have BE := Lib.hid hbe
    clear hbe
    by_cases hlt : j < n
    · have hlt' : (j : Int) < (n : Int) := by omega
      obtain ⟨m, hm⟩ : ∃ m : Int, m = k + 3 * (j : Int) := ⟨_, rfl⟩
      obtain ⟨b, o, rfl, hB, hc⟩ := (H.out.call BE.out).cell j hlt
      have c0 := hc 0 (by omega)
      have c1 := hc 1 (by omega)
      have c2 := hc 2 (by omega)
      have d0 : condNodeM k j 0 = .int .i64 m := by rw [hm]; simp [condNodeM]
      have d1 : condNodeM k j 1 = .string (markB (m + 1).toNat) := by rw [hm]; simp [condNodeM]
      have d2 : condNodeM k j 2 = .string (markB (m + 1 + 1).toNat) := by rw [hm]; simp [condNodeM, Int.add_assoc]
      rw [d0, Nat.add_zero] at c0
      rw [d1] at c1
      rw [d2] at c2
      rw [← hm]
      have hm0 : 1 ≤ m := by omega
      have hm1 : m ≤ 10000000000 := by omega
      have HM := Lib.hid hm
      have hx1 : ((markB (m + 1).toNat).toList != (markB (m + 1).toNat).toList) = false := by simp
      have hx2 : ((markB (m + 1 + 1).toNat).toList != (markB (m + 1 + 1).toNat).toList) = false := by simp
      clear hm hc d0 d1 d2
      have hme : (m != m) = false := by simp
      have z1 := fun d os => cell_regrown c1 d os
      go_wp2_with fail
      refine wp_region_quiet_below (by kernel_rfl) (by kernel_rfl) ?_
      repeat (first | go_big_quiet_step ((go_at_call 60; exact Calls.regrown_of (markText_int_condNode _ _ (by omega) (by omega)))) | quiet_step ((go_at_call 60; exact Calls.regrown_of (markText_int_condNode _ _ (by omega) (by omega)))))
      refine wpQuiet_nil ?_
      intro _ hw'
      obtain ⟨⟨dqa, osqa⟩, hw''⟩ := hw'
      subst hw''
      have B1 := Lib.hid (BE.out.trans ((below_regrown wr dqa osqa).mono BE.out.size))
      obtain ⟨W1, hW1⟩ : ∃ W1, W1 = grow (redrawn wr dqa) osqa := ⟨_, rfl⟩
      rw [← hW1] at B1
      have HW := Lib.hid hW1
      have e2 : W1.cell? ⟨b, o + j * 3 + 2, none⟩ = some (.string (markB (m + 1 + 1).toNat)) := by rw [hW1]; exact cell_regrown c2 _ _
      clear hW1 z1 c0 c1 c2
      rw [← HW.out]
      clear HW
      have z2 := fun d os => cell_regrown e2 d os
      go_wp2_with fail
      refine wp_region_quiet_below (by kernel_rfl) (by kernel_rfl) ?_
      repeat (first | go_big_quiet_step ((go_at_call 60; exact Calls.regrown_of (markText_int_condNode _ _ (by omega) (by omega)))) | quiet_step ((go_at_call 60; exact Calls.regrown_of (markText_int_condNode _ _ (by omega) (by omega)))))
      refine wpQuiet_nil ?_
      intro _ hw'
      obtain ⟨⟨dqb, osqb⟩, hw''⟩ := hw'
      subst hw''
      have B2 := Lib.hid (B1.out.trans ((below_regrown W1 dqb osqb).mono B1.out.size))
      go_wp2_with fail
      go_roundw
      case rel => exact ⟨j + 1, by omega, by go_num, by have := HM.out; go_num, B2.out⟩
      case measure => simp [intOf]; omega
    · obtain rfl : j = n := by omega
      go_wp2_with fail
      go_ret
      exact ⟨rfl, BE.out⟩
theorem row_own3 {B g n cap : Nat} {w : World} {T : TypeId} {F : Nat → Nat → Value} (h : OwnV B w T 3 (.slice (some ⟨g, 0, none⟩) n cap) n F) : Row w g T (n * 3) (fun i => F (i / 3) (i % 3)) := by
  obtain ⟨cs, hh, hs, hn, ht⟩ := row_ownS h.own
  have hle : n * 3 ≤ cap * 3 := Nat.mul_le_mul_right _ hn
  refine ⟨cs, hh, by omega, fun i hi => ?_⟩
  have h1 : (cs.toList.take (n * 3))[i]? = (flat 3 F n)[i]? := by rw [ht]
  rw [List.getElem?_take, if_pos hi, flat_get hi] at h1
  simpa using h1
/-- marks written into nodes of the call's own -/
theorem markOwn (w : World) (B : Nat) (A : Option Addr) (n cap : Nat) (F : Nat → Nat → Value) (h : OwnV B w 54 3 (.slice A n cap) n F) (hn : n ≤ 1048577) :
    Calls Try.prog 21 #[.slice A n cap, .int .i64 1] w fun e w' => e = .returned (.int .i64 (1 + 3 * (n : Int))) ∧ SliceF w' A n cap 3 (condNodeM 1) ∧ w.grownBy w' (Value.slice A n cap).ownBlock := by
  by_cases h0 : n = 0
  · subst h0
    obtain ⟨A2, c2, e, hS, _⟩ := h.slice
    injection e with _ _ e3
    refine (markCondNodeS_nil w A cap 1).mono ?_
    rintro e w' ⟨rfl, hw⟩
    subst hw
    exact ⟨rfl, SliceF.empty _ _ _ (by rw [e3]; exact hS.max) _ _, ⟨rfl, rfl, rfl, Nat.le_refl _, fun _ _ _ => rfl⟩⟩
  · obtain ⟨g, c2, e⟩ := h.formN (by omega)
    injection e with e1 e2 e3
    subst e1
    have hcap : n ≤ cap ∧ cap ≤ 9223372036854775807 := by
      obtain ⟨A2, c3, e, hS, _⟩ := h.slice
      injection e with _ _ e4
      rw [e4]; exact ⟨hS.le, hS.max⟩
    refine (markCondNodeS_any w g n cap 1 _ (row_own3 h) hn hcap.1 (by omega) (by omega)).mono ?_
    rintro e w' ⟨rfl, r, gr⟩
    refine ⟨rfl, SliceF.of_row r hcap.2 hcap.1 (fun j q hj hq => ?_), gr⟩
    have d1 : (j * 3 + q) / 3 = j := by omega
    have d2 : (j * 3 + q) % 3 = q := by omega
    show condNodeM 1 ((j * 3 + q) / 3) ((j * 3 + q) % 3) = _
    rw [d1, d2]
end Go.Proofs.Ytkkhaamklbolmaa
