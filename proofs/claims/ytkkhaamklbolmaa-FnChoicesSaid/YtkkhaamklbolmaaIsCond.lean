/-
  Conditions: what is one; contracts of the reference's and the program's IsCond. (Printed by gen/iscond.py.)
-/
import Derived.Test.YtkkhaamklbolmaaCondNode
import Derived.Test.YtkkhaamklbolmaaCode
namespace Go.Proofs.Ytkkhaamklbolmaa
open Go.RowKit
set_option linter.unusedVariables false
set_option linter.unusedSimpArgs false

/-- a node's texts fit its kind -/
def okN (kd : Int) (op vl : ByteArray) : Bool := if kd = 1 then isC op && isC vl else decide (op.size = 0) && decide (vl.size = 0)
/-- how many conditions stand behind a node of this kind -/
def stepN (kd : Int) (h : Nat) : Option Nat := if kd = 0 ∨ kd = 1 then some (h + 1) else if kd = 2 then (if 1 ≤ h then some h else none) else if kd = 3 ∨ kd = 4 then (if 2 ≤ h then some (h - 1) else none) else none
def runN (kd : Nat → Int) (op vl : Nat → ByteArray) : Nat → Option Nat
  | 0 => some 0
  | k + 1 => match runN kd op vl k with
    | none => none
    | some h => if okN (kd k) (op k) (vl k) = true then stepN (kd k) h else none
def isCondB (kd : Nat → Int) (op vl : Nat → ByteArray) (n : Nat) : Bool := decide (n ≤ 30) && decide (runN kd op vl n = some 1)
section
variable {kd : Nat → Int} {op vl : Nat → ByteArray}
theorem runN_none {k n : Nat} (h : runN kd op vl k = none) (hk : k ≤ n) : runN kd op vl n = none := by
  induction n with
  | zero => obtain rfl : k = 0 := by omega
            exact h
  | succ n ih =>
    by_cases e : k = n + 1
    · subst e; exact h
    · simp only [runN, ih (by omega)]
theorem runN_bad {k n h : Nat} (hr : runN kd op vl k = some h) (hk : k < n) (hb : okN (kd k) (op k) (vl k) = false ∨ stepN (kd k) h = none) : isCondB kd op vl n = false := by
  have e : runN kd op vl (k + 1) = none := by
    simp only [runN, hr]
    rcases hb with hb | hb
    · rw [hb]; simp
    · rw [hb]; simp
  have e2 := runN_none e (show k + 1 ≤ n by omega)
  unfold isCondB
  rw [e2]; simp
theorem runN_ok {k h h' : Nat} (hr : runN kd op vl k = some h) (ho : okN (kd k) (op k) (vl k) = true) (hs : stepN (kd k) h = some h') : runN kd op vl (k + 1) = some h' := by
  simp only [runN, hr, ho, hs, if_true]
theorem runN_le : ∀ {k h : Nat}, runN kd op vl k = some h → h ≤ k
  | 0, h, e => by simp [runN] at e; omega
  | k + 1, h, e => by
    cases hr : runN kd op vl k with
    | none => simp [runN, hr] at e
    | some g =>
      have ih := runN_le hr
      simp only [runN, hr] at e
      split at e
      · unfold stepN at e
        split at e
        · injection e; omega
        · split at e
          · split at e
            · injection e; omega
            · cases e
          · split at e
            · split at e
              · injection e; omega
              · cases e
            · cases e
      · cases e
theorem isCondB_end {n h : Nat} (hr : runN kd op vl n = some h) (hn : n ≤ 30) : isCondB kd op vl n = decide ((h : Int) = 1) := by
  unfold isCondB
  rw [hr]
  by_cases e : h = 1
  · subst e; simp [hn]
  · have : ¬ (h : Int) = 1 := by omega
    simp [e, this]
theorem isCondB_big {n : Nat} (hn : ¬ n ≤ 30) : isCondB kd op vl n = false := by unfold isCondB; simp [hn]
end
theorem emp_size (s : ByteArray) : s.toList.isEmpty = decide (s.size = 0) := by
  have e : s.size = s.data.toList.length := (Array.length_toList (xs := s.data)).symm
  rw [ByteArray.toList_eq, e]
  cases s.data.toList <;> simp
theorem okN_txt {K : Int} (hK : K ≠ 1) (a b : ByteArray) : okN K a b = (a.toList.isEmpty && b.toList.isEmpty) := by
  unfold okN; rw [if_neg hK, emp_size, emp_size]
theorem okN_one (a b : ByteArray) : okN 1 a b = (isC a && isC b) := by unfold okN; rw [if_pos rfl]

/-- how many operands -/
def arity (K : Int) : Int := if K = 0 ∨ K = 1 then 0 else if K = 2 then 1 else if K = 3 ∨ K = 4 then 2 else -1
theorem operands_any (K : Int) (w : World) : Calls Try.prog 55 #[.int .i64 K] w fun e w' => e = .returned (.int .i64 (arity K)) ∧ w' = w := by
  by_cases k0 : K = 0
  · subst k0
    go_enter Try.func55, Try.ntmps55
    go_wp2_with fail
    go_ret
    exact ⟨rfl, rfl⟩
  by_cases k1 : K = 1
  · subst k1
    go_enter Try.func55, Try.ntmps55
    go_wp2_with fail
    go_ret
    exact ⟨rfl, rfl⟩
  by_cases k2 : K = 2
  · subst k2
    go_enter Try.func55, Try.ntmps55
    go_wp2_with fail
    go_ret
    exact ⟨rfl, rfl⟩
  by_cases k3 : K = 3
  · subst k3
    go_enter Try.func55, Try.ntmps55
    go_wp2_with fail
    go_ret
    exact ⟨rfl, rfl⟩
  by_cases k4 : K = 4
  · subst k4
    go_enter Try.func55, Try.ntmps55
    go_wp2_with fail
    go_ret
    exact ⟨rfl, rfl⟩
  have q0 : (K == 0) = false := by simp [k0]
  have q1 : (K == 1) = false := by simp [k1]
  have q2 : (K == 2) = false := by simp [k2]
  have q3 : (K == 3) = false := by simp [k3]
  have q4 : (K == 4) = false := by simp [k4]
  have e : arity K = -1 := by unfold arity; rw [if_neg (by omega), if_neg (by omega), if_neg (by omega)]
  rw [e]
  go_enter Try.func55, Try.ntmps55
  go_wp2_with fail
  go_ret
  exact ⟨rfl, rfl⟩
theorem operands_none (K : Int) (w : World) (k0 : ¬ K = 0) (k1 : ¬ K = 1) (k2 : ¬ K = 2) (k3 : ¬ K = 3) (k4 : ¬ K = 4) : Calls Try.prog 55 #[.int .i64 K] w fun e w' => e = .returned (.int .i64 (-1)) ∧ w' = w := by
  have e : arity K = -1 := by unfold arity; rw [if_neg (by omega), if_neg (by omega), if_neg (by omega)]
  rw [← e]; exact operands_any K w
theorem arity0 : arity 0 = 0 := rfl
theorem arity1 : arity 1 = 0 := rfl
theorem arity2 : arity 2 = 1 := rfl
theorem arity3 : arity 3 = 2 := rfl
theorem arity4 : arity 4 = 2 := rfl
set_option maxRecDepth 20000 in
set_option maxHeartbeats 4000000 in
theorem spec_IsCond (w : World) (A : Option Addr) (n c : Nat) (kd : Nat → Int) (op vl : Nat → ByteArray) (h : CondNodeF w A n c kd op vl) :
    Calls Try.prog 14 #[.slice A n c] w fun e w' => e = .returned (.bool (isCondB kd op vl n)) ∧ Below w.heap.size w w' := by
  have hm := h.le
  have H := Lib.hid h
  clear h
  obtain ⟨Q, hQ⟩ : ∃ Q, Q = isCondB kd op vl n := ⟨_, rfl⟩
  have HQ := Lib.hid hQ
  rw [← hQ]
  clear hQ
  by_cases hbig : 30 < n
  · have hb : ¬ (n : Int) ≤ 30 := by omega
    have e := isCondB_big (kd := kd) (op := op) (vl := vl) (show ¬ n ≤ 30 by omega)
    have E := Lib.hid e
    have hn0 : (0 : Int) < (n : Int) := by omega
    clear e hbig
    go_enter Try.func14, Try.ntmps14
    go_wp2_with fail
    go_loopw [3, 4, 5] (fun nv iv _ wr => nv = .int .i64 0 ∧ iv = .int .i64 0 ∧ wr = w) (fun _ _ _ _ => 0)
    case atStart => exact ⟨rfl, rfl, rfl⟩
    case round =>
      obtain ⟨rfl, rfl, rfl⟩ := hrel
      go_wp2_with fail
      go_ret
      exact ⟨by rw [HQ.out, E.out]; rfl, Below.refl _ _⟩
  have hb : (n : Int) ≤ 30 := by omega
  have h30 : n ≤ 30 := by omega
  go_enter Try.func14, Try.ntmps14
  go_wp2_with fail
  go_loopw [3, 4, 5] (fun nv iv _ wr => ∃ k h : Nat, nv = .int .i64 (h : Int) ∧ iv = .int .i64 (k : Int) ∧ k ≤ n ∧ runN kd op vl k = some h ∧ Below w.heap.size w wr) (fun _ iv _ _ => n - (intOf iv).toNat)
  case atStart => exact ⟨0, 0, rfl, rfl, Nat.zero_le _, rfl, Below.refl _ _⟩
  case round =>
    obtain ⟨k, h, rfl, rfl, hk, hrun, hbe⟩ := hrel
    have hh := runN_le hrun
    have HRUN := Lib.hid hrun
    have BE := Lib.hid hbe
    clear hrun hbe
    by_cases hlt : k < n
    case neg =>
      obtain rfl : k = n := by omega
      have e := isCondB_end HRUN.out h30
      have E := Lib.hid e
      clear e
      have hlt' : ¬ (k : Int) < (k : Int) := by omega
      by_cases h1 : h = 1
      · subst h1
        go_wp2_with fail
        go_ret
        exact ⟨by rw [HQ.out, E.out]; rfl, BE.out⟩
      · have e1 : ((h : Int) == 1) = false := by simp; omega
        have e2 : ¬ (h : Int) = 1 := by omega
        go_wp2_with fail
        go_ret
        exact ⟨by rw [HQ.out, E.out]; simp [e2], BE.out⟩
    case pos =>
      have hlt' : (k : Int) < (n : Int) := by omega
      obtain ⟨b, o, rfl, hB, c0, c1, c2⟩ := (H.out.call BE.out).cells hlt
      have z1 := H.out.z_op k hlt
      have z2 := H.out.z_vl k hlt
      have bad := fun hb => HQ.out.trans (runN_bad (n := n) HRUN.out hlt hb)
      have good := fun h' => runN_ok (h' := h') HRUN.out
      obtain ⟨K, hK⟩ : ∃ K, K = kd k := ⟨_, rfl⟩
      obtain ⟨a, ha⟩ : ∃ a, a = op k := ⟨_, rfl⟩
      obtain ⟨d, hd⟩ : ∃ d, d = vl k := ⟨_, rfl⟩
      rw [← hK] at c0 bad good
      rw [← ha] at c1 z1 bad good
      rw [← hd] at c2 z2 bad good
      clear hK ha hd
      have BAD := Lib.hid bad
      have GOOD := Lib.hid good
      clear bad good
      by_cases k0 : K = 0
      · subst k0
        have o1 := okN_txt (K := 0) (by omega) a d
        cases ca : a.toList.isEmpty
        · have O1 := Lib.hid (show okN 0 a d = false by rw [o1, ca]; rfl)
          clear o1
          go_wp2_with fail
          go_ret
          exact ⟨ret_bool (BAD.out (.inl O1.out)).symm, by have h := BE.out; repeat' (first | (with_reducible exact Below.refl _ _) | assumption | (with_reducible refine below_then (by assumption) ?_ ?_) | (with_reducible refine Below.alloc ?_ ?_ _) | (with_reducible refine below_drewN ?_ _) | (with_reducible refine Below.drew ?_) | (with_reducible refine Below.setCell ?_ ?_ _) | (have := h.size; simp at *; omega) | omega | (simp; done) | (simp; omega))⟩
        · cases cd : d.toList.isEmpty
          · have O1 := Lib.hid (show okN 0 a d = false by rw [o1, ca, cd]; rfl)
            clear o1
            go_wp2_with fail
            go_ret
            exact ⟨ret_bool (BAD.out (.inl O1.out)).symm, by have h := BE.out; repeat' (first | (with_reducible exact Below.refl _ _) | assumption | (with_reducible refine below_then (by assumption) ?_ ?_) | (with_reducible refine Below.alloc ?_ ?_ _) | (with_reducible refine below_drewN ?_ _) | (with_reducible refine Below.drew ?_) | (with_reducible refine Below.setCell ?_ ?_ _) | (have := h.size; simp at *; omega) | omega | (simp; done) | (simp; omega))⟩
          · have g := GOOD.out _ (by rw [o1, ca, cd]; rfl) (by unfold stepN; rw [if_pos (by omega)])
            have G := Lib.hid g
            clear g o1
            go_wp2_with fail
            go_roundw
            case rel => exact ⟨k + 1, h + 1, by go_num, by go_num, by omega, G.out, by have h := BE.out; repeat' (first | (with_reducible exact Below.refl _ _) | assumption | (with_reducible refine below_then (by assumption) ?_ ?_) | (with_reducible refine Below.alloc ?_ ?_ _) | (with_reducible refine below_drewN ?_ _) | (with_reducible refine Below.drew ?_) | (with_reducible refine Below.setCell ?_ ?_ _) | (have := h.size; simp at *; omega) | omega | (simp; done) | (simp; omega))⟩
            case measure => simp [intOf]; omega
      by_cases k1 : K = 1
      · subst k1
        have o1 := okN_one a d
        cases ca : isC a
        · have O1 := Lib.hid (show okN 1 a d = false by rw [o1, ca]; rfl)
          clear o1
          go_wp2_with fail
          refine (spec_isCode a _ z1).mono ?_; rintro e w2 ⟨rfl, hw2⟩; obtain rfl := hw2.symm
          rw [ca]
          go_wp2_with fail
          go_ret
          exact ⟨ret_bool (BAD.out (.inl O1.out)).symm, by have h := BE.out; repeat' (first | (with_reducible exact Below.refl _ _) | assumption | (with_reducible refine below_then (by assumption) ?_ ?_) | (with_reducible refine Below.alloc ?_ ?_ _) | (with_reducible refine below_drewN ?_ _) | (with_reducible refine Below.drew ?_) | (with_reducible refine Below.setCell ?_ ?_ _) | (have := h.size; simp at *; omega) | omega | (simp; done) | (simp; omega))⟩
        · cases cd : isC d
          · have O1 := Lib.hid (show okN 1 a d = false by rw [o1, ca, cd]; rfl)
            clear o1
            go_wp2_with fail
            refine (spec_isCode a _ z1).mono ?_; rintro e w2 ⟨rfl, hw2⟩; obtain rfl := hw2.symm
            rw [ca]
            go_wp2_with fail
            refine (spec_isCode d _ z2).mono ?_; rintro e w2 ⟨rfl, hw2⟩; obtain rfl := hw2.symm
            rw [cd]
            go_wp2_with fail
            go_ret
            exact ⟨ret_bool (BAD.out (.inl O1.out)).symm, by have h := BE.out; repeat' (first | (with_reducible exact Below.refl _ _) | assumption | (with_reducible refine below_then (by assumption) ?_ ?_) | (with_reducible refine Below.alloc ?_ ?_ _) | (with_reducible refine below_drewN ?_ _) | (with_reducible refine Below.drew ?_) | (with_reducible refine Below.setCell ?_ ?_ _) | (have := h.size; simp at *; omega) | omega | (simp; done) | (simp; omega))⟩
          · have g := GOOD.out _ (by rw [o1, ca, cd]; rfl) (by unfold stepN; rw [if_pos (by omega)])
            have G := Lib.hid g
            clear g o1
            go_wp2_with fail
            refine (spec_isCode a _ z1).mono ?_; rintro e w2 ⟨rfl, hw2⟩; obtain rfl := hw2.symm
            rw [ca]
            go_wp2_with fail
            refine (spec_isCode d _ z2).mono ?_; rintro e w2 ⟨rfl, hw2⟩; obtain rfl := hw2.symm
            rw [cd]
            go_wp2_with fail
            go_roundw
            case rel => exact ⟨k + 1, h + 1, by go_num, by go_num, by omega, G.out, by have h := BE.out; repeat' (first | (with_reducible exact Below.refl _ _) | assumption | (with_reducible refine below_then (by assumption) ?_ ?_) | (with_reducible refine Below.alloc ?_ ?_ _) | (with_reducible refine below_drewN ?_ _) | (with_reducible refine Below.drew ?_) | (with_reducible refine Below.setCell ?_ ?_ _) | (have := h.size; simp at *; omega) | omega | (simp; done) | (simp; omega))⟩
            case measure => simp [intOf]; omega
      by_cases k2 : K = 2
      · subst k2
        by_cases h1 : h < 1
        · have h1' : (h : Int) < 1 := by omega
          go_wp2_with fail
          go_ret
          exact ⟨ret_bool (BAD.out (.inr (by unfold stepN; rw [if_neg (by omega), if_pos rfl, if_neg (by omega)]))).symm, by have h := BE.out; repeat' (first | (with_reducible exact Below.refl _ _) | assumption | (with_reducible refine below_then (by assumption) ?_ ?_) | (with_reducible refine Below.alloc ?_ ?_ _) | (with_reducible refine below_drewN ?_ _) | (with_reducible refine Below.drew ?_) | (with_reducible refine Below.setCell ?_ ?_ _) | (have := h.size; simp at *; omega) | omega | (simp; done) | (simp; omega))⟩
        · have h1' : ¬ (h : Int) < 1 := by omega
          have o1 := okN_txt (K := 2) (by omega) a d
          cases ca : a.toList.isEmpty
          · have O1 := Lib.hid (show okN 2 a d = false by rw [o1, ca]; rfl)
            clear o1
            go_wp2_with fail
            go_ret
            exact ⟨ret_bool (BAD.out (.inl O1.out)).symm, by have h := BE.out; repeat' (first | (with_reducible exact Below.refl _ _) | assumption | (with_reducible refine below_then (by assumption) ?_ ?_) | (with_reducible refine Below.alloc ?_ ?_ _) | (with_reducible refine below_drewN ?_ _) | (with_reducible refine Below.drew ?_) | (with_reducible refine Below.setCell ?_ ?_ _) | (have := h.size; simp at *; omega) | omega | (simp; done) | (simp; omega))⟩
          · cases cd : d.toList.isEmpty
            · have O1 := Lib.hid (show okN 2 a d = false by rw [o1, ca, cd]; rfl)
              clear o1
              go_wp2_with fail
              go_ret
              exact ⟨ret_bool (BAD.out (.inl O1.out)).symm, by have h := BE.out; repeat' (first | (with_reducible exact Below.refl _ _) | assumption | (with_reducible refine below_then (by assumption) ?_ ?_) | (with_reducible refine Below.alloc ?_ ?_ _) | (with_reducible refine below_drewN ?_ _) | (with_reducible refine Below.drew ?_) | (with_reducible refine Below.setCell ?_ ?_ _) | (have := h.size; simp at *; omega) | omega | (simp; done) | (simp; omega))⟩
            · have g := GOOD.out _ (by rw [o1, ca, cd]; rfl) (by unfold stepN; rw [if_neg (by omega), if_pos rfl, if_pos (by omega)])
              have G := Lib.hid g
              clear g o1
              go_wp2_with fail
              go_roundw
              case rel => exact ⟨k + 1, h, by go_num, by go_num, by omega, G.out, by have h := BE.out; repeat' (first | (with_reducible exact Below.refl _ _) | assumption | (with_reducible refine below_then (by assumption) ?_ ?_) | (with_reducible refine Below.alloc ?_ ?_ _) | (with_reducible refine below_drewN ?_ _) | (with_reducible refine Below.drew ?_) | (with_reducible refine Below.setCell ?_ ?_ _) | (have := h.size; simp at *; omega) | omega | (simp; done) | (simp; omega))⟩
              case measure => simp [intOf]; omega
      by_cases k3 : K = 3
      · subst k3
        by_cases h1 : h < 2
        · have h1' : (h : Int) < 2 := by omega
          have h2' : (h : Int) - 1 < 1 := by omega
          go_wp2_with fail
          go_ret
          exact ⟨ret_bool (BAD.out (.inr (by unfold stepN; rw [if_neg (by omega), if_neg (by omega), if_pos (by omega), if_neg (by omega)]))).symm, by have h := BE.out; repeat' (first | (with_reducible exact Below.refl _ _) | assumption | (with_reducible refine below_then (by assumption) ?_ ?_) | (with_reducible refine Below.alloc ?_ ?_ _) | (with_reducible refine below_drewN ?_ _) | (with_reducible refine Below.drew ?_) | (with_reducible refine Below.setCell ?_ ?_ _) | (have := h.size; simp at *; omega) | omega | (simp; done) | (simp; omega))⟩
        · have h1' : ¬ (h : Int) < 2 := by omega
          have h2' : ¬ (h : Int) - 1 < 1 := by omega
          have o1 := okN_txt (K := 3) (by omega) a d
          cases ca : a.toList.isEmpty
          · have O1 := Lib.hid (show okN 3 a d = false by rw [o1, ca]; rfl)
            clear o1
            go_wp2_with fail
            go_ret
            exact ⟨ret_bool (BAD.out (.inl O1.out)).symm, by have h := BE.out; repeat' (first | (with_reducible exact Below.refl _ _) | assumption | (with_reducible refine below_then (by assumption) ?_ ?_) | (with_reducible refine Below.alloc ?_ ?_ _) | (with_reducible refine below_drewN ?_ _) | (with_reducible refine Below.drew ?_) | (with_reducible refine Below.setCell ?_ ?_ _) | (have := h.size; simp at *; omega) | omega | (simp; done) | (simp; omega))⟩
          · cases cd : d.toList.isEmpty
            · have O1 := Lib.hid (show okN 3 a d = false by rw [o1, ca, cd]; rfl)
              clear o1
              go_wp2_with fail
              go_ret
              exact ⟨ret_bool (BAD.out (.inl O1.out)).symm, by have h := BE.out; repeat' (first | (with_reducible exact Below.refl _ _) | assumption | (with_reducible refine below_then (by assumption) ?_ ?_) | (with_reducible refine Below.alloc ?_ ?_ _) | (with_reducible refine below_drewN ?_ _) | (with_reducible refine Below.drew ?_) | (with_reducible refine Below.setCell ?_ ?_ _) | (have := h.size; simp at *; omega) | omega | (simp; done) | (simp; omega))⟩
            · have g := GOOD.out _ (by rw [o1, ca, cd]; rfl) (by unfold stepN; rw [if_neg (by omega), if_neg (by omega), if_pos (by omega), if_pos (by omega)])
              have G := Lib.hid g
              clear g o1
              go_wp2_with fail
              go_roundw
              case rel => exact ⟨k + 1, h - 1, by go_num, by go_num, by omega, G.out, by have h := BE.out; repeat' (first | (with_reducible exact Below.refl _ _) | assumption | (with_reducible refine below_then (by assumption) ?_ ?_) | (with_reducible refine Below.alloc ?_ ?_ _) | (with_reducible refine below_drewN ?_ _) | (with_reducible refine Below.drew ?_) | (with_reducible refine Below.setCell ?_ ?_ _) | (have := h.size; simp at *; omega) | omega | (simp; done) | (simp; omega))⟩
              case measure => simp [intOf]; omega
      by_cases k4 : K = 4
      · subst k4
        by_cases h1 : h < 2
        · have h1' : (h : Int) < 2 := by omega
          have h2' : (h : Int) - 1 < 1 := by omega
          go_wp2_with fail
          go_ret
          exact ⟨ret_bool (BAD.out (.inr (by unfold stepN; rw [if_neg (by omega), if_neg (by omega), if_pos (by omega), if_neg (by omega)]))).symm, by have h := BE.out; repeat' (first | (with_reducible exact Below.refl _ _) | assumption | (with_reducible refine below_then (by assumption) ?_ ?_) | (with_reducible refine Below.alloc ?_ ?_ _) | (with_reducible refine below_drewN ?_ _) | (with_reducible refine Below.drew ?_) | (with_reducible refine Below.setCell ?_ ?_ _) | (have := h.size; simp at *; omega) | omega | (simp; done) | (simp; omega))⟩
        · have h1' : ¬ (h : Int) < 2 := by omega
          have h2' : ¬ (h : Int) - 1 < 1 := by omega
          have o1 := okN_txt (K := 4) (by omega) a d
          cases ca : a.toList.isEmpty
          · have O1 := Lib.hid (show okN 4 a d = false by rw [o1, ca]; rfl)
            clear o1
            go_wp2_with fail
            go_ret
            exact ⟨ret_bool (BAD.out (.inl O1.out)).symm, by have h := BE.out; repeat' (first | (with_reducible exact Below.refl _ _) | assumption | (with_reducible refine below_then (by assumption) ?_ ?_) | (with_reducible refine Below.alloc ?_ ?_ _) | (with_reducible refine below_drewN ?_ _) | (with_reducible refine Below.drew ?_) | (with_reducible refine Below.setCell ?_ ?_ _) | (have := h.size; simp at *; omega) | omega | (simp; done) | (simp; omega))⟩
          · cases cd : d.toList.isEmpty
            · have O1 := Lib.hid (show okN 4 a d = false by rw [o1, ca, cd]; rfl)
              clear o1
              go_wp2_with fail
              go_ret
              exact ⟨ret_bool (BAD.out (.inl O1.out)).symm, by have h := BE.out; repeat' (first | (with_reducible exact Below.refl _ _) | assumption | (with_reducible refine below_then (by assumption) ?_ ?_) | (with_reducible refine Below.alloc ?_ ?_ _) | (with_reducible refine below_drewN ?_ _) | (with_reducible refine Below.drew ?_) | (with_reducible refine Below.setCell ?_ ?_ _) | (have := h.size; simp at *; omega) | omega | (simp; done) | (simp; omega))⟩
            · have g := GOOD.out _ (by rw [o1, ca, cd]; rfl) (by unfold stepN; rw [if_neg (by omega), if_neg (by omega), if_pos (by omega), if_pos (by omega)])
              have G := Lib.hid g
              clear g o1
              go_wp2_with fail
              go_roundw
              case rel => exact ⟨k + 1, h - 1, by go_num, by go_num, by omega, G.out, by have h := BE.out; repeat' (first | (with_reducible exact Below.refl _ _) | assumption | (with_reducible refine below_then (by assumption) ?_ ?_) | (with_reducible refine Below.alloc ?_ ?_ _) | (with_reducible refine below_drewN ?_ _) | (with_reducible refine Below.drew ?_) | (with_reducible refine Below.setCell ?_ ?_ _) | (have := h.size; simp at *; omega) | omega | (simp; done) | (simp; omega))⟩
              case measure => simp [intOf]; omega
      have q0 : (K == 0) = false := by simp [k0]
      have q1 : (K == 1) = false := by simp [k1]
      have q2 : (K == 2) = false := by simp [k2]
      have q3 : (K == 3) = false := by simp [k3]
      have q4 : (K == 4) = false := by simp [k4]
      go_wp2_with fail
      go_ret
      exact ⟨ret_bool (BAD.out (.inr (by unfold stepN; rw [if_neg (by omega), if_neg (by omega), if_neg (by omega)]))).symm, by have h := BE.out; repeat' (first | (with_reducible exact Below.refl _ _) | assumption | (with_reducible refine below_then (by assumption) ?_ ?_) | (with_reducible refine Below.alloc ?_ ?_ _) | (with_reducible refine below_drewN ?_ _) | (with_reducible refine Below.drew ?_) | (with_reducible refine Below.setCell ?_ ?_ _) | (have := h.size; simp at *; omega) | omega | (simp; done) | (simp; omega))⟩
set_option maxRecDepth 20000 in
set_option maxHeartbeats 4000000 in
theorem impl_IsCond (w : World) (A : Option Addr) (n c : Nat) (kd : Nat → Int) (op vl : Nat → ByteArray) (h : CondNodeF w A n c kd op vl) :
    Calls Try.prog 16 #[.slice A n c] w fun e w' => e = .returned (.bool (isCondB kd op vl n)) ∧ Below w.heap.size w w' := by
  have hm := h.le
  have H := Lib.hid h
  clear h
  obtain ⟨Q, hQ⟩ : ∃ Q, Q = isCondB kd op vl n := ⟨_, rfl⟩
  have HQ := Lib.hid hQ
  rw [← hQ]
  clear hQ
  by_cases hbig : 30 < n
  · have hb : (30 : Int) < (n : Int) := by omega
    have e := isCondB_big (kd := kd) (op := op) (vl := vl) (show ¬ n ≤ 30 by omega)
    have E := Lib.hid e
    clear e hbig
    go_enter Try.func16, Try.ntmps16
    go_wp2_with fail
    go_ret
    exact ⟨by rw [HQ.out, E.out]; rfl, Below.refl _ _⟩
  have hb : ¬ (30 : Int) < (n : Int) := by omega
  have h30 : n ≤ 30 := by omega
  go_enter Try.func16, Try.ntmps16
  go_wp2_with fail
  go_loopw [3, 5, 6, 12] (fun nv _ _ iv wr => ∃ k h : Nat, nv = .int .i64 (h : Int) ∧ iv = .int .i64 (k : Int) ∧ k ≤ n ∧ runN kd op vl k = some h ∧ Below w.heap.size w wr) (fun _ _ _ iv _ => n - (intOf iv).toNat)
  case atStart => exact ⟨0, 0, rfl, rfl, Nat.zero_le _, rfl, Below.refl _ _⟩
  case round =>
    obtain ⟨k, h, rfl, rfl, hk, hrun, hbe⟩ := hrel
    have hh := runN_le hrun
    have HRUN := Lib.hid hrun
    have BE := Lib.hid hbe
    clear hrun hbe
    by_cases hlt : k < n
    case neg =>
      obtain rfl : k = n := by omega
      have e := isCondB_end HRUN.out h30
      have E := Lib.hid e
      clear e
      have hlt' : ¬ (k : Int) < (k : Int) := by omega
      by_cases h1 : h = 1
      · subst h1
        go_wp2_with fail
        go_ret
        exact ⟨by rw [HQ.out, E.out]; rfl, BE.out⟩
      · have e1 : ((h : Int) == 1) = false := by simp; omega
        have e2 : ¬ (h : Int) = 1 := by omega
        go_wp2_with fail
        go_ret
        exact ⟨by rw [HQ.out, E.out]; simp [e2], BE.out⟩
    case pos =>
      have hlt' : (k : Int) < (n : Int) := by omega
      obtain ⟨b, o, rfl, hB, c0, c1, c2⟩ := (H.out.call BE.out).cells hlt
      have z1 := H.out.z_op k hlt
      have z2 := H.out.z_vl k hlt
      have bad := fun hb => HQ.out.trans (runN_bad (n := n) HRUN.out hlt hb)
      have good := fun h' => runN_ok (h' := h') HRUN.out
      obtain ⟨K, hK⟩ : ∃ K, K = kd k := ⟨_, rfl⟩
      obtain ⟨a, ha⟩ : ∃ a, a = op k := ⟨_, rfl⟩
      obtain ⟨d, hd⟩ : ∃ d, d = vl k := ⟨_, rfl⟩
      rw [← hK] at c0 bad good
      rw [← ha] at c1 z1 bad good
      rw [← hd] at c2 z2 bad good
      clear hK ha hd
      have BAD := Lib.hid bad
      have GOOD := Lib.hid good
      clear bad good
      by_cases k0 : K = 0
      · subst k0
        go_wp2_with fail
        refine (operands_any 0 _).mono ?_; rw [arity0]; rintro e w1 ⟨rfl, hw1⟩; obtain rfl := hw1.symm
        have o1 := okN_txt (K := 0) (by omega) a d
        cases ca : a.toList.isEmpty
        · have O1 := Lib.hid (show okN 0 a d = false by rw [o1, ca]; rfl)
          clear o1
          go_wp2_with fail
          go_ret
          exact ⟨ret_bool (BAD.out (.inl O1.out)).symm, by have h := BE.out; repeat' (first | (with_reducible exact Below.refl _ _) | assumption | (with_reducible refine below_then (by assumption) ?_ ?_) | (with_reducible refine Below.alloc ?_ ?_ _) | (with_reducible refine below_drewN ?_ _) | (with_reducible refine Below.drew ?_) | (with_reducible refine Below.setCell ?_ ?_ _) | (have := h.size; simp at *; omega) | omega | (simp; done) | (simp; omega))⟩
        · cases cd : d.toList.isEmpty
          · have O1 := Lib.hid (show okN 0 a d = false by rw [o1, ca, cd]; rfl)
            clear o1
            go_wp2_with fail
            go_ret
            exact ⟨ret_bool (BAD.out (.inl O1.out)).symm, by have h := BE.out; repeat' (first | (with_reducible exact Below.refl _ _) | assumption | (with_reducible refine below_then (by assumption) ?_ ?_) | (with_reducible refine Below.alloc ?_ ?_ _) | (with_reducible refine below_drewN ?_ _) | (with_reducible refine Below.drew ?_) | (with_reducible refine Below.setCell ?_ ?_ _) | (have := h.size; simp at *; omega) | omega | (simp; done) | (simp; omega))⟩
          · have g := GOOD.out _ (by rw [o1, ca, cd]; rfl) (by unfold stepN; rw [if_pos (by omega)])
            have G := Lib.hid g
            clear g o1
            go_wp2_with fail
            go_roundw
            case rel => exact ⟨k + 1, h + 1, by go_num, by go_num, by omega, G.out, by have h := BE.out; repeat' (first | (with_reducible exact Below.refl _ _) | assumption | (with_reducible refine below_then (by assumption) ?_ ?_) | (with_reducible refine Below.alloc ?_ ?_ _) | (with_reducible refine below_drewN ?_ _) | (with_reducible refine Below.drew ?_) | (with_reducible refine Below.setCell ?_ ?_ _) | (have := h.size; simp at *; omega) | omega | (simp; done) | (simp; omega))⟩
            case measure => simp [intOf]; omega
      by_cases k1 : K = 1
      · subst k1
        go_wp2_with fail
        refine (operands_any 1 _).mono ?_; rw [arity1]; rintro e w1 ⟨rfl, hw1⟩; obtain rfl := hw1.symm
        have o1 := okN_one a d
        cases ca : isC a
        · have O1 := Lib.hid (show okN 1 a d = false by rw [o1, ca]; rfl)
          clear o1
          go_wp2_with fail
          refine (impl_isCode a _ z1).mono ?_; rintro e w2 ⟨rfl, hw2⟩; obtain rfl := hw2.symm
          rw [ca]
          go_wp2_with fail
          go_ret
          exact ⟨ret_bool (BAD.out (.inl O1.out)).symm, by have h := BE.out; repeat' (first | (with_reducible exact Below.refl _ _) | assumption | (with_reducible refine below_then (by assumption) ?_ ?_) | (with_reducible refine Below.alloc ?_ ?_ _) | (with_reducible refine below_drewN ?_ _) | (with_reducible refine Below.drew ?_) | (with_reducible refine Below.setCell ?_ ?_ _) | (have := h.size; simp at *; omega) | omega | (simp; done) | (simp; omega))⟩
        · cases cd : isC d
          · have O1 := Lib.hid (show okN 1 a d = false by rw [o1, ca, cd]; rfl)
            clear o1
            go_wp2_with fail
            refine (impl_isCode a _ z1).mono ?_; rintro e w2 ⟨rfl, hw2⟩; obtain rfl := hw2.symm
            rw [ca]
            go_wp2_with fail
            refine (impl_isCode d _ z2).mono ?_; rintro e w2 ⟨rfl, hw2⟩; obtain rfl := hw2.symm
            rw [cd]
            go_wp2_with fail
            go_ret
            exact ⟨ret_bool (BAD.out (.inl O1.out)).symm, by have h := BE.out; repeat' (first | (with_reducible exact Below.refl _ _) | assumption | (with_reducible refine below_then (by assumption) ?_ ?_) | (with_reducible refine Below.alloc ?_ ?_ _) | (with_reducible refine below_drewN ?_ _) | (with_reducible refine Below.drew ?_) | (with_reducible refine Below.setCell ?_ ?_ _) | (have := h.size; simp at *; omega) | omega | (simp; done) | (simp; omega))⟩
          · have g := GOOD.out _ (by rw [o1, ca, cd]; rfl) (by unfold stepN; rw [if_pos (by omega)])
            have G := Lib.hid g
            clear g o1
            go_wp2_with fail
            refine (impl_isCode a _ z1).mono ?_; rintro e w2 ⟨rfl, hw2⟩; obtain rfl := hw2.symm
            rw [ca]
            go_wp2_with fail
            refine (impl_isCode d _ z2).mono ?_; rintro e w2 ⟨rfl, hw2⟩; obtain rfl := hw2.symm
            rw [cd]
            go_wp2_with fail
            go_roundw
            case rel => exact ⟨k + 1, h + 1, by go_num, by go_num, by omega, G.out, by have h := BE.out; repeat' (first | (with_reducible exact Below.refl _ _) | assumption | (with_reducible refine below_then (by assumption) ?_ ?_) | (with_reducible refine Below.alloc ?_ ?_ _) | (with_reducible refine below_drewN ?_ _) | (with_reducible refine Below.drew ?_) | (with_reducible refine Below.setCell ?_ ?_ _) | (have := h.size; simp at *; omega) | omega | (simp; done) | (simp; omega))⟩
            case measure => simp [intOf]; omega
      by_cases k2 : K = 2
      · subst k2
        by_cases h1 : h < 1
        · have h1' : (h : Int) < 1 := by omega
          go_wp2_with fail
          refine (operands_any 2 _).mono ?_; rw [arity2]; rintro e w1 ⟨rfl, hw1⟩; obtain rfl := hw1.symm
          go_wp2_with fail
          go_ret
          exact ⟨ret_bool (BAD.out (.inr (by unfold stepN; rw [if_neg (by omega), if_pos rfl, if_neg (by omega)]))).symm, by have h := BE.out; repeat' (first | (with_reducible exact Below.refl _ _) | assumption | (with_reducible refine below_then (by assumption) ?_ ?_) | (with_reducible refine Below.alloc ?_ ?_ _) | (with_reducible refine below_drewN ?_ _) | (with_reducible refine Below.drew ?_) | (with_reducible refine Below.setCell ?_ ?_ _) | (have := h.size; simp at *; omega) | omega | (simp; done) | (simp; omega))⟩
        · have h1' : ¬ (h : Int) < 1 := by omega
          go_wp2_with fail
          refine (operands_any 2 _).mono ?_; rw [arity2]; rintro e w1 ⟨rfl, hw1⟩; obtain rfl := hw1.symm
          have o1 := okN_txt (K := 2) (by omega) a d
          cases ca : a.toList.isEmpty
          · have O1 := Lib.hid (show okN 2 a d = false by rw [o1, ca]; rfl)
            clear o1
            go_wp2_with fail
            go_ret
            exact ⟨ret_bool (BAD.out (.inl O1.out)).symm, by have h := BE.out; repeat' (first | (with_reducible exact Below.refl _ _) | assumption | (with_reducible refine below_then (by assumption) ?_ ?_) | (with_reducible refine Below.alloc ?_ ?_ _) | (with_reducible refine below_drewN ?_ _) | (with_reducible refine Below.drew ?_) | (with_reducible refine Below.setCell ?_ ?_ _) | (have := h.size; simp at *; omega) | omega | (simp; done) | (simp; omega))⟩
          · cases cd : d.toList.isEmpty
            · have O1 := Lib.hid (show okN 2 a d = false by rw [o1, ca, cd]; rfl)
              clear o1
              go_wp2_with fail
              go_ret
              exact ⟨ret_bool (BAD.out (.inl O1.out)).symm, by have h := BE.out; repeat' (first | (with_reducible exact Below.refl _ _) | assumption | (with_reducible refine below_then (by assumption) ?_ ?_) | (with_reducible refine Below.alloc ?_ ?_ _) | (with_reducible refine below_drewN ?_ _) | (with_reducible refine Below.drew ?_) | (with_reducible refine Below.setCell ?_ ?_ _) | (have := h.size; simp at *; omega) | omega | (simp; done) | (simp; omega))⟩
            · have g := GOOD.out _ (by rw [o1, ca, cd]; rfl) (by unfold stepN; rw [if_neg (by omega), if_pos rfl, if_pos (by omega)])
              have G := Lib.hid g
              clear g o1
              go_wp2_with fail
              go_roundw
              case rel => exact ⟨k + 1, h, by go_num, by go_num, by omega, G.out, by have h := BE.out; repeat' (first | (with_reducible exact Below.refl _ _) | assumption | (with_reducible refine below_then (by assumption) ?_ ?_) | (with_reducible refine Below.alloc ?_ ?_ _) | (with_reducible refine below_drewN ?_ _) | (with_reducible refine Below.drew ?_) | (with_reducible refine Below.setCell ?_ ?_ _) | (have := h.size; simp at *; omega) | omega | (simp; done) | (simp; omega))⟩
              case measure => simp [intOf]; omega
      by_cases k3 : K = 3
      · subst k3
        by_cases h1 : h < 2
        · have h1' : (h : Int) < 2 := by omega
          have h2' : (h : Int) - 1 < 1 := by omega
          go_wp2_with fail
          refine (operands_any 3 _).mono ?_; rw [arity3]; rintro e w1 ⟨rfl, hw1⟩; obtain rfl := hw1.symm
          go_wp2_with fail
          go_ret
          exact ⟨ret_bool (BAD.out (.inr (by unfold stepN; rw [if_neg (by omega), if_neg (by omega), if_pos (by omega), if_neg (by omega)]))).symm, by have h := BE.out; repeat' (first | (with_reducible exact Below.refl _ _) | assumption | (with_reducible refine below_then (by assumption) ?_ ?_) | (with_reducible refine Below.alloc ?_ ?_ _) | (with_reducible refine below_drewN ?_ _) | (with_reducible refine Below.drew ?_) | (with_reducible refine Below.setCell ?_ ?_ _) | (have := h.size; simp at *; omega) | omega | (simp; done) | (simp; omega))⟩
        · have h1' : ¬ (h : Int) < 2 := by omega
          have h2' : ¬ (h : Int) - 1 < 1 := by omega
          go_wp2_with fail
          refine (operands_any 3 _).mono ?_; rw [arity3]; rintro e w1 ⟨rfl, hw1⟩; obtain rfl := hw1.symm
          have o1 := okN_txt (K := 3) (by omega) a d
          cases ca : a.toList.isEmpty
          · have O1 := Lib.hid (show okN 3 a d = false by rw [o1, ca]; rfl)
            clear o1
            go_wp2_with fail
            go_ret
            exact ⟨ret_bool (BAD.out (.inl O1.out)).symm, by have h := BE.out; repeat' (first | (with_reducible exact Below.refl _ _) | assumption | (with_reducible refine below_then (by assumption) ?_ ?_) | (with_reducible refine Below.alloc ?_ ?_ _) | (with_reducible refine below_drewN ?_ _) | (with_reducible refine Below.drew ?_) | (with_reducible refine Below.setCell ?_ ?_ _) | (have := h.size; simp at *; omega) | omega | (simp; done) | (simp; omega))⟩
          · cases cd : d.toList.isEmpty
            · have O1 := Lib.hid (show okN 3 a d = false by rw [o1, ca, cd]; rfl)
              clear o1
              go_wp2_with fail
              go_ret
              exact ⟨ret_bool (BAD.out (.inl O1.out)).symm, by have h := BE.out; repeat' (first | (with_reducible exact Below.refl _ _) | assumption | (with_reducible refine below_then (by assumption) ?_ ?_) | (with_reducible refine Below.alloc ?_ ?_ _) | (with_reducible refine below_drewN ?_ _) | (with_reducible refine Below.drew ?_) | (with_reducible refine Below.setCell ?_ ?_ _) | (have := h.size; simp at *; omega) | omega | (simp; done) | (simp; omega))⟩
            · have g := GOOD.out _ (by rw [o1, ca, cd]; rfl) (by unfold stepN; rw [if_neg (by omega), if_neg (by omega), if_pos (by omega), if_pos (by omega)])
              have G := Lib.hid g
              clear g o1
              go_wp2_with fail
              go_roundw
              case rel => exact ⟨k + 1, h - 1, by go_num, by go_num, by omega, G.out, by have h := BE.out; repeat' (first | (with_reducible exact Below.refl _ _) | assumption | (with_reducible refine below_then (by assumption) ?_ ?_) | (with_reducible refine Below.alloc ?_ ?_ _) | (with_reducible refine below_drewN ?_ _) | (with_reducible refine Below.drew ?_) | (with_reducible refine Below.setCell ?_ ?_ _) | (have := h.size; simp at *; omega) | omega | (simp; done) | (simp; omega))⟩
              case measure => simp [intOf]; omega
      by_cases k4 : K = 4
      · subst k4
        by_cases h1 : h < 2
        · have h1' : (h : Int) < 2 := by omega
          have h2' : (h : Int) - 1 < 1 := by omega
          go_wp2_with fail
          refine (operands_any 4 _).mono ?_; rw [arity4]; rintro e w1 ⟨rfl, hw1⟩; obtain rfl := hw1.symm
          go_wp2_with fail
          go_ret
          exact ⟨ret_bool (BAD.out (.inr (by unfold stepN; rw [if_neg (by omega), if_neg (by omega), if_pos (by omega), if_neg (by omega)]))).symm, by have h := BE.out; repeat' (first | (with_reducible exact Below.refl _ _) | assumption | (with_reducible refine below_then (by assumption) ?_ ?_) | (with_reducible refine Below.alloc ?_ ?_ _) | (with_reducible refine below_drewN ?_ _) | (with_reducible refine Below.drew ?_) | (with_reducible refine Below.setCell ?_ ?_ _) | (have := h.size; simp at *; omega) | omega | (simp; done) | (simp; omega))⟩
        · have h1' : ¬ (h : Int) < 2 := by omega
          have h2' : ¬ (h : Int) - 1 < 1 := by omega
          go_wp2_with fail
          refine (operands_any 4 _).mono ?_; rw [arity4]; rintro e w1 ⟨rfl, hw1⟩; obtain rfl := hw1.symm
          have o1 := okN_txt (K := 4) (by omega) a d
          cases ca : a.toList.isEmpty
          · have O1 := Lib.hid (show okN 4 a d = false by rw [o1, ca]; rfl)
            clear o1
            go_wp2_with fail
            go_ret
            exact ⟨ret_bool (BAD.out (.inl O1.out)).symm, by have h := BE.out; repeat' (first | (with_reducible exact Below.refl _ _) | assumption | (with_reducible refine below_then (by assumption) ?_ ?_) | (with_reducible refine Below.alloc ?_ ?_ _) | (with_reducible refine below_drewN ?_ _) | (with_reducible refine Below.drew ?_) | (with_reducible refine Below.setCell ?_ ?_ _) | (have := h.size; simp at *; omega) | omega | (simp; done) | (simp; omega))⟩
          · cases cd : d.toList.isEmpty
            · have O1 := Lib.hid (show okN 4 a d = false by rw [o1, ca, cd]; rfl)
              clear o1
              go_wp2_with fail
              go_ret
              exact ⟨ret_bool (BAD.out (.inl O1.out)).symm, by have h := BE.out; repeat' (first | (with_reducible exact Below.refl _ _) | assumption | (with_reducible refine below_then (by assumption) ?_ ?_) | (with_reducible refine Below.alloc ?_ ?_ _) | (with_reducible refine below_drewN ?_ _) | (with_reducible refine Below.drew ?_) | (with_reducible refine Below.setCell ?_ ?_ _) | (have := h.size; simp at *; omega) | omega | (simp; done) | (simp; omega))⟩
            · have g := GOOD.out _ (by rw [o1, ca, cd]; rfl) (by unfold stepN; rw [if_neg (by omega), if_neg (by omega), if_pos (by omega), if_pos (by omega)])
              have G := Lib.hid g
              clear g o1
              go_wp2_with fail
              go_roundw
              case rel => exact ⟨k + 1, h - 1, by go_num, by go_num, by omega, G.out, by have h := BE.out; repeat' (first | (with_reducible exact Below.refl _ _) | assumption | (with_reducible refine below_then (by assumption) ?_ ?_) | (with_reducible refine Below.alloc ?_ ?_ _) | (with_reducible refine below_drewN ?_ _) | (with_reducible refine Below.drew ?_) | (with_reducible refine Below.setCell ?_ ?_ _) | (have := h.size; simp at *; omega) | omega | (simp; done) | (simp; omega))⟩
              case measure => simp [intOf]; omega
      have q0 : (K == 0) = false := by simp [k0]
      have q1 : (K == 1) = false := by simp [k1]
      have q2 : (K == 2) = false := by simp [k2]
      have q3 : (K == 3) = false := by simp [k3]
      have q4 : (K == 4) = false := by simp [k4]
      go_wp2_with fail
      refine (operands_none K _ k0 k1 k2 k3 k4).mono ?_; rintro e w1 ⟨rfl, hw1⟩; obtain rfl := hw1.symm
      go_wp2_with fail
      go_ret
      exact ⟨ret_bool (BAD.out (.inr (by unfold stepN; rw [if_neg (by omega), if_neg (by omega), if_neg (by omega)]))).symm, by have h := BE.out; repeat' (first | (with_reducible exact Below.refl _ _) | assumption | (with_reducible refine below_then (by assumption) ?_ ?_) | (with_reducible refine Below.alloc ?_ ?_ _) | (with_reducible refine below_drewN ?_ _) | (with_reducible refine Below.drew ?_) | (with_reducible refine Below.setCell ?_ ?_ _) | (have := h.size; simp at *; omega) | omega | (simp; done) | (simp; omega))⟩
end Go.Proofs.Ytkkhaamklbolmaa