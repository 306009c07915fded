/-
  How a condition is decided: the stack of what holds so far; contract of l6Has.
-/
import Derived.Test.YtkkhaamklbolmaaIsCond
import Derived.Test.YtkkhaamklbolmaaPicks
import Derived.Test.YtkkhaamklbolmaaFind
namespace Go.Proofs.Ytkkhaamklbolmaa
open Go.RowKit
set_option linter.unusedVariables false
set_option linter.unusedSimpArgs false

/-- whether a is picked with value d among the first picks -/
def hasP (po pv : Nat → ByteArray) (a d : ByteArray) : Nat → Bool
  | 0 => false
  | k + 1 => hasP po pv a d k || (decide (po k = a) && decide (pv k = d))
theorem hasP_keep {po pv : Nat → ByteArray} {a d : ByteArray} {k n : Nat} (h : hasP po pv a d k = true) (hk : k ≤ n) : hasP po pv a d n = true := by
  induction n with
  | zero => obtain rfl : k = 0 := by omega
            exact h
  | succ n ih =>
    by_cases e : k = n + 1
    · subst e; exact h
    · simp only [hasP, ih (by omega), Bool.true_or]
def stkN (K : Int) (hb : Bool) (l : List Bool) : List Bool :=
  if K = 0 then l ++ [true] else if K = 1 then l ++ [hb] else if K = 2 then l.set (l.length - 1) (!(l.getD (l.length - 1) false))
  else if K = 3 then l.take (l.length - 2) ++ [l.getD (l.length - 2) false && l.getD (l.length - 1) false]
  else l.take (l.length - 2) ++ [l.getD (l.length - 2) false || l.getD (l.length - 1) false]
def stkS (kd : Nat → Int) (op vl : Nat → ByteArray) (po pv : Nat → ByteArray) (m : Nat) : Nat → List Bool
  | 0 => []
  | k + 1 => stkN (kd k) (hasP po pv (op k) (vl k) m) (stkS kd op vl po pv m k)
theorem runN_all {kd : Nat → Int} {op vl : Nat → ByteArray} {n : Nat} (h : isCondB kd op vl n = true) {k : Nat} (hk : k ≤ n) : ∃ x, runN kd op vl k = some x := by
  cases e : runN kd op vl k with
  | some x => exact ⟨x, rfl⟩
  | none =>
    have h2 := runN_none e hk
    unfold isCondB at h
    rw [h2] at h
    simp at h
/-- what a right node's kind is, and how many stand ahead of it -/
theorem runN_kind {kd : Nat → Int} {op vl : Nat → ByteArray} {k h x : Nat} (hr : runN kd op vl k = some h) (hx : runN kd op vl (k + 1) = some x) :
    ((kd k = 0 ∨ kd k = 1) ∧ x = h + 1) ∨ (kd k = 2 ∧ 1 ≤ h ∧ x = h) ∨ ((kd k = 3 ∨ kd k = 4) ∧ 2 ≤ h ∧ x = h - 1) := by
  simp only [runN, hr] at hx
  split at hx
  · unfold stepN at hx
    split at hx
    · next e => injection hx with hx; exact .inl ⟨e, hx.symm⟩
    · split at hx
      · next e =>
        split at hx
        · next e2 => injection hx with hx; exact .inr (.inl ⟨e, e2, hx.symm⟩)
        · cases hx
      · split at hx
        · next e =>
          split at hx
          · next e2 => injection hx with hx; exact .inr (.inr ⟨e, e2, hx.symm⟩)
          · cases hx
        · cases hx
  · cases hx
theorem stkS_length {kd : Nat → Int} {op vl po pv : Nat → ByteArray} {m : Nat} : ∀ {k h : Nat}, runN kd op vl k = some h → (stkS kd op vl po pv m k).length = h := by
  intro k
  induction k with
  | zero => intro h e; simp [runN] at e; subst e; rfl
  | succ k ih =>
    intro x hx
    cases hr : runN kd op vl k with
    | none => simp [runN, hr] at hx
    | some h =>
      have hl := ih hr
      show (stkN _ _ _).length = x
      generalize hasP po pv (op k) (vl k) m = hb
      rcases runN_kind hr hx with ⟨e | e, rfl⟩ | ⟨e, h1, rfl⟩ | ⟨e | e, h1, rfl⟩
      · rw [e]; simp [stkN, hl]
      · rw [e]; simp [stkN, hl]
      · rw [e]; simp [stkN, hl]
      · rw [e]; simp [stkN, hl]; omega
      · rw [e]; simp [stkN, hl]; omega
/-- whether it holds -/
def holdsB (kd : Nat → Int) (op vl po pv : Nat → ByteArray) (n m : Nat) : Bool := isCondB kd op vl n && (stkS kd op vl po pv m n).getD 0 false
/-- what a list of truths holds in its cells -/
def boolC (l : List Bool) (j q : Nat) : Value := .bool (l.getD j false)
theorem boolC_app (l : List Bool) (x : Bool) {j q : Nat} (h : j < l.length) : boolC l j q = boolC (l ++ [x]) j q := by
  simp [boolC, List.getD_eq_getElem?_getD, List.getElem?_append_left h]
theorem boolC_new (l : List Bool) (x : Bool) (q : Nat) : boolC (l ++ [x]) l.length q = .bool x := by
  simp [boolC, List.getD_eq_getElem?_getD]
theorem bool_info : (Try.prog.info? 4).map (fun i => (i.zero, i.size, i.bytes)) = some (some (.bool false), 1, 1) := by kernel_rfl
/-- a shorter front of a row of the call's own -/
theorem OwnV.front {B s n cap g m : Nat} {T : TypeId} {w : World} {F : Nat → Nat → Value} (h : OwnV B w T s (.slice (some ⟨g, 0, none⟩) n cap) n F) (hm : m ≤ n) : OwnV B w T s (.slice (some ⟨g, 0, none⟩) m cap) m F := by
  obtain ⟨hl, ⟨hv, h0⟩ | ⟨g', cap', cur, hv, hb, hh, hn, hc, hs, ht⟩⟩ := h.own
  · cases hv
  · simp at hv
    obtain ⟨rfl, rfl⟩ := hv
    refine ⟨flat_length _ _ _, .inr ⟨g, cap, cur, rfl, hb, hh, by omega, hc, hs, ?_⟩⟩
    apply List.ext_getElem?
    intro i
    by_cases hi : i < m * s
    · have h1 : i < n * s := Nat.lt_of_lt_of_le hi (Nat.mul_le_mul_right _ hm)
      have h2 := flat_get (F := F) h1
      rw [← ht, List.getElem?_take, if_pos h1] at h2
      rw [List.getElem?_take, if_pos hi, flat_get hi, h2]
    · rw [List.getElem?_take, if_neg hi, List.getElem?_eq_none (by rw [flat_length]; omega)]
theorem l6Has_any (w : World) (A : Option Addr) (m c : Nat) (po pv : Nat → ByteArray) (a d : ByteArray) (h : PickF w A m c po pv) :
    Calls Try.prog 92 #[.slice A m c, .string a, .string d] w fun e w' => e = .returned (.bool (hasP po pv a d m)) ∧ w' = w := by
  have hm := h.le
  have H := Lib.hid h
  clear h
  obtain ⟨R, hR⟩ : ∃ R, R = hasP po pv a d m := ⟨_, rfl⟩
  have HR := Lib.hid hR
  rw [← hR]
  clear hR
  go_enter Try.func92, Try.ntmps92
  go_wp2_with fail
  go_loop [7] (fun i => ∃ k : Nat, k ≤ m ∧ i = .int .i64 (k : Int) ∧ hasP po pv a d k = false) (fun i => m - (intOf i).toNat)
  case atStart => exact ⟨0, Nat.zero_le _, rfl, rfl⟩
  case round =>
    obtain ⟨k, hk, rfl, hno⟩ := hrel
    have HN := Lib.hid hno
    clear hno
    by_cases hlt : k < m
    · have hlt' : (k : Int) < (m : Int) := by omega
      obtain ⟨b, o, rfl, hB, c0, c1⟩ := H.out.cells hlt
      obtain ⟨x, hx⟩ : ∃ x, x = po k := ⟨_, rfl⟩
      obtain ⟨y, hy⟩ : ∃ y, y = pv k := ⟨_, rfl⟩
      have st : hasP po pv a d (k + 1) = (decide (x = a) && decide (y = d)) := by rw [hx, hy]; simp only [hasP, HN.out, Bool.false_or]
      rw [← hx] at c0
      rw [← hy] at c1
      have ST := Lib.hid st
      clear st hx hy
      by_cases h1 : x = a
      · subst h1
        have t1 := txt_same x
        by_cases h2 : y = d
        · subst h2
          have t2 := txt_same y
          have e := hasP_keep (show hasP po pv x y (k + 1) = true by rw [ST.out]; simp) (show k + 1 ≤ m by omega)
          have E := Lib.hid e
          clear e
          go_wp2_with fail
          go_ret
          exact ⟨by rw [HR.out, E.out]; rfl, rfl⟩
        · have t2 := txt_other h2
          have E := Lib.hid (show hasP po pv x d (k + 1) = false by rw [ST.out]; simp [h2])
          clear h2
          go_wp2_with fail
          go_round
          case rel => exact ⟨k + 1, by omega, by go_num, E.out⟩
          case measure => simp [intOf]; omega
      · have t1 := txt_other h1
        have E := Lib.hid (show hasP po pv a d (k + 1) = false by rw [ST.out]; simp [h1])
        clear h1
        go_wp2_with fail
        go_round
        case rel => exact ⟨k + 1, by omega, by go_num, E.out⟩
        case measure => simp [intOf]; omega
    · obtain rfl : k = m := by omega
      go_wp2_with fail
      go_ret
      exact ⟨by rw [HR.out, HN.out]; rfl, rfl⟩
end Go.Proofs.Ytkkhaamklbolmaa
