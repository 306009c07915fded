/-
  Contracts of startOf and text of the program, of l6Start and l6Format of the reference, and of FormatCond. (Printed by gen/format.py.)
-/
import Derived.Test.YtkkhaamklbolmaaTree
import Derived.Test.YtkkhaamklbolmaaQuietTail
import Derived.Lib.QuietBelow
namespace Go.Proofs.Ytkkhaamklbolmaa
open Go.RowKit Go.Sort
set_option linter.unusedVariables false
set_option linter.unusedSimpArgs false

theorem startOf_any (w : World) (A : Option Addr) (n c : Nat) (kd : Nat → Int) (op vl : Nat → ByteArray) (h : CondNodeF w A n c kd op vl) (hn : n ≤ 30) {s i : Nat} {t : Cnd} (hs : Sub kd op vl s (i + 1) t) (hi : i < n) :
    Calls Try.prog 91 #[.slice A n c, .int .i64 (i : Int)] w fun e w' => e = .returned (.int .i64 (s : Int)) ∧ w' = w := by
  have H := Lib.hid h
  have HS := Lib.hid hs
  have hl := hs.lt
  obtain ⟨d1, d2⟩ := hs.defi
  have D1 := Lib.hid d1
  have D2 := Lib.hid d2
  clear h hs d1 d2
  go_enter Try.func91, Try.ntmps91
  go_wp2_with fail
  go_loopw [5, 6] (fun nv iv wr => ∃ j : Nat, iv = .int .i64 (j : Int) ∧ s ≤ j ∧ j ≤ i ∧ nv = .int .i64 (1 + defi kd (i + 1) - defi kd (j + 1)) ∧ wr = w) (fun _ iv _ => (intOf iv).toNat)
  case atStart => exact ⟨i, rfl, by omega, Nat.le_refl _, by rw [show 1 + defi kd (i + 1) - defi kd (i + 1) = 1 by omega], rfl⟩
  case round =>
    obtain ⟨j, rfl, hsj, hji, rfl, rfl⟩ := hrel
    have hjn : j < n := by omega
    have hjn' : (j : Int) < (n : Int) := by omega
    obtain ⟨b, o, rfl, hB, c0, c1, c2⟩ := H.out.cells hjn
    have l1 := defi_le kd (i + 1)
    have l2 := defi_le kd (j + 1)
    have l3 := defi_le kd j
    have e1 : defi kd (j + 1) = defi kd j + (arity (kd j) - 1) := rfl
    have OP := Lib.hid (fun (W : World) => operands_any (kd j) W)
    by_cases he : j = s
    · subst he
      have e2 : 1 + defi kd (i + 1) - defi kd (j + 1) + (arity (kd j) - 1) = 0 := by have := D1.out; omega
      obtain ⟨x, hx⟩ : ∃ x, x = 1 + defi kd (i + 1) - defi kd (j + 1) := ⟨_, rfl⟩
      obtain ⟨y, hy⟩ : ∃ y, y = arity (kd j) := ⟨_, rfl⟩
      have hxb : -100 ≤ x ∧ x ≤ 100 := by omega
      have hyb : -100 ≤ y ∧ y ≤ 100 := by omega
      rw [← hx, ← hy] at e2
      rw [← hy] at OP
      rw [← hx]
      clear hx hy e1 l1 l2 l3
      have u1 : IntKind.i64.wrap (y - 1) = y - 1 := IntWalk.i64_in _ ⟨by omega, by omega⟩
      have u2 : IntKind.i64.wrap (x + (y - 1)) = 0 := by rw [e2]; rfl
      go_wp2_with fail
      refine (OP.out _).mono ?_; rintro e w2 ⟨rfl, hw2⟩; obtain rfl := hw2.symm
      have hz : (x + (y - 1) == 0) = true := by rw [e2]; rfl
      go_wp2_with fail
      go_ret
      exact ⟨rfl, rfl⟩
    · have hd := D2.out j (by omega) (by omega)
      obtain ⟨x, hx⟩ : ∃ x, x = 1 + defi kd (i + 1) - defi kd (j + 1) := ⟨_, rfl⟩
      obtain ⟨y, hy⟩ : ∃ y, y = arity (kd j) := ⟨_, rfl⟩
      have hxb : -100 ≤ x ∧ x ≤ 100 := by omega
      have hyb : -100 ≤ y ∧ y ≤ 100 := by omega
      have e2 : 1 ≤ x + (y - 1) := by omega
      have e3 : x + (y - 1) = 1 + defi kd (i + 1) - defi kd j := by omega
      rw [← hy] at OP
      rw [← hx]
      have E3 := Lib.hid e3
      clear hx hy e1 l1 l2 l3 e3 hd
      have u1 : IntKind.i64.wrap (y - 1) = y - 1 := IntWalk.i64_in _ ⟨by omega, by omega⟩
      have hz : (x + (y - 1) == 0) = false := by simp; omega
      have hj1 : ((j : Int) - 1) = ((j - 1 : Nat) : Int) := by omega
      go_wp2_with fail
      refine (OP.out _).mono ?_; rintro e w2 ⟨rfl, hw2⟩; obtain rfl := hw2.symm
      go_wp2_with fail
      go_roundw
      case rel => exact ⟨j - 1, by go_num, by omega, by omega, by rw [show j - 1 + 1 = j by omega, ← E3.out], trivial⟩
      case measure => first | (simp [intOf]; done) | (simp [intOf]; omega)
theorem l6Start_any (w : World) (A : Option Addr) (n c : Nat) (kd : Nat → Int) (op vl : Nat → ByteArray) (h : CondNodeF w A n c kd op vl) (hn : n ≤ 30) (hall : ∀ j, j < n → kd j = 0 ∨ kd j = 1 ∨ kd j = 2 ∨ kd j = 3 ∨ kd j = 4) {s i : Nat} {t : Cnd} (hs : Sub kd op vl s (i + 1) t) (hi : i < n) :
    Calls Try.prog 88 #[.slice A n c, .int .i64 (i : Int)] w fun e w' => e = .returned (.int .i64 (s : Int)) ∧ w' = w := by
  have H := Lib.hid h
  have ALL := Lib.hid hall
  have hl := hs.lt
  obtain ⟨d1, d2⟩ := hs.defi
  have D1 := Lib.hid d1
  have D2 := Lib.hid d2
  clear h hs d1 d2 hall
  go_enter Try.func88, Try.ntmps88
  go_wp2_with fail
  go_loopw [5, 6] (fun nv iv wr => ∃ j : Nat, iv = .int .i64 ((j : Int) - 1) ∧ s ≤ j ∧ j ≤ i + 1 ∧ nv = .int .i64 (1 + defi kd (i + 1) - defi kd j) ∧ wr = w) (fun _ iv _ => (intOf iv + 1).toNat)
  case atStart => exact ⟨i + 1, by rw [show ((i + 1 : Nat) : Int) - 1 = (i : Int) by omega], by omega, Nat.le_refl _, by rw [show 1 + defi kd (i + 1) - defi kd (i + 1) = 1 by omega], rfl⟩
  case round =>
    obtain ⟨j, rfl, hsj, hji, rfl, rfl⟩ := hrel
    by_cases he : j = s
    · subst he
      have e2 : 1 + defi kd (i + 1) - defi kd j = 0 := by have := D1.out; omega
      rw [e2]
      have hj1 : ((j : Int) - 1) + 1 = (j : Int) := by omega
      go_wp2_with fail
      go_ret
      exact ⟨by first | rfl | (rw [hj1]), rfl⟩
    · obtain ⟨m, rfl⟩ : ∃ m, j = m + 1 := ⟨j - 1, by omega⟩
      have hmn : m < n := by omega
      have hmn' : (m : Int) < (n : Int) := by omega
      rw [show ((m + 1 : Nat) : Int) - 1 = (m : Int) by omega]
      obtain ⟨b, o, rfl, hB, c0, c1, c2⟩ := H.out.cells hmn
      have l1 := defi_le kd (i + 1)
      have l2 := defi_le kd (m + 1)
      have l3 := defi_le kd m
      have e1 : defi kd (m + 1) = defi kd m + (arity (kd m) - 1) := rfl
      have hpos : 0 < 1 + defi kd (i + 1) - defi kd (m + 1) := by
        by_cases e : m + 1 = i + 1
        · rw [e]; omega
        · have := D2.out (m + 1) (by omega) (by omega); omega
      have hk := ALL.out m hmn
      obtain ⟨x, hx⟩ : ∃ x, x = 1 + defi kd (i + 1) - defi kd (m + 1) := ⟨_, rfl⟩
      have e3 : 1 + defi kd (i + 1) - defi kd m = x + (arity (kd m) - 1) := by omega
      have hxb : x ≤ 100 := by omega
      rw [← hx] at hpos ⊢
      have E3 := Lib.hid e3
      clear hx e1 l1 l2 l3 e3
      generalize kd m = K at *
      rcases hk with rfl | rfl | rfl | rfl | rfl
      all_goals
        go_wp2_with fail
        go_roundw
        case rel => exact ⟨m, by go_num, by omega, by omega, by rw [E3.out]; simp only [arity0, arity1, arity2, arity3, arity4]; first | rfl | (congr 1; omega), trivial⟩
        case measure => first | (simp [intOf]; done) | (simp [intOf]; omega)
theorem kinds_of {kd : Nat → Int} {op vl : Nat → ByteArray} {n : Nat} (h : isCondB kd op vl n = true) : ∀ j, j < n → kd j = 0 ∨ kd j = 1 ∨ kd j = 2 ∨ kd j = 3 ∨ kd j = 4 := by
  intro j hj
  obtain ⟨x, hx⟩ := runN_all h (show j + 1 ≤ n by omega)
  obtain ⟨y, hy⟩ := runN_all h (show j ≤ n by omega)
  rcases runN_kind hy hx with ⟨e | e, _⟩ | ⟨e, _⟩ | ⟨e | e, _⟩ <;> simp [e]

end Go.Proofs.Ytkkhaamklbolmaa
