/-
  Codes: what they are; contracts of the reference's and the program's IsCode.
-/
import Derived.Test.YtkkhaamklbolmaaProg
import Derived.WalkKit
import Derived.Lib.Hide
import Derived.KernelRfl
namespace Go.Proofs.Ytkkhaamklbolmaa
open Go.RowKit
set_option linter.unusedVariables false

/-- byte j of a text, as an integer -/
def byt (s : ByteArray) (j : Nat) : Int := if h : j < s.size then (s[j].toNat : Int) else 0
theorem byt_lt {s : ByteArray} {j : Nat} (h : j < s.size) : byt s j = (s[j].toNat : Int) := by unfold byt; rw [dif_pos h]
theorem byt_bd (s : ByteArray) (j : Nat) : 0 ≤ byt s j ∧ byt s j ≤ 255 := by
  unfold byt
  split
  · next h => have := (s[j]).toNat_lt; omega
  · omega
/-- whether byte j may stand there -/
def okC (s : ByteArray) (j : Nat) : Prop := (65 ≤ byt s j ∧ byt s j ≤ 90) ∨ (j ≠ 0 ∧ ((48 ≤ byt s j ∧ byt s j ≤ 57) ∨ byt s j = 45))
instance (s : ByteArray) (j : Nat) : Decidable (okC s j) := by unfold okC; infer_instance
/-- a code -/
def isC (s : ByteArray) : Bool := decide (1 ≤ s.size ∧ s.size ≤ 8 ∧ ∀ j, j < s.size → okC s j)
theorem isC_iff {s : ByteArray} : isC s = true ↔ (1 ≤ s.size ∧ s.size ≤ 8 ∧ ∀ j, j < s.size → okC s j) := by simp [isC]
theorem isC_no {s : ByteArray} (h : ¬ (1 ≤ s.size ∧ s.size ≤ 8 ∧ ∀ j, j < s.size → okC s j)) : isC s = false := by
  cases e : isC s
  · rfl
  · exact absurd (isC_iff.1 e) h
theorem ret_bool {a b : Bool} (h : a = b) : Ending.returned (.bool a) = .returned (.bool b) := by rw [h]

set_option maxHeartbeats 1000000 in
theorem impl_isCode (s : ByteArray) (w : World) (hm : s.size ≤ 9223372036854775807) : Calls Try.prog 56 #[.string s] w fun e w' => e = .returned (.bool (isC s)) ∧ w' = w := by
  obtain ⟨q, hq⟩ : ∃ q, q = isC s := ⟨_, rfl⟩
  have HQ := Lib.hid hq
  rw [← hq]
  clear hq
  go_enter Try.func56, Try.ntmps56
  go_wp2_with fail
  go_loop [3] (fun i => ∃ k : Nat, k ≤ s.size ∧ i = .int .i64 (k : Int) ∧ Hid (∀ j, j < k → okC s j)) (fun i => s.size - (intOf i).toNat)
  case atStart => exact ⟨0, Nat.zero_le _, rfl, Lib.hid (fun j hj => absurd hj (by omega))⟩
  case round =>
    obtain ⟨k, hk, rfl, HK⟩ := hrel
    by_cases hlt : k < s.size
    · have hlt' : (k : Int) < (s.size : Int) := by omega
      have hb := byt_bd s k
      have he := byt_lt hlt
      rw [he] at hb
      have HE := Lib.hid he
      clear he
      have hbad : ¬ okC s k → isC s = false := fun h => isC_no (fun a => h (a.2.2 k hlt))
      have HB := Lib.hid hbad
      clear hbad
      have hgood : okC s k → ∀ j, j < k + 1 → okC s j := fun h j hj => by
        by_cases e : j = k
        · subst e; exact h
        · exact HK.out j (by omega)
      have HG := Lib.hid hgood
      clear hgood
      by_cases hup : 65 ≤ (s[k].toNat : Int) ∧ (s[k].toNat : Int) ≤ 90
      · obtain ⟨u1, u2⟩ := hup
        go_wp2_with fail
        go_round
        case rel => exact ⟨k + 1, by omega, by go_num, Lib.hid (HG.out (.inl (by rw [HE.out]; exact ⟨u1, u2⟩)))⟩
        case measure => simp [intOf]; omega
      · by_cases hk0 : k = 0
        · subst hk0
          have hno : isC s = false := HB.out (by unfold okC; rw [HE.out]; omega)
          by_cases h1 : (s[0].toNat : Int) < 65
          · have h1' : ¬ 65 ≤ (s[0].toNat : Int) := by omega
            go_wp2_with fail
            go_ret
            exact ⟨ret_bool (HQ.out.trans hno).symm, rfl⟩
          · have h1' : 65 ≤ (s[0].toNat : Int) := by omega
            have h2' : ¬ (s[0].toNat : Int) ≤ 90 := by omega
            go_wp2_with fail
            go_ret
            exact ⟨ret_bool (HQ.out.trans hno).symm, rfl⟩
        · have hk1 : ((k : Int) == 0) = false := by simp; omega
          have hk2 : ¬ (k : Int) = 0 := by omega
          by_cases hd : 48 ≤ (s[k].toNat : Int) ∧ (s[k].toNat : Int) ≤ 57
          · obtain ⟨d1, d2⟩ := hd
            have h1' : ¬ 65 ≤ (s[k].toNat : Int) := by omega
            have h3 : ¬ (s[k].toNat : Int) < 48 := by omega
            have h4 : ¬ 57 < (s[k].toNat : Int) := by omega
            go_wp2_with fail
            go_round
            case rel => exact ⟨k + 1, by omega, by go_num, Lib.hid (HG.out (.inr ⟨hk0, .inl (by rw [HE.out]; exact ⟨d1, d2⟩)⟩))⟩
            case measure => simp [intOf]; omega
          · by_cases hh : (s[k].toNat : Int) = 45
            · have h1' : ¬ 65 ≤ (s[k].toNat : Int) := by omega
              have h3 : (s[k].toNat : Int) < 48 := by omega
              have h5 : ((s[k].toNat : Int) != 45) = false := by simp [hh]
              have h6 : ((s[k].toNat : Int) == 45) = true := by simp [hh]
              have HH := Lib.hid hh
              clear hh
              go_wp2_with fail
              go_round
              case rel => exact ⟨k + 1, by omega, by go_num, Lib.hid (HG.out (.inr ⟨hk0, .inr (by rw [HE.out]; exact HH.out)⟩))⟩
              case measure => simp [intOf]; omega
            · have h5 : ((s[k].toNat : Int) != 45) = true := by simp [hh]
              have h6 : ((s[k].toNat : Int) == 45) = false := by simp [hh]
              have hno : isC s = false := HB.out (by unfold okC; rw [HE.out]; omega)
              by_cases h1 : (s[k].toNat : Int) < 48
              · have h1' : ¬ 65 ≤ (s[k].toNat : Int) := by omega
                go_wp2_with fail
                go_ret
                exact ⟨ret_bool (HQ.out.trans hno).symm, rfl⟩
              · have h4 : 57 < (s[k].toNat : Int) := by omega
                by_cases h7 : (s[k].toNat : Int) < 65
                · have h1' : ¬ 65 ≤ (s[k].toNat : Int) := by omega
                  go_wp2_with fail
                  go_ret
                  exact ⟨ret_bool (HQ.out.trans hno).symm, rfl⟩
                · have h1' : 65 ≤ (s[k].toNat : Int) := by omega
                  have h2' : ¬ (s[k].toNat : Int) ≤ 90 := by omega
                  go_wp2_with fail
                  go_ret
                  exact ⟨ret_bool (HQ.out.trans hno).symm, rfl⟩
    · obtain rfl : k = s.size := by omega
      by_cases h1 : 1 ≤ s.size
      · have h1' : (1 : Int) ≤ (s.size : Int) := by omega
        by_cases h8 : s.size ≤ 8
        · have h8' : (s.size : Int) ≤ 8 := by omega
          have hyes : isC s = true := isC_iff.2 ⟨h1, h8, HK.out⟩
          go_wp2_with fail
          go_ret
          exact ⟨ret_bool (HQ.out.trans hyes).symm, rfl⟩
        · have h8' : ¬ (s.size : Int) ≤ 8 := by omega
          have hno : isC s = false := isC_no (fun a => h8 a.2.1)
          go_wp2_with fail
          go_ret
          exact ⟨ret_bool (HQ.out.trans hno).symm, rfl⟩
      · have h1' : ¬ (1 : Int) ≤ (s.size : Int) := by omega
        have hno : isC s = false := isC_no (fun a => h1 a.1)
        go_wp2_with fail
        go_ret
        exact ⟨ret_bool (HQ.out.trans hno).symm, rfl⟩

set_option maxHeartbeats 1000000 in
theorem spec_isCode (s : ByteArray) (w : World) (hm : s.size ≤ 9223372036854775807) : Calls Try.prog 53 #[.string s] w fun e w' => e = .returned (.bool (isC s)) ∧ w' = w := by
  obtain ⟨q, hq⟩ : ∃ q, q = isC s := ⟨_, rfl⟩
  have HQ := Lib.hid hq
  rw [← hq]
  clear hq
  go_enter Try.func53, Try.ntmps53
  go_wp2_with fail
  go_loop [3] (fun i => ∃ k : Nat, k ≤ s.size ∧ i = .int .i64 (k : Int) ∧ Hid (∀ j, j < k → okC s j)) (fun i => s.size - (intOf i).toNat)
  case atStart => exact ⟨0, Nat.zero_le _, rfl, Lib.hid (fun j hj => absurd hj (by omega))⟩
  case round =>
    obtain ⟨k, hk, rfl, HK⟩ := hrel
    by_cases hlt : k < s.size
    · have hlt' : (k : Int) < (s.size : Int) := by omega
      have hb := byt_bd s k
      have he := byt_lt hlt
      rw [he] at hb
      have HE := Lib.hid he
      clear he
      have hbad : ¬ okC s k → isC s = false := fun h => isC_no (fun a => h (a.2.2 k hlt))
      have HB := Lib.hid hbad
      clear hbad
      have hgood : okC s k → ∀ j, j < k + 1 → okC s j := fun h j hj => by
        by_cases e : j = k
        · subst e; exact h
        · exact HK.out j (by omega)
      have HG := Lib.hid hgood
      clear hgood
      by_cases hup : 65 ≤ (s[k].toNat : Int) ∧ (s[k].toNat : Int) ≤ 90
      · obtain ⟨u1, u2⟩ := hup
        go_wp2_with fail
        go_round
        case rel => exact ⟨k + 1, by omega, by go_num, Lib.hid (HG.out (.inl (by rw [HE.out]; exact ⟨u1, u2⟩)))⟩
        case measure => simp [intOf]; omega
      · by_cases hk0 : k = 0
        · subst hk0
          have hno : isC s = false := HB.out (by unfold okC; rw [HE.out]; omega)
          by_cases h1 : (s[0].toNat : Int) < 65
          · have h1' : ¬ 65 ≤ (s[0].toNat : Int) := by omega
            go_wp2_with fail
            go_ret
            exact ⟨ret_bool (HQ.out.trans hno).symm, rfl⟩
          · have h1' : 65 ≤ (s[0].toNat : Int) := by omega
            have h2' : ¬ (s[0].toNat : Int) ≤ 90 := by omega
            go_wp2_with fail
            go_ret
            exact ⟨ret_bool (HQ.out.trans hno).symm, rfl⟩
        · have hk1 : ((k : Int) == 0) = false := by simp; omega
          have hk2 : ¬ (k : Int) = 0 := by omega
          by_cases hd : 48 ≤ (s[k].toNat : Int) ∧ (s[k].toNat : Int) ≤ 57
          · obtain ⟨d1, d2⟩ := hd
            have h1' : ¬ 65 ≤ (s[k].toNat : Int) := by omega
            have h3 : ¬ (s[k].toNat : Int) < 48 := by omega
            have h4 : ¬ 57 < (s[k].toNat : Int) := by omega
            go_wp2_with fail
            go_round
            case rel => exact ⟨k + 1, by omega, by go_num, Lib.hid (HG.out (.inr ⟨hk0, .inl (by rw [HE.out]; exact ⟨d1, d2⟩)⟩))⟩
            case measure => simp [intOf]; omega
          · by_cases hh : (s[k].toNat : Int) = 45
            · have h1' : ¬ 65 ≤ (s[k].toNat : Int) := by omega
              have h3 : (s[k].toNat : Int) < 48 := by omega
              have h5 : ((s[k].toNat : Int) != 45) = false := by simp [hh]
              have h6 : ((s[k].toNat : Int) == 45) = true := by simp [hh]
              have HH := Lib.hid hh
              clear hh
              go_wp2_with fail
              go_round
              case rel => exact ⟨k + 1, by omega, by go_num, Lib.hid (HG.out (.inr ⟨hk0, .inr (by rw [HE.out]; exact HH.out)⟩))⟩
              case measure => simp [intOf]; omega
            · have h5 : ((s[k].toNat : Int) != 45) = true := by simp [hh]
              have h6 : ((s[k].toNat : Int) == 45) = false := by simp [hh]
              have hno : isC s = false := HB.out (by unfold okC; rw [HE.out]; omega)
              by_cases h1 : (s[k].toNat : Int) < 48
              · have h1' : ¬ 65 ≤ (s[k].toNat : Int) := by omega
                go_wp2_with fail
                go_ret
                exact ⟨ret_bool (HQ.out.trans hno).symm, rfl⟩
              · have h4 : 57 < (s[k].toNat : Int) := by omega
                by_cases h7 : (s[k].toNat : Int) < 65
                · have h1' : ¬ 65 ≤ (s[k].toNat : Int) := by omega
                  go_wp2_with fail
                  go_ret
                  exact ⟨ret_bool (HQ.out.trans hno).symm, rfl⟩
                · have h1' : 65 ≤ (s[k].toNat : Int) := by omega
                  have h2' : ¬ (s[k].toNat : Int) ≤ 90 := by omega
                  go_wp2_with fail
                  go_ret
                  exact ⟨ret_bool (HQ.out.trans hno).symm, rfl⟩
    · obtain rfl : k = s.size := by omega
      by_cases h1 : 1 ≤ s.size
      · have h1' : (1 : Int) ≤ (s.size : Int) := by omega
        by_cases h8 : s.size ≤ 8
        · have h8' : (s.size : Int) ≤ 8 := by omega
          have hyes : isC s = true := isC_iff.2 ⟨h1, h8, HK.out⟩
          go_wp2_with fail
          go_ret
          exact ⟨ret_bool (HQ.out.trans hyes).symm, rfl⟩
        · have h8' : ¬ (s.size : Int) ≤ 8 := by omega
          have hno : isC s = false := isC_no (fun a => h8 a.2.1)
          go_wp2_with fail
          go_ret
          exact ⟨ret_bool (HQ.out.trans hno).symm, rfl⟩
      · have h1' : ¬ (1 : Int) ≤ (s.size : Int) := by omega
        have hno : isC s = false := isC_no (fun a => h1 a.1)
        go_wp2_with fail
        go_ret
        exact ⟨ret_bool (HQ.out.trans hno).symm, rfl⟩

end Go.Proofs.Ytkkhaamklbolmaa
