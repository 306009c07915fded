/-
  Plain facts about decimal texts: digits, their value, what strconv.Atoi makes of them (no program in sight).
-/
import Derived.Lib.ItoaNum
import Derived.Lib.ItoaLen
import Derived.Lib.AtoiAll
import Derived.Lib.Strings
import Derived.Test.YtefofijdpacleaaDoorFmt
namespace Go.Proofs.YtefofijdpacleaaDoor
open Go.Lib
set_option linter.unusedVariables false

def isDg (c : UInt8) : Prop := 48 ≤ c.toNat ∧ c.toNat ≤ 57
/-- what digits are worth behind acc -/
def dvA (acc : Nat) (l : List UInt8) : Nat := l.foldl (fun a c => a * 10 + (c.toNat - 48)) acc
def dv (l : List UInt8) : Nat := dvA 0 l
theorem dv_snoc (l : List UInt8) (c : UInt8) : dv (l ++ [c]) = dv l * 10 + (c.toNat - 48) := by simp [dv, dvA]
theorem dig_toNat {d : Nat} (h : d < 10) : (UInt8.ofNat (48 + d)).toNat = 48 + d := by
  rw [UInt8.toNat_ofNat']; omega
theorem decDigits_dg : ∀ (u : Nat), ∀ c ∈ decDigits u, isDg c := by
  intro u
  induction u using Nat.strongRecOn with
  | _ u ih =>
    intro c hc
    rw [decDigits] at hc
    split at hc
    · next h =>
      obtain rfl := List.mem_singleton.1 hc
      unfold isDg; rw [dig_toNat h]; omega
    · next h =>
      rcases List.mem_append.1 hc with hc | hc
      · exact ih (u / 10) (by omega) c hc
      · obtain rfl := List.mem_singleton.1 hc
        unfold isDg; rw [dig_toNat (show u % 10 < 10 by omega)]; omega
theorem dv_decDigits : ∀ (u : Nat), dv (decDigits u) = u := by
  intro u
  induction u using Nat.strongRecOn with
  | _ u ih =>
    rw [decDigits]
    split
    · next h =>
      have := dv_snoc [] (UInt8.ofNat (48 + u))
      rw [List.nil_append] at this
      rw [this, dig_toNat h]
      show 0 * 10 + _ = _
      omega
    · next h => rw [dv_snoc, ih (u / 10) (by omega), dig_toNat (by omega)]; omega
theorem dvA_lt : ∀ (l : List UInt8) (acc : Nat), (∀ c ∈ l, isDg c) → dvA acc l < (acc + 1) * 10 ^ l.length
  | [], acc, _ => by simp [dvA]
  | c :: l, acc, h => by
    have h1 := h c (List.mem_cons_self ..)
    have ih := dvA_lt l (acc * 10 + (c.toNat - 48)) (fun x hx => h x (List.mem_cons_of_mem _ hx))
    have e : dvA acc (c :: l) = dvA (acc * 10 + (c.toNat - 48)) l := rfl
    rw [e, List.length_cons, Nat.pow_succ]
    unfold isDg at h1
    have : (acc * 10 + (c.toNat - 48) + 1) * 10 ^ l.length ≤ ((acc + 1) * 10) * 10 ^ l.length := Nat.mul_le_mul_right _ (by omega)
    calc _ < _ := ih
      _ ≤ _ := this
      _ = _ := by rw [Nat.mul_assoc, Nat.mul_comm 10]
theorem dv_lt {l : List UInt8} (h : ∀ c ∈ l, isDg c) : dv l < 10 ^ l.length := by
  have := dvA_lt l 0 h; simpa [dv] using this
theorem dvA_ge : ∀ (l : List UInt8) (acc : Nat), acc ≤ dvA acc l
  | [], acc => Nat.le_refl _
  | c :: l, acc => by
    have ih := dvA_ge l (acc * 10 + (c.toNat - 48))
    have e : dvA acc (c :: l) = dvA (acc * 10 + (c.toNat - 48)) l := rfl
    rw [e]; omega
theorem parse_ok : ∀ (l : List UInt8) (acc : Nat), (∀ c ∈ l, isDg c) → dvA acc l < 10000000000000000000 → parseUint10 acc l = .ok (dvA acc l)
  | [], acc, _, _ => rfl
  | c :: l, acc, h, hb => by
    have h1 := h c (List.mem_cons_self ..)
    have e : dvA acc (c :: l) = dvA (acc * 10 + (c.toNat - 48)) l := rfl
    rw [e] at hb ⊢
    have hge := dvA_ge l (acc * 10 + (c.toNat - 48))
    simp only [parseUint10]
    unfold isDg at h1
    rw [if_pos h1, if_neg (by omega), if_neg (by omega)]
    exact parse_ok l _ (fun x hx => h x (List.mem_cons_of_mem _ hx)) hb
theorem nDigits_le : ∀ (k u : Nat), 1 ≤ k → u < 10 ^ k → nDigits u ≤ k
  | 0, _, h, _ => by omega
  | k + 1, u, _, h => by
    by_cases h10 : u < 10
    · rw [nDigits_small h10]; omega
    · rw [nDigits_big h10]
      by_cases hk : k = 0
      · subst hk; simp at h; omega
      · have := nDigits_le k (u / 10) (by omega) (by rw [Nat.pow_succ] at h; omega)
        omega
theorem decDigits_ne (u : Nat) : decDigits u ≠ [] := by
  intro h
  have := decDigits_length u
  rw [h] at this
  have := nDigits_pos u
  simp at *
  omega
/-- s is the text of v, which has at most twelve digits -/
def Good (v : Int) (s : ByteArray) : Prop := itoaS v = s ∧ -1000000000000 < v ∧ v < 1000000000000
/-- the sign's place -/
def sgn (s : ByteArray) : Nat := if s.data.toList.head? = some 45 then 1 else 0
/-- what stands behind the sign -/
def rst (s : ByteArray) : List UInt8 := s.data.toList.drop (sgn s)
theorem itoaS_list (v : Int) : (itoaS v).data.toList = itoa v := rfl
theorem not_dg45 : ¬ isDg 45 := by unfold isDg; decide
theorem head_dec (u : Nat) : (decDigits u).head? ≠ some 45 := by
  intro h
  have hm : (45 : UInt8) ∈ decDigits u := List.mem_of_mem_head? (by rw [h]; rfl)
  exact not_dg45 (decDigits_dg u 45 hm)
theorem sgn_itoa (v : Int) : sgn (itoaS v) = (if v < 0 then 1 else 0) ∧ rst (itoaS v) = decDigits v.natAbs := by
  unfold rst sgn
  rw [itoaS_list]
  unfold itoa
  by_cases h : v < 0
  · have e : (45 :: decDigits v.natAbs).head? = some 45 := rfl
    rw [if_pos h, if_pos e, if_pos h]; exact ⟨rfl, rfl⟩
  · rw [if_neg h, if_neg h, if_neg (head_dec _)]
    exact ⟨rfl, by rw [List.drop_zero, show v.toNat = v.natAbs by omega]⟩
theorem Good.parts {v : Int} {s : ByteArray} (h : Good v s) : sgn s = (if v < 0 then 1 else 0) ∧ rst s = decDigits v.natAbs ∧ 1 ≤ (rst s).length ∧ (rst s).length ≤ 12 ∧ (∀ c ∈ rst s, isDg c) ∧ dv (rst s) = v.natAbs := by
  obtain ⟨rfl, h1, h2⟩ := h
  obtain ⟨e1, e2⟩ := sgn_itoa v
  rw [e1, e2, decDigits_length]
  exact ⟨rfl, rfl, nDigits_pos _, nDigits_le 12 _ (by omega) (by omega), decDigits_dg _, dv_decDigits _⟩
/-- a text of one to twelve digits behind a sign that is the text of its value -/
theorem good_of {v : Int} {s : ByteArray} (h : itoaS v = s) (hl : (rst s).length ≤ 12) : Good v s := by
  have e := (sgn_itoa v).2
  rw [h] at e
  rw [e] at hl
  have h1 := dv_lt (decDigits_dg v.natAbs)
  rw [dv_decDigits] at h1
  have h2 : (10 : Nat) ^ (decDigits v.natAbs).length ≤ 10 ^ 12 := Nat.pow_le_pow_right (by omega) hl
  exact ⟨h, by omega, by omega⟩
theorem itoaS_inj {u v : Int} (h : itoaS u = itoaS v) : u = v := by
  have a := sgn_itoa u
  have b := sgn_itoa v
  rw [h] at a
  have e1 := a.1.symm.trans b.1
  have e2 := a.2.symm.trans b.2
  have e3 := congrArg dv e2
  rw [dv_decDigits, dv_decDigits] at e3
  split at e1 <;> split at e1 <;> omega
theorem atoi_good {v : Int} {s : ByteArray} (h : Good v s) : atoiAll s.data.toList = .ok v := by
  obtain ⟨rfl, h1, h2⟩ := h
  rw [itoaS_list]
  have hp := parse_ok (decDigits v.natAbs) 0 (decDigits_dg _) (by have := dv_decDigits v.natAbs; unfold dv at this; rw [this]; omega)
  have hd := dv_decDigits v.natAbs
  unfold dv at hd
  rw [hd] at hp
  have hm : parseMag (decDigits v.natAbs) = .ok v.natAbs := by unfold parseMag; rw [if_neg (decDigits_ne _)]; exact hp
  unfold itoa
  by_cases hv : v < 0
  · rw [if_pos hv]
    unfold atoiAll
    simp only
    rw [if_pos (.inr (by decide)), hm]
    simp only
    rw [if_neg (by rintro ⟨a, _⟩; exact a (by decide)), if_neg (by omega), if_pos (by decide)]
    congr 1
    omega
  · rw [if_neg hv, show v.toNat = v.natAbs by omega]
    cases hc : decDigits v.natAbs with
    | nil => exact absurd hc (decDigits_ne _)
    | cons c r =>
      have hcd : isDg c := decDigits_dg v.natAbs c (by rw [hc]; exact List.mem_cons_self ..)
      unfold isDg at hcd
      unfold atoiAll
      simp only
      rw [if_neg (by omega), ← hc, hm]
      simp only
      rw [if_neg (by omega), if_neg (by omega), if_neg (by omega)]
      congr 1
      omega
theorem atoi_bd {l : List UInt8} {v : Int} (h : atoiAll l = .ok v) : -9223372036854775808 ≤ v ∧ v ≤ 9223372036854775807 := by
  unfold atoiAll at h
  split at h
  · cases h
  · simp only at h
    split at h
    · cases h
    · cases h
    · split at h
      · cases h
      · split at h
        · cases h
        · next h1 h2 =>
          injection h with h
          split at h <;> omega
theorem trim_rst (s : ByteArray) : trimPrefix s.data.toList [45] = rst s := by
  unfold trimPrefix rst sgn hasPrefix
  cases hs : s.data.toList with
  | nil => simp
  | cons c r =>
    by_cases e : c = 45
    · subst e; simp
    · simp [e]
      intro h; exact absurd h.symm e
end Go.Proofs.YtefofijdpacleaaDoor
