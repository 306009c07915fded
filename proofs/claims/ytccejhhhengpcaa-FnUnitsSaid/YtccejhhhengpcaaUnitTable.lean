/-
  Contracts of IsUnitTable, of the reference and of the program. (Printed by gen/unittable.py.)
-/
import Derived.Test.YtccejhhhengpcaaReach
import Derived.Test.YtccejhhhengpcaaReached
import Derived.Lib.QuietBelow
namespace Go.Proofs.Ytccejhhhengpcaa
open Go.RowKit Go.Sort num
set_option linter.unusedVariables false
set_option linter.unusedSimpArgs false

theorem find_or (L : List Ent) (x : ByteArray) : (fndV (nmF L) x L.length = -1 ∧ x ∉ nms L) ∨ ∃ j : Nat, fndV (nmF L) x L.length = (j : Int) ∧ j < L.length ∧ nmF L j = x ∧ (x, faF L j) ∈ L := by
  by_cases h : fndV (nmF L) x L.length < 0
  · left
    refine ⟨?_, find_neg.1 h⟩
    have := fndV_bd (f := nmF L) (s := x) L.length
    omega
  · right; exact find_pos h
/-- what the reference asks of one rule -/
def FineAt (T : Tab) (R : List Ent) (k : Nat) : Prop := (T.fr k ∈ nms R ↔ T.to k ∈ nms R) ∧ ∀ f g, (T.fr k, f) ∈ R → (T.to k, g) ∈ R → mulP f (T.fa k) = g
theorem fineAt_all {T : Tab} {R : List Ent} (h : ∀ k, k < T.n → FineAt T R k) : Fine T R := h
/-- the unit where search i begins -/
def startAt (T : Tab) (i : Nat) : ByteArray := if i % 2 = 1 then T.to (i / 2) else T.fr (i / 2)
theorem table_yes {T : Tab} (ok : okT T) (h : ∀ i, i < 2 * T.n → Fine T (srch T (startAt T i))) : tableB T = true := by
  rw [tableB_iff]
  refine ⟨ok, fun k hk => ⟨?_, ?_⟩⟩
  · rw [found_iff ok.ok]
    have := h (2 * k) (by omega)
    unfold startAt at this
    rw [if_neg (by omega), show 2 * k / 2 = k by omega] at this
    exact this
  · rw [found_iff ok.ok]
    have := h (2 * k + 1) (by omega)
    unfold startAt at this
    rw [if_pos (by omega), show (2 * k + 1) / 2 = k by omega] at this
    exact this
theorem table_no {T : Tab} (ok : okT T) {i k : Nat} (hi : i < 2 * T.n) (hk : k < T.n) (h : ¬ FineAt T (srch T (startAt T i)) k) : tableB T = false := by
  refine tableB_no fun q => ?_
  have h1 := q.2 (i / 2) (by omega)
  rw [found_iff ok.ok, found_iff ok.ok] at h1
  apply h
  unfold startAt
  by_cases e : i % 2 = 1
  · rw [if_pos e]; exact h1.2 k hk
  · rw [if_neg e]; exact h1.1 k hk

set_option maxRecDepth 20000 in
set_option maxHeartbeats 4000000 in
theorem impl_IsUnitTable (w : World) (A : Option Addr) (n c : Nat) (fr to : Nat → ByteArray) (nu de : Nat → Int) (h : UnitRuleF w A n c fr to nu de) :
    Calls Try.prog 13 #[.slice A n c] w fun e w' => e = .returned (.bool (tableB (tb n fr to nu de))) ∧ Below w.heap.size w w' := by
  have hm := h.le
  have H := Lib.hid h
  clear h
  obtain ⟨Q, hQ⟩ : ∃ Q, Q = tableB (tb n fr to nu de) := ⟨_, rfl⟩
  have HQ := Lib.hid hQ
  rw [← hQ]
  clear hQ
  by_cases hbig : 12 < n
  · have hb : (12 : Int) < (n : Int) := by omega
    have E := Lib.hid (show tableB (tb n fr to nu de) = false from tableB_big (by show ¬ n ≤ 12; omega))
    clear hbig
    go_enter Try.func13, Try.ntmps13
    go_wp2_with fail
    go_ret
    exact ⟨by rw [HQ.out, E.out]; rfl, Below.refl _ _⟩
  have hb : ¬ (12 : Int) < (n : Int) := by omega
  go_enter Try.func13, Try.ntmps13
  go_wp2_with fail
  go_loopw [4, 18] (fun _ iv wr => ∃ k : Nat, iv = .int .i64 (k : Int) ∧ k ≤ n ∧ (∀ j, j < k → ruleB (fr j) (to j) (nu j) (de j) = true) ∧ Below w.heap.size w wr) (fun _ iv _ => n - (intOf iv).toNat)
  case atStart => exact ⟨0, rfl, Nat.zero_le _, fun j hj => absurd hj (by omega), Below.refl _ _⟩
  case round =>
    obtain ⟨k, rfl, hk, hall, hbe⟩ := hrel
    have AL := Lib.hid hall
    have BE := Lib.hid hbe
    clear hall hbe
    by_cases hkn : k < n
    case pos =>
      have hkn' : (k : Int) < (n : Int) := by omega
      obtain ⟨b, o, rfl, hB, r0, r1, r2, r3⟩ := (H.out.call BE.out).cells hkn
      have bad := fun h => HQ.out.trans (tableB_rule (T := tb n fr to nu de) (k := k) hkn h)
      have good := fun h => (fun j (hj : j < k + 1) => (if e : j = k then by rw [e]; exact h else AL.out j (by omega) : ruleB (fr j) (to j) (nu j) (de j) = true))
      have bad2 : ruleB (fr k) (to k) (nu k) (de k) = false → Q = false := bad
      have good2 : ruleB (fr k) (to k) (nu k) (de k) = true → ∀ j, j < k + 1 → ruleB (fr j) (to j) (nu j) (de j) = true := good
      have z1 := H.out.z_fr k hkn
      have z2 := H.out.z_to k hkn
      obtain ⟨f, hf⟩ : ∃ f, f = fr k := ⟨_, rfl⟩
      obtain ⟨t, ht⟩ : ∃ t, t = to k := ⟨_, rfl⟩
      obtain ⟨x, hx⟩ : ∃ x, x = nu k := ⟨_, rfl⟩
      obtain ⟨y, hy⟩ : ∃ y, y = de k := ⟨_, rfl⟩
      rw [← hf] at r0 z1 bad2 good2
      rw [← ht] at r1 z2 bad2 good2
      rw [← hx] at r2 bad2 good2
      rw [← hy] at r3 bad2 good2
      have BAD := Lib.hid bad2
      have GOOD := Lib.hid good2
      have BY := Lib.hid (show Below w.heap.size w (wr.alloc (.cells #[.string f, .string t, .int .i64 x, .int .i64 y] 59)) from BE.out.alloc BE.out.size _)
      clear bad good bad2 good2 hf ht hx hy
      cases hc1 : isC f
      case false =>
        have NO := Lib.hid (BAD.out (by unfold ruleB; rw [hc1]; rfl))
        go_wp2_with fail
        refine (impl_isCode f _ z1).mono ?_; rintro e w2 ⟨rfl, hw2⟩; obtain rfl := hw2.symm
        rw [hc1]
        go_wp2_with fail
        go_ret
        exact ⟨by rw [NO.out]; rfl, BY.out⟩
      cases hc2 : isC t
      case false =>
        have NO := Lib.hid (BAD.out (by unfold ruleB; rw [hc1, hc2]; rfl))
        go_wp2_with fail
        refine (impl_isCode f _ z1).mono ?_; rintro e w2 ⟨rfl, hw2⟩; obtain rfl := hw2.symm
        rw [hc1]
        go_wp2_with fail
        refine (impl_isCode t _ z2).mono ?_; rintro e w2 ⟨rfl, hw2⟩; obtain rfl := hw2.symm
        rw [hc2]
        go_wp2_with fail
        go_ret
        exact ⟨by rw [NO.out]; rfl, BY.out⟩
      by_cases he : f = t
      case pos =>
        subst he
        have NO := Lib.hid (BAD.out (by unfold ruleB; rw [hc1]; simp))
        have ht := txt_same f
        go_wp2_with fail
        refine (impl_isCode f _ z1).mono ?_; rintro e w2 ⟨rfl, hw2⟩; obtain rfl := hw2.symm
        rw [hc1]
        go_wp2_with fail
        refine (impl_isCode f _ z2).mono ?_; rintro e w2 ⟨rfl, hw2⟩; obtain rfl := hw2.symm
        rw [hc1]
        go_wp2_with fail
        go_ret
        exact ⟨by rw [NO.out]; rfl, BY.out⟩
      have ht := txt_other he
      cases hf : facB x y
      case false =>
        have NO := Lib.hid (BAD.out (by rw [ruleB_fac, hc1, hc2, hf]; simp))
        clear he
        go_wp2_with fail
        refine (impl_isCode f _ z1).mono ?_; rintro e w2 ⟨rfl, hw2⟩; obtain rfl := hw2.symm
        rw [hc1]
        go_wp2_with fail
        refine (impl_isCode t _ z2).mono ?_; rintro e w2 ⟨rfl, hw2⟩; obtain rfl := hw2.symm
        rw [hc2]
        go_wp2_with fail
        refine (aFactor_any x y _).mono ?_; rintro e w3 ⟨rfl, b3⟩
        rw [hf]
        have B3 := Lib.hid (BY.out.trans (b3.mono BY.out.size))
        clear b3
        go_wp2_with fail
        go_ret
        exact ⟨by rw [NO.out]; rfl, B3.out⟩
      have YES := Lib.hid (GOOD.out (by rw [ruleB_fac, hc1, hc2, hf]; simpa using he))
      clear he
      go_wp2_with fail
      refine (impl_isCode f _ z1).mono ?_; rintro e w2 ⟨rfl, hw2⟩; obtain rfl := hw2.symm
      rw [hc1]
      go_wp2_with fail
      refine (impl_isCode t _ z2).mono ?_; rintro e w2 ⟨rfl, hw2⟩; obtain rfl := hw2.symm
      rw [hc2]
      go_wp2_with fail
      refine (aFactor_any x y _).mono ?_; rintro e w3 ⟨rfl, b3⟩
      rw [hf]
      have B3 := Lib.hid (BY.out.trans (b3.mono BY.out.size))
      clear b3
      go_wp2_with fail
      go_roundw
      case rel => exact ⟨k + 1, by go_num, by omega, YES.out, B3.out⟩
      case measure => simp [intOf]; omega
    obtain rfl : k = n := by omega
    have hkn' : ¬ (k : Int) < (k : Int) := by omega
    have hok : okT (tb k fr to nu de) := ⟨by show k ≤ 12; omega, AL.out⟩
    have OK := Lib.hid hok
    clear hok AL
    obtain ⟨wo, rfl⟩ : ∃ wo : World, wo = wr := ⟨_, rfl⟩
    go_wp2_with fail
    go_loopw [6, 7, 8, 9, 10, 11, 12, 48] (fun _ _ _ _ _ _ _ iv wr => ∃ j : Nat, iv = .int .i64 (j : Int) ∧ j ≤ k ∧ (∀ i, i < j → found (tb k fr to nu de) (fr i) ∧ found (tb k fr to nu de) (to i)) ∧ Below w.heap.size w wr) (fun _ _ _ _ _ _ _ iv _ => k - (intOf iv).toNat)
    case atStart => exact ⟨0, rfl, Nat.zero_le _, fun j hj => absurd hj (by omega), BE.out⟩
    case round =>
      clear BE
      obtain ⟨j, rfl, hj, hall, hbe⟩ := hrel
      have AL := Lib.hid hall
      have BE := Lib.hid hbe
      clear hall hbe
      by_cases hjk : j < k
      case neg =>
        obtain rfl : j = k := by omega
        have YES := Lib.hid (HQ.out.trans (show tableB (tb j fr to nu de) = true from tableB_iff.2 ⟨OK.out, AL.out⟩))
        go_wp2_with fail
        go_ret
        exact ⟨by rw [YES.out]; rfl, BE.out⟩
      have hjk' : (j : Int) < (k : Int) := by omega
      obtain ⟨b, o, rfl, hB, r0, r1, r2, r3⟩ := (H.out.call BE.out).cells hjk
      have z1 := H.out.z_fr j hjk
      have z2 := H.out.z_to j hjk
      have BY := Lib.hid (show Below w.heap.size w (wr.alloc (.cells #[.string (fr j), .string (to j), .int .i64 (nu j), .int .i64 (de j)] 59)) from BE.out.alloc BE.out.size _)
      have nof := fun h => HQ.out.trans (tableB_fr (T := tb k fr to nu de) (k := j) hjk h)
      have not_ := fun h => HQ.out.trans (tableB_to (T := tb k fr to nu de) (k := j) hjk h)
      have NF := Lib.hid (show ¬ found (tb k fr to nu de) (fr j) → Q = false from nof)
      have NT := Lib.hid (show ¬ found (tb k fr to nu de) (to j) → Q = false from not_)
      clear nof not_
      go_wp2_with fail
      refine (reached_any _ _ _ _ fr to nu de (H.out.call BY.out) OK.out (fr j) z1).mono ?_
      rintro e w2 (⟨hf1, gu, cu, gv, cv, rfl, st2, b2⟩ | ⟨hf1, rfl, b2⟩)
      · have x1 : w2.cell? ⟨wr.heap.size, 1, none⟩ = some (.string (to j)) := by rw [b2.cell (p := ⟨wr.heap.size, 1, none⟩) (by simp)]; simp [go_sem]
        have B2 := Lib.hid (BY.out.trans (b2.mono BY.out.size))
        clear b2 st2
        go_wp2_with fail
        refine (reached_any _ _ _ _ fr to nu de (H.out.call B2.out) OK.out (to j) z2).mono ?_
        rintro e w3 (⟨hf2, gu2, cu2, gv2, cv2, rfl, st3, b3⟩ | ⟨hf2, rfl, b3⟩)
        · have B3 := Lib.hid (B2.out.trans (b3.mono B2.out.size))
          have YES := Lib.hid (show ∀ i, i < j + 1 → found (tb k fr to nu de) (fr i) ∧ found (tb k fr to nu de) (to i) from fun i hi => by
            by_cases e : i = j
            · subst e; exact ⟨hf1, hf2⟩
            · exact AL.out i (by omega))
          clear b3 st3 hf1 hf2 x1
          go_wp2_with fail
          go_roundw
          case rel => exact ⟨j + 1, by go_num, by omega, YES.out, B3.out⟩
          case measure => simp [intOf]; omega
        · have B3 := Lib.hid (B2.out.trans (b3.mono B2.out.size))
          have NO := Lib.hid (NT.out hf2)
          clear b3 hf1 hf2 x1
          go_wp2_with fail
          go_ret
          exact ⟨by rw [NO.out]; rfl, B3.out⟩
      · have B2 := Lib.hid (BY.out.trans (b2.mono BY.out.size))
        have NO := Lib.hid (NF.out hf1)
        clear b2 hf1
        go_wp2_with fail
        go_ret
        exact ⟨by rw [NO.out]; rfl, B2.out⟩
set_option maxRecDepth 20000 in
set_option maxHeartbeats 4000000 in
theorem spec_IsUnitTable (w : World) (A : Option Addr) (n c : Nat) (fr to : Nat → ByteArray) (nu de : Nat → Int) (h : UnitRuleF w A n c fr to nu de) (hn20 : n ≤ 1048576) :
    Calls Try.prog 11 #[.slice A n c] w fun e w' => e = .returned (.bool (tableB (tb n fr to nu de))) ∧ Below w.heap.size w w' := by
  have hm := h.le
  have H := Lib.hid h
  clear h
  obtain ⟨Q, hQ⟩ : ∃ Q, Q = tableB (tb n fr to nu de) := ⟨_, rfl⟩
  have HQ := Lib.hid hQ
  rw [← hQ]
  clear hQ
  by_cases hbig : 12 < n
  · have hb : ¬ (n : Int) ≤ 12 := by omega
    have hd : decide ((n : Int) ≤ 12) = false := by simp; omega
    have hn0 : (0 : Int) < (n : Int) := by omega
    have hn1 : (0 : Int) < 2 * (n : Int) := by omega
    have E := Lib.hid (show tableB (tb n fr to nu de) = false from tableB_big (by show ¬ n ≤ 12; omega))
    have wn : IntKind.i64.wrap (2 * (n : Int)) = 2 * (n : Int) := IntWalk.i64_in _ ⟨by omega, by omega⟩
    clear hbig
    go_enter Try.func11, Try.ntmps11
    go_wp2_with fail
    go_loopw [3] (fun iv wr => iv = .int .i64 0 ∧ wr = w) (fun _ _ => 0)
    case atStart => exact ⟨rfl, rfl⟩
    case round =>
      obtain ⟨rfl, rfl⟩ := hrel
      go_wp2_with fail
      go_loopw [4, 5, 6, 7, 8, 9, 10] (fun iv _ _ _ _ _ _ wr2 => iv = .int .i64 0 ∧ wr2 = wr) (fun _ _ _ _ _ _ _ _ => 0)
      case atStart => exact ⟨rfl, rfl⟩
      case round =>
        obtain ⟨rfl, rfl⟩ := hrel
        go_wp2_with fail
        go_ret
        exact ⟨by rw [HQ.out, E.out]; simp [hb], Below.refl _ _⟩
  have hb : (n : Int) ≤ 12 := by omega
  have hb2 : decide ((n : Int) ≤ 12) = true := by simpa using hb
  go_enter Try.func11, Try.ntmps11
  go_wp2_with fail
  go_loopw [3] (fun iv wr => ∃ k : Nat, iv = .int .i64 (k : Int) ∧ k ≤ n ∧ (∀ j, j < k → ruleB (fr j) (to j) (nu j) (de j) = true) ∧ Below w.heap.size w wr) (fun iv _ => n - (intOf iv).toNat)
  case atStart => exact ⟨0, rfl, Nat.zero_le _, fun j hj => absurd hj (by omega), Below.refl _ _⟩
  case round =>
    obtain ⟨k, rfl, hk, hall, hbe⟩ := hrel
    have AL := Lib.hid hall
    have BE := Lib.hid hbe
    clear hall hbe
    by_cases hkn : k < n
    case pos =>
      have hkn' : (k : Int) < (n : Int) := by omega
      obtain ⟨b, o, rfl, hB, r0, r1, r2, r3⟩ := (H.out.call BE.out).cells hkn
      have bad := fun h => HQ.out.trans (tableB_rule (T := tb n fr to nu de) (k := k) hkn h)
      have good := fun h => (fun j (hj : j < k + 1) => (if e : j = k then by rw [e]; exact h else AL.out j (by omega) : ruleB (fr j) (to j) (nu j) (de j) = true))
      have BAD := Lib.hid (show ruleB (fr k) (to k) (nu k) (de k) = false → Q = false from bad)
      have GOOD := Lib.hid (show ruleB (fr k) (to k) (nu k) (de k) = true → ∀ j, j < k + 1 → ruleB (fr j) (to j) (nu j) (de j) = true from good)
      have z1 := H.out.z_fr k hkn
      have z2 := H.out.z_to k hkn
      clear bad good
      go_wp2_with fail
      refine (l5Rule_any (fr k) (to k) (nu k) (de k) _ z1 z2).mono ?_; rintro e w3 ⟨rfl, b3⟩
      have B3 := Lib.hid (BE.out.trans (b3.mono BE.out.size))
      clear b3
      cases hr : ruleB (fr k) (to k) (nu k) (de k)
      · have NO := Lib.hid (BAD.out hr)
        clear hr
        go_wp2_with fail
        go_ret
        exact ⟨by rw [NO.out]; rfl, B3.out⟩
      · have YES := Lib.hid (GOOD.out hr)
        clear hr
        go_wp2_with fail
        go_roundw
        case rel => exact ⟨k + 1, by go_num, by omega, YES.out, B3.out⟩
        case measure => simp [intOf]; omega
    obtain rfl : k = n := by omega
    have hkn' : ¬ (k : Int) < (k : Int) := by omega
    have hok : okT (tb k fr to nu de) := ⟨by show k ≤ 12; omega, AL.out⟩
    have OK := Lib.hid hok
    clear hok AL
    obtain ⟨T, hT⟩ : ∃ T, T = tb k fr to nu de := ⟨_, rfl⟩
    have HT := Lib.hid hT
    have wn : IntKind.i64.wrap (2 * (k : Int)) = 2 * (k : Int) := IntWalk.i64_in _ ⟨by omega, by omega⟩
    obtain ⟨wo, rfl⟩ : ∃ wo : World, wo = wr := ⟨_, rfl⟩
    clear hT
    go_wp2_with fail
    go_loopw [4, 5, 6, 7, 8, 9, 10] (fun iv _ _ _ _ _ _ wr => ∃ i : Nat, iv = .int .i64 (i : Int) ∧ i ≤ 2 * k ∧ (∀ j, j < i → Fine T (srch T (startAt T j))) ∧ Below w.heap.size w wr) (fun iv _ _ _ _ _ _ _ => 2 * k - (intOf iv).toNat)
    case atStart => exact ⟨0, rfl, Nat.zero_le _, fun j hj => absurd hj (by omega), BE.out⟩
    case round =>
      clear BE
      obtain ⟨i, rfl, hi, hall, hbe⟩ := hrel
      have AL := Lib.hid hall
      have BE := Lib.hid hbe
      clear hall hbe
      by_cases hik : i < 2 * k
      case neg =>
        obtain rfl : i = 2 * k := by omega
        have hik' : ¬ ((2 * k : Nat) : Int) < 2 * (k : Int) := by omega
        have hik2 : decide (((2 * k : Nat) : Int) < 2 * (k : Int)) = false := by simp
        have YES := Lib.hid (HQ.out.trans (show tableB (tb k fr to nu de) = true by rw [← HT.out]; exact table_yes (HT.out ▸ OK.out : okT T) (by rw [HT.out] at AL ⊢; exact AL.out)))
        generalize ((2 * k : Nat) : Int) = q at *
        go_wp2_with fail
        go_ret
        exact ⟨by rw [YES.out]; simp [hb], BE.out⟩
      have hik' : (i : Int) < 2 * (k : Int) := by omega
      have hd : (i : Int).tdiv 2 = ((i / 2 : Nat) : Int) := by rw [Int.tdiv_eq_ediv_of_nonneg (by omega)]; omega
      have hrm : (i : Int).tmod 2 = ((i % 2 : Nat) : Int) := by rw [Int.tmod_eq_emod_of_nonneg (by omega)]; omega
      have hdk : i / 2 < k := by omega
      obtain ⟨b, o, rfl, hB, r0, r1, r2, r3⟩ := (H.out.call BE.out).cells hdk
      have z1 := H.out.z_fr (i / 2) hdk
      have z2 := H.out.z_to (i / 2) hdk
      have hhd : ((i / 2 : Nat) : Int) < (k : Int) := by omega
      obtain ⟨s, hs⟩ : ∃ s, s = startAt T i := ⟨_, rfl⟩
      have zs : s.size ≤ 9223372036854775807 := by
        rw [hs]; unfold startAt; rw [HT.out]
        split
        · exact z2
        · exact z1
      have hs1 : i % 2 = 1 → to (i / 2) = s := fun h => by rw [hs]; unfold startAt; rw [if_pos h, HT.out]; rfl
      have hs0 : ¬ i % 2 = 1 → fr (i / 2) = s := fun h => by rw [hs]; unfold startAt; rw [if_neg h, HT.out]; rfl
      have HS := Lib.hid hs
      have HS1 := Lib.hid hs1
      have HS0 := Lib.hid hs0
      have GDS := Lib.hid (srch_good T (startAt T i))
      have REACH := Lib.hid (fun (W : World) (hW : Below w.heap.size w W) => l5Reach_any W _ k c fr to nu de (H.out.call hW) OK.out s zs)
      rw [← HT.out] at REACH
      have NOT := Lib.hid (show ∀ x, x < k → ¬ FineAt T (srch T s) x → Q = false from fun x hx hno => HQ.out.trans (by
        rw [← HT.out]
        exact table_no (HT.out ▸ OK.out : okT T) (i := i) (k := x) (by rw [HT.out]; exact hik) (by rw [HT.out]; exact hx) (by rw [← HS.out]; exact hno)))
      have LN := Lib.hid (show (srch T s).length ≤ 25 from by rw [hs]; exact srch_len (HT.out ▸ OK.out : okT T) _)
      have SZ := Lib.hid (show ∀ x, x < (srch T s).length → (nmF (srch T s) x).size ≤ 9223372036854775807 from good_size (srch_good T s) zs (fun x hx => by rw [HT.out] at hx ⊢; exact ⟨H.out.z_fr x hx, H.out.z_to x hx⟩))
      clear hs hs1 hs0 z1 z2
      obtain ⟨R, hR⟩ : ∃ R, R = srch T s := ⟨_, rfl⟩
      rw [← hR] at REACH NOT LN SZ
      have HR := Lib.hid hR
      clear hR
      by_cases hodd : i % 2 = 1
      all_goals
        first
        | (have e := HS1.out hodd; rw [e] at r1; have hx : ((i % 2 : Nat) : Int) = 1 := (by omega); rw [hx] at hrm)
        | (have e := HS0.out hodd; rw [e] at r0; have hx : ((i % 2 : Nat) : Int) = 0 := (by omega); rw [hx] at hrm)
        clear e hx
        go_wp2_with fail
        refine (REACH.out _ BE.out).mono ?_
        rintro e w2 ⟨gu, cu, gv, cv, rfl, st2, b2⟩
        have ST2 := Lib.hid st2
        have B2 := Lib.hid (BE.out.trans (b2.mono BE.out.size))
        clear b2 st2 r0 r1 r2 r3 hB
        obtain ⟨wo, rfl⟩ : ∃ wo : World, wo = wr := ⟨_, rfl⟩
        go_wp2_with fail
        go_loopw [8, 9, 10] (fun kv _ _ wr => ∃ x : Nat, kv = .int .i64 (x : Int) ∧ x ≤ k ∧ (∀ y, y < x → FineAt T R y) ∧ Below w2.heap.size w2 wr) (fun kv _ _ _ => k - (intOf kv).toNat)
        case atStart => exact ⟨0, rfl, Nat.zero_le _, fun j hj => absurd hj (by omega), Below.refl _ _⟩
        case round =>
          obtain ⟨x, rfl, hx, hfine, hbx⟩ := hrel
          have FNE := Lib.hid hfine
          have BX := Lib.hid (B2.out.trans (hbx.mono B2.out.size))
          have STX := Lib.hid (show ReachSt wo.heap.size wr gu cu gv cv R from ST2.out.call hbx)
          have SUB := Lib.hid hbx
          clear hfine hbx
          by_cases hxk : x < k
          case neg =>
            obtain rfl : x = k := by omega
            have hxk' : ¬ (x : Int) < (x : Int) := by omega
            have YES := Lib.hid (show ∀ j, j < i + 1 → Fine T (srch T (startAt T j)) from fun j hj => by
              by_cases e : j = i
              · subst e; rw [← HS.out, ← HR.out]; exact fineAt_all (by rw [HT.out] at FNE ⊢; exact FNE.out)
              · exact AL.out j (by omega))
            go_wp2_with fail
            go_roundw
            case rel => exact ⟨i + 1, by go_num, by omega, YES.out, BX.out⟩
            case measure => simp [intOf]; omega
          have hxk' : (x : Int) < (k : Int) := by omega
          obtain ⟨b3, o3, e3, hB3, r0, r1, r2, r3⟩ := (H.out.call BX.out).cells hxk
          injection e3 with e3; injection e3 with e3 e4 _; subst e3; subst e4
          have NX := Lib.hid (NOT.out x hxk)
          have FX := Lib.hid (show FineAt T R x → ∀ y, y < x + 1 → FineAt T R y from fun h y hy => by
            by_cases e : y = x
            · subst e; exact h
            · exact FNE.out y (by omega))
          have FA := find_or R (fr x)
          have FB := find_or R (to x)
          have CA := Lib.hid (fun (W : World) (h : ReachSt wo.heap.size W gu cu gv cv R) => l1Find_any W (some ⟨gu, 0, none⟩) R.length cu (nmF R) (fr x) (h.strs SZ.out))
          have CB := Lib.hid (fun (W : World) (h : ReachSt wo.heap.size W gu cu gv cv R) => l1Find_any W (some ⟨gu, 0, none⟩) R.length cu (nmF R) (to x) (h.strs SZ.out))
          have hfa : FineAt T R x ↔ (fr x ∈ nms R ↔ to x ∈ nms R) ∧ ∀ f g, (fr x, f) ∈ R → (to x, g) ∈ R → mulP f (nu x, de x) = g := by unfold FineAt; rw [HT.out]; exact Iff.rfl
          have FAI := Lib.hid hfa
          have GD := Lib.hid (show Good T s R by rw [HR.out]; exact srch_good T s)
          have cCM : ∀ (p : Int × Int) (W : World), Calls Try.prog 20 #[.agg #[.int .i64 p.1, .int .i64 p.2], .agg #[.int .i64 (nu x), .int .i64 (de x)]] W fun e w' => e = .returned (.agg #[.int .i64 (mulP p (nu x, de x)).1, .int .i64 (mulP p (nu x, de x)).2]) ∧ Below W.heap.size W w' := fun p W => spec_MultiplyRatios _ _ _ _ W
          have CM := Lib.hid cCM
          clear hfa cCM
          generalize fr x = f0 at *
          generalize to x = t0 at *
          generalize nu x = x0 at *
          generalize de x = y0 at *
          have L25 := LN.out
          rcases FA with ⟨ea, na⟩ | ⟨ja, ea, hja, _, ma⟩
          · rw [ea] at CA
            rcases FB with ⟨eb, nb⟩ | ⟨jb, eb, hjb, _, mb⟩
            · rw [eb] at CB
              have YES := Lib.hid (FX.out (FAI.out.2 ⟨⟨fun h => absurd h na, fun h => absurd h nb⟩, fun f g hf _ => absurd (nmsI hf) na⟩))
              clear ea eb na nb
              go_wp2_with fail
              refine (CA.out _ STX.out).mono ?_; rintro e w4 ⟨rfl, hw4⟩; obtain rfl := hw4.symm
              go_wp2_with fail
              refine (CB.out _ STX.out).mono ?_; rintro e w4 ⟨rfl, hw4⟩; obtain rfl := hw4.symm
              go_wp2_with fail
              go_quiet (fail)
              go_wp2_with fail
              go_roundw
              case rel => exact ⟨x + 1, by go_num, by omega, YES.out, below_drewN SUB.out _⟩
              case measure => simp [intOf]; omega
            · rw [eb] at CB
              have NO := Lib.hid (NX.out (fun h => na ((FAI.out.1 h).1.2 (nmsI mb))))
              have hdb : decide ((jb : Int) < 0) = false := by simp
              clear ea eb na mb
              go_wp2_with fail
              refine (CA.out _ STX.out).mono ?_; rintro e w4 ⟨rfl, hw4⟩; obtain rfl := hw4.symm
              go_wp2_with fail
              refine (CB.out _ STX.out).mono ?_; rintro e w4 ⟨rfl, hw4⟩; obtain rfl := hw4.symm
              go_wp2_with fail
              go_quiet (fail)
              go_wp2_with fail
              go_ret
              exact ⟨by rw [NO.out]; rfl, below_drewN BX.out _⟩
          · rw [ea] at CA
            have hda : decide ((ja : Int) < 0) = false := by simp
            rcases FB with ⟨eb, nb⟩ | ⟨jb, eb, hjb, _, mb⟩
            · rw [eb] at CB
              have NO := Lib.hid (NX.out (fun h => nb ((FAI.out.1 h).1.1 (nmsI ma))))
              clear ea eb nb ma
              go_wp2_with fail
              refine (CA.out _ STX.out).mono ?_; rintro e w4 ⟨rfl, hw4⟩; obtain rfl := hw4.symm
              go_wp2_with fail
              refine (CB.out _ STX.out).mono ?_; rintro e w4 ⟨rfl, hw4⟩; obtain rfl := hw4.symm
              go_wp2_with fail
              go_quiet (fail)
              go_wp2_with fail
              go_ret
              exact ⟨by rw [NO.out]; rfl, below_drewN BX.out _⟩
            · rw [eb] at CB
              have hdb : decide ((jb : Int) < 0) = false := by simp
              have hga : (0 : Int) ≤ (ja : Int) := by omega
              have hgd : decide ((ja : Int) ≥ 0) = true := by simp
              have hja' : (ja : Int) < (R.length : Int) := by omega
              have hjb' : (jb : Int) < (R.length : Int) := by omega
              have q0 := STX.out.num hja
              have q1 := STX.out.den hja
              have q2 := STX.out.num hjb
              have q3 := STX.out.den hjb
              obtain ⟨p, hp⟩ : ∃ p, p = faF R ja := ⟨_, rfl⟩
              obtain ⟨g, hg⟩ : ∃ g, g = faF R jb := ⟨_, rfl⟩
              rw [← hp] at q0 q1 ma
              rw [← hg] at q2 q3 mb
              obtain ⟨m, hm'⟩ : ∃ m, m = mulP p (x0, y0) := ⟨_, rfl⟩
              have CMp := Lib.hid (CM.out p)
              rw [← hm'] at CMp
              have hyes : m = g → FineAt T R x := fun h => FAI.out.2 ⟨⟨fun _ => nmsI mb, fun _ => nmsI ma⟩, fun f' g' hf' hg' => by rw [GD.out.one hf' ma, GD.out.one hg' mb, ← hm', h]⟩
              have hno : m ≠ g → Q = false := fun h => NX.out (fun hF => h (by rw [hm']; exact (FAI.out.1 hF).2 p g ma mb))
              have YES := Lib.hid (fun h => FX.out (hyes h))
              have NO := Lib.hid hno
              clear ea eb hp hg hm' hyes hno ma mb CM
              have z0 := fun d os => cell_regrown r0 d os
              have z1 := fun d os => cell_regrown r1 d os
              have z2 := fun d os => cell_regrown r2 d os
              have z3 := fun d os => cell_regrown r3 d os
              have c0 := fun d os => cell_regrown q0 d os
              have c1 := fun d os => cell_regrown q1 d os
              have c2 := fun d os => cell_regrown q2 d os
              have c3 := fun d os => cell_regrown q3 d os
              rcases (by by_cases a : m = g; exact .inl a; exact .inr (by by_cases b : m.1 = g.1; exact .inl ⟨b, fun h => a (Prod.ext b h)⟩; exact .inr b) : m = g ∨ (m.1 = g.1 ∧ ¬ m.2 = g.2) ∨ ¬ m.1 = g.1) with hc | ⟨hc, hc2⟩ | hc
              · have Y2 := Lib.hid (YES.out hc)
                have v0 : (m.1 == g.1) = true := by rw [hc]; simp
                have v1 : (m.2 == g.2) = true := by rw [hc]; simp
                clear hc
                go_wp2_with fail
                refine (CA.out _ STX.out).mono ?_; rintro e w4 ⟨rfl, hw4⟩; obtain rfl := hw4.symm
                go_wp2_with fail
                refine (CB.out _ STX.out).mono ?_; rintro e w4 ⟨rfl, hw4⟩; obtain rfl := hw4.symm
                go_wp2_with fail
                refine wp_region_quiet_below (by kernel_rfl) (by kernel_rfl) ?_
                repeat (first | go_big_quiet_step ((go_at_call 20; exact Calls.regrown_of (CMp.out _))) | quiet_step ((go_at_call 20; exact Calls.regrown_of (CMp.out _))))
                refine wpQuiet_nil ?_
                intro _ hw'
                obtain ⟨⟨dq, osq⟩, hw''⟩ := hw'
                subst hw''
                have SUB2 := Lib.hid (SUB.out.trans ((below_regrown wr dq osq).mono SUB.out.size))
                go_wp2_with fail
                go_roundw
                case rel => exact ⟨x + 1, by go_num, by omega, Y2.out, SUB2.out⟩
                case measure => simp [intOf]; omega
              · have N2 := Lib.hid (NO.out (fun h => hc2 (by rw [h])))
                have v0 : (m.1 == g.1) = true := by rw [hc]; simp
                have v1 : (m.2 == g.2) = false := by simpa using hc2
                clear hc hc2
                go_wp2_with fail
                refine (CA.out _ STX.out).mono ?_; rintro e w4 ⟨rfl, hw4⟩; obtain rfl := hw4.symm
                go_wp2_with fail
                refine (CB.out _ STX.out).mono ?_; rintro e w4 ⟨rfl, hw4⟩; obtain rfl := hw4.symm
                go_wp2_with fail
                refine wp_region_quiet_below (by kernel_rfl) (by kernel_rfl) ?_
                repeat (first | go_big_quiet_step ((go_at_call 20; exact Calls.regrown_of (CMp.out _))) | quiet_step ((go_at_call 20; exact Calls.regrown_of (CMp.out _))))
                refine wpQuiet_nil ?_
                intro _ hw'
                obtain ⟨⟨dq, osq⟩, hw''⟩ := hw'
                subst hw''
                go_wp2_with fail
                go_ret
                exact ⟨by rw [N2.out]; rfl, BX.out.trans ((below_regrown wr _ _).mono BX.out.size)⟩
              · have N2 := Lib.hid (NO.out (fun h => hc (by rw [h])))
                have v0 : (m.1 == g.1) = false := by simpa using hc
                clear hc
                go_wp2_with fail
                refine (CA.out _ STX.out).mono ?_; rintro e w4 ⟨rfl, hw4⟩; obtain rfl := hw4.symm
                go_wp2_with fail
                refine (CB.out _ STX.out).mono ?_; rintro e w4 ⟨rfl, hw4⟩; obtain rfl := hw4.symm
                go_wp2_with fail
                refine wp_region_quiet_below (by kernel_rfl) (by kernel_rfl) ?_
                repeat (first | go_big_quiet_step ((go_at_call 20; exact Calls.regrown_of (CMp.out _))) | quiet_step ((go_at_call 20; exact Calls.regrown_of (CMp.out _))))
                refine wpQuiet_nil ?_
                intro _ hw'
                obtain ⟨⟨dq, osq⟩, hw''⟩ := hw'
                subst hw''
                go_wp2_with fail
                go_ret
                exact ⟨by rw [N2.out]; rfl, BX.out.trans ((below_regrown wr _ _).mono BX.out.size)⟩
end Go.Proofs.Ytccejhhhengpcaa
