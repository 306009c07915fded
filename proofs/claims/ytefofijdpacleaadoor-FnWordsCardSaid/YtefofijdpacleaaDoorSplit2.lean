/-
  Contract of the program's SplitWords; walk of the law FnExactSplitWords.
-/
import Derived.Test.YtefofijdpacleaaDoorSplit
namespace Go.Proofs.YtefofijdpacleaaDoor
open Go.RowKit
open Go.Lib (splitB countB)
set_option linter.unusedVariables false
set_option linter.unusedSimpArgs false

theorem empty_not {s : ByteArray} (h : s.size = 0) : ¬ Full s := by
  have h1 := sp_start s
  have h2 : SpRel s s.size 0 [] := by rw [h]; exact h1
  exact not_full (k := s.size) (fr := 0) (Nat.le_refl _) (sp_end h2 (Nat.zero_le _)) h
/-- what the program's SplitWords gives -/
def SplitPost2 (s : ByteArray) (w : World) (e : Ending) (w' : World) : Prop :=
  (Full s ∧ ∃ g, e = .returned (strV (some ⟨g, 0, none⟩) (wsB s).length (wsB s).length true) ∧ w.heap.size ≤ g ∧ Row w' g 9 (wsB s).length (fun i => .string (wordAt s i)) ∧ Below w.heap.size w w') ∨
  (¬ Full s ∧ e = .returned (strV none 0 0 (decide (s.size = 0))) ∧ Below w.heap.size w w')
theorem isEmpty_of {s : ByteArray} (h : s.size ≠ 0) : s.toList.isEmpty = false := by rw [empty_size]; simp [h]
set_option maxRecDepth 20000 in
set_option maxHeartbeats 1000000 in
theorem impl_SplitWords (s : ByteArray) (w : World) (hs : s.size ≤ 1048576) (hc : CntOk w) :
    Calls Tryd.prog 16 #[.string s] w (SplitPost2 s w) := by
  by_cases h0 : s.size = 0
  · have he : s.toList.isEmpty = true := by rw [empty_size]; simp [h0]
    have HF := Lib.hid (empty_not h0)
    have H0 := Lib.hid h0
    clear h0
    go_enter Tryd.func16, Tryd.ntmps16
    go_wp2_with fail
    go_ret2
    exact .inr ⟨HF.out, by rw [H0.out]; rfl, Below.refl _ _⟩
  have he := isEmpty_of h0
  obtain ⟨_, m, hm⟩ := hc
  have hsp := Tryd.strings_Split s ⟨#[32]⟩ m w (by omega) hm (by decide)
  rw [splitB_ws, ← wsB_length] at hsp
  have hlen := wsB_le s
  have HP := Lib.hid hsp
  have H0 := Lib.hid h0
  clear hsp h0
  go_enter Tryd.func16, Tryd.ntmps16
  go_wp2_with fail
  refine HP.out.mono ?_; rintro e w1 ⟨rfl, hw1⟩
  obtain ⟨n, hn⟩ : ∃ n, n = (wsB s).length := ⟨_, rfl⟩
  have hrow : Row w1 w.heap.size 9 n (fun i => .string (wordAt s i)) := by
    rw [hw1]
    refine row_lit _ _ _ _ _ (by simp; omega) (fun i hi => ?_)
    have := wordAt_get (show i < (wsB s).length by omega)
    simp [this]
  have hbe : Below w.heap.size w w1 := by rw [hw1]; exact (Below.refl _ _).alloc (Nat.le_refl _) _
  rw [← hn] at hlen ⊢
  have hws : ∀ j, j < n → wordAt s j ∈ wsB s := fun j hj => List.mem_of_getElem? (wordAt_get (by omega))
  have hall : (∀ j, j < n → (wordAt s j).size ≠ 0) → Full s := fun h x hx => by
    obtain ⟨i, hi⟩ := List.mem_iff_getElem?.1 hx
    have hl : i < (wsB s).length := by
      rcases Nat.lt_or_ge i (wsB s).length with h | h
      · exact h
      · rw [List.getElem?_eq_none h] at hi; cases hi
    rw [wordAt_get hl] at hi
    injection hi with hi
    rw [← hi]; exact h i (by omega)
  have HW := Lib.hid hws
  have HA := Lib.hid hall
  have HN := Lib.hid hn
  have HB := Lib.hid hbe
  have HR := Lib.hid hrow
  clear hn hw1 hws hall hbe hrow
  go_wp2_with fail
  go_loop [6, 13] (fun _ iv => ∃ k : Nat, k ≤ n ∧ iv = .int .i64 (k : Int) ∧ ∀ j, j < k → (wordAt s j).size ≠ 0) (fun _ iv => n - (intOf iv).toNat)
  case atStart => exact ⟨0, Nat.zero_le _, rfl, fun j hj => absurd hj (by omega)⟩
  case round =>
    obtain ⟨k, hk, rfl, hne⟩ := hrel
    have HE := Lib.hid hne
    clear hne
    by_cases hlt : k < n
    · have hlt' : (k : Int) < (n : Int) := by omega
      have hg := HR.out.cell hlt
      by_cases hz : (wordAt s k).size = 0
      · have hy : (wordAt s k).toList.isEmpty = true := by rw [empty_size]; simp [hz]
        have hnf : ¬ Full s := fun h => h _ (HW.out k hlt) hz
        have HF := Lib.hid hnf
        clear hnf hz
        go_wp2_with fail
        go_ret2
        exact .inr ⟨HF.out, by have := H0.out; simp [this]; rfl, HB.out⟩
      · have hy := isEmpty_of hz
        have HZ := Lib.hid hz
        clear hz
        go_wp2_with fail
        go_round
        case rel => exact ⟨k + 1, by omega, by go_num, fun j hj => (by
          by_cases e : j = k
          · subst e; exact HZ.out
          · exact HE.out j (by omega))⟩
        case measure => simp [intOf]; omega
    · obtain rfl : k = n := by omega
      have hf := HA.out HE.out
      have HF := Lib.hid hf
      clear hf
      go_wp2_with fail
      go_ret2
      exact .inl ⟨HF.out, w.heap.size, by rw [← HN.out]; rfl, Nat.le_refl _, by rw [← HN.out]; exact HR.out, HB.out⟩
theorem markStringS_nil (w : World) (A : Option Addr) (cap : Nat) :
    Calls Tryd.prog 18 #[.slice A 0 cap, .int .i64 1] w fun e w' => e = .returned (.int .i64 1) ∧ w' = w := by
  go_enter Tryd.func18, Tryd.ntmps18
  go_wp2_with fail
  go_loop [1, 5] (fun q i => i = .int .i64 0 ∧ q = .int .i64 1) (fun _ i => 0)
  case atStart => exact ⟨rfl, rfl⟩
  case round =>
    obtain ⟨rfl, rfl⟩ := hrel
    go_wp2_with fail
    go_ret
    exact ⟨rfl, rfl⟩
theorem markB_size (n : Nat) (h : n < 18446744073709551616) : (markB n).size ≤ 21 := by
  rw [mt_size]
  show (109 :: Go.Lib.decDigits n).length ≤ 21
  have := Go.Lib.nDigits_le20 n h
  rw [List.length_cons, Go.Lib.decDigits_length]; omega
theorem StrsF.drewN {w : World} {A : Option Addr} {n cap : Nat} {f : Nat → ByteArray} (h : StrsF w A n cap f) (k : Nat) : StrsF (w.drewN k) A n cap f := ⟨h.sl.drewN k, h.size⟩
theorem StrsF.grown {w w' : World} {A : Option Addr} {n cap r : Nat} {f : Nat → ByteArray} (h : StrsF w A n cap f) (hg : w.grownBy w' (some r)) (hr : ∀ b o, A = some ⟨b, o, none⟩ → b ≠ r) : StrsF w' A n cap f := ⟨h.sl.grown hg hr, h.size⟩
theorem below_drewN' {B : Nat} {w w' : World} (h : Below B w w') (k : Nat) : Below B w (w'.drewN k) := h.trans ⟨rfl, rfl, rfl, Nat.le_refl _, fun _ _ => rfl⟩
theorem CntOk.grown {w w' : World} {r : Nat} (h : CntOk w) (hg : w.grownBy w' (some r)) (hr : 3 ≠ r) : CntOk w' := by
  obtain ⟨h0, m, h1⟩ := h
  exact ⟨Nat.lt_of_lt_of_le h0 hg.size, m, (grown_cell hg (p := ⟨3, 0, none⟩) h0 hr).trans h1⟩
set_option maxRecDepth 20000 in
set_option maxHeartbeats 2000000 in
theorem law_SplitWords (s : ByteArray) (w0 : s.size ≤ maxLen) (w : World) (hc : CntOk w) :
    Calls Tryd.prog 6 #[.string s] w fun e w' => e = .returned (.bool true) ∧ Below w.heap.size w w' := by
  have HC := Lib.hid hc
  clear hc
  have hm : s.size ≤ 9223372036854775807 := by unfold maxLen at w0; omega
  clear w0
  by_cases hb : 1048576 < s.size
  · have hb' : (1048576 : Int) < (s.size : Int) := by omega
    go_enter Tryd.func6, Tryd.ntmps6
    go_wp2_with fail
    go_ret
    exact ⟨rfl, Below.refl _ _⟩
  have hb' : ¬ (1048576 : Int) < (s.size : Int) := by omega
  have hs : s.size ≤ 1048576 := by omega
  have hlen := wsB_le s
  have hsz : ∀ i, i < (wsB s).length → (wordAt s i).size ≤ 9223372036854775807 := fun i hi => by
    have := word_size s _ (List.mem_of_getElem? (wordAt_get hi)); omega
  have n1 : 1 ≤ (wsB s).length := by rw [wsB_length]; omega
  obtain ⟨n, hn⟩ : ∃ n, n = (wsB s).length := ⟨_, rfl⟩
  rw [← hn] at hsz hlen n1
  have HS := Lib.hid hsz
  have HN := Lib.hid hn
  clear hsz hn
  go_enter Tryd.func6, Tryd.ntmps6
  go_wp2_with fail
  refine (spec_SplitWords s _ hs).mono ?_; rintro e w1 hp
  unfold SplitPost at hp
  rw [← HN.out] at hp
  have hb1 : Below w.heap.size w w1 := by
    rcases hp with ⟨_, _, _, _, _, h⟩ | ⟨_, _, _, _, _, h⟩ <;> exact h
  have B1 := Lib.hid hb1
  have C1 := Lib.hid (HC.out.call hb1)
  clear hb1
  rcases hp with ⟨hf, A, c, rfl, hS, _⟩ | ⟨hf, A, c, hcap, rfl, _⟩
  · have HF := Lib.hid hf
    have S1 := Lib.hid hS
    clear hf hS
    unfold strV
    go_wp2_with fail
    refine (impl_SplitWords s _ hs C1.out).mono ?_; rintro e w2 hq
    unfold SplitPost2 at hq
    rw [← HN.out] at hq
    rcases hq with ⟨_, g, rfl, hg1, hrow, hb2⟩ | ⟨h, _⟩
    · have S2 := Lib.hid (S1.out.call hb2)
      have C2 := Lib.hid (C1.out.call hb2)
      have B2 := Lib.hid (B1.out.trans (hb2.mono B1.out.size))
      have hg : w.heap.size ≤ g := Nat.le_trans B1.out.size hg1
      have HR := Lib.hid hrow
      have G2 := Lib.hid (StrsF.of_row hrow (by omega) HS.out)
      have agl : ∀ b o, A = some ⟨b, o, none⟩ → b ≠ g := by
        intro b o e he
        obtain ⟨b', o', e', hB', _⟩ := S1.out.cell (j := 0) (by omega)
        rw [e] at e'
        injection e' with e'
        injection e' with e1 _ _
        omega
      have glo : 3 ≠ g := by have := C1.out.1; omega
      have AG := Lib.hid agl
      clear hrow hb2 hg1 agl
      unfold strV
      go_wp2_with fail
      refine (eqStringS_same _ _ _ n n c _ G2.out S2.out).mono ?_; rintro e w3 ⟨rfl, m3, hw3⟩
      have S3 := Lib.hid (show StrsF w3 A n c (wordAt s) by rw [hw3]; exact S2.out.drewN _)
      have R3 := Lib.hid (show Row w3 g 9 n (fun i => .string (wordAt s i)) by rw [hw3]; exact HR.out)
      have C3 := Lib.hid (show CntOk w3 by rw [hw3]; exact C2.out)
      have B3 := Lib.hid (show Below w.heap.size w w3 by rw [hw3]; exact below_drewN' B2.out _)
      clear hw3
      have hmk := markStringS_any w3 g n n 1 _ R3.out (by omega) (Nat.le_refl _) (by omega) (by omega)
      have e1 : ((1 : Nat) : Int) = 1 := rfl
      rw [e1] at hmk
      have HMK := Lib.hid hmk
      clear hmk e1
      go_wp2_with fail
      refine HMK.out.mono ?_; rintro e w4 ⟨rfl, r4, g4⟩
      have S4 := Lib.hid (S3.out.grown g4 AG.out)
      have C4 := Lib.hid (C3.out.grown g4 glo)
      have B4 := Lib.hid (B3.out.trans (grown_below g4 hg B3.out.size))
      have M4 := Lib.hid (StrsF.of_row r4 (by omega) (fun i hi => by have := markB_size (1 + i) (by omega); unfold markF; omega))
      clear r4 g4 HMK
      have hh := heldStringS_yes w4 (some ⟨g, 0, none⟩) n n 1 M4.out (by omega) (by omega) (by omega)
      have e1 : ((1 : Nat) : Int) = 1 := rfl
      rw [e1] at hh
      have HH := Lib.hid hh
      clear hh e1
      have hpos : ¬ (((1 + n : Nat) : Int) < 0) := by omega
      obtain ⟨q, hq⟩ : ∃ q : Int, q = ((1 + n : Nat) : Int) := ⟨_, rfl⟩
      rw [← hq] at HH hpos ⊢
      have HQ := Lib.hid hq
      clear hq
      go_wp2_with fail
      refine HH.out.mono ?_; rintro e w5 ⟨he5, b5⟩
      subst he5
      have S5 := Lib.hid (S4.out.call b5)
      have C5 := Lib.hid (C4.out.call b5)
      have M5 := Lib.hid (M4.out.call b5)
      have B5 := Lib.hid (B4.out.trans (b5.mono B4.out.size))
      clear b5 HH
      go_wp2_with fail
      refine (impl_SplitWords s _ hs C5.out).mono ?_; rintro e w6 hq
      unfold SplitPost2 at hq
      rw [← HN.out] at hq
      rcases hq with ⟨_, h, rfl, hg1, hrow, hb2⟩ | ⟨h, _⟩
      · have S6 := Lib.hid (S5.out.call hb2)
        have M6 := Lib.hid (M5.out.call hb2)
        have B6 := Lib.hid (B5.out.trans (hb2.mono B5.out.size))
        have G6 := Lib.hid (StrsF.of_row hrow (by omega) HS.out)
        clear hrow hb2 hg1
        unfold strV
        go_wp2_with fail
        refine (eqStringS_same _ _ _ n n c _ G6.out S6.out).mono ?_; rintro e w7 ⟨rfl, m7, hw7⟩
        have M7 := Lib.hid (show StrsF w7 (some ⟨g, 0, none⟩) n n (markF 1) by rw [hw7]; exact M6.out.drewN _)
        have B7 := Lib.hid (show Below w.heap.size w w7 by rw [hw7]; exact below_drewN' B6.out _)
        clear hw7
        have hh := heldStringS_yes w7 (some ⟨g, 0, none⟩) n n 1 M7.out (by omega) (by omega) (by omega)
        have e1 : ((1 : Nat) : Int) = 1 := rfl
        rw [e1, ← HQ.out] at hh
        have HH := Lib.hid hh
        clear hh e1
        go_wp2_with fail
        refine HH.out.mono ?_; rintro e w8 ⟨rfl, b8⟩
        have B8 := Lib.hid (B7.out.trans (b8.mono B7.out.size))
        clear b8
        go_wp2_with fail
        go_ret
        exact ⟨rfl, B8.out⟩
      · exact absurd HF.out h
    · exact absurd HF.out h
  · have HF := Lib.hid hf
    clear hf
    obtain ⟨b, hb⟩ : ∃ b, b = decide (s.size = 0) := ⟨_, rfl⟩
    unfold strV
    rw [← hb]
    have HBB := Lib.hid hb
    clear hb
    go_wp2_with fail
    refine (impl_SplitWords s _ hs C1.out).mono ?_; rintro e w2 hq
    unfold SplitPost2 at hq
    rw [← HN.out] at hq
    rcases hq with ⟨h, _⟩ | ⟨_, rfl, hb2⟩
    · exact absurd h HF.out
    have C2 := Lib.hid (C1.out.call hb2)
    have B2 := Lib.hid (B1.out.trans (hb2.mono B1.out.size))
    clear hb2
    unfold strV
    rw [← HBB.out]
    go_wp2_with fail
    refine (eqStringS_same _ _ _ 0 0 c (fun _ => ByteArray.empty) (StrsF.empty _ _ _ (by omega) _) (StrsF.empty _ _ _ hcap _)).mono ?_; rintro e w3 ⟨rfl, m3, hw3⟩
    have C3 := Lib.hid (show CntOk w3 by rw [hw3]; exact C2.out)
    have B3 := Lib.hid (show Below w.heap.size w w3 by rw [hw3]; exact below_drewN' B2.out _)
    clear hw3
    have hbb : (b != b) = false := by simp
    go_wp2_with fail
    refine (markStringS_nil _ _ _).mono ?_; rintro e w4 ⟨rfl, hw4⟩; obtain rfl := hw4.symm
    have hh := fun w => heldStringS_yes w none 0 0 1 (StrsF.empty _ _ _ (by omega) _) (by omega) (by omega) (by omega)
    have e1 : ((1 : Nat) : Int) = 1 := rfl
    have e2 : ((1 + 0 : Nat) : Int) = 1 := rfl
    simp only [e2] at hh
    have HH := Lib.hid hh
    clear hh e1 e2
    go_wp2_with fail
    refine (HH.out _).mono ?_; rintro e w5 ⟨rfl, b5⟩
    have C5 := Lib.hid (C3.out.call b5)
    have B5 := Lib.hid (B3.out.trans (b5.mono B3.out.size))
    clear b5
    go_wp2_with fail
    refine (impl_SplitWords s _ hs C5.out).mono ?_; rintro e w6 hq
    unfold SplitPost2 at hq
    rw [← HN.out] at hq
    rcases hq with ⟨h, _⟩ | ⟨_, rfl, hb6⟩
    · exact absurd h HF.out
    have B6 := Lib.hid (B5.out.trans (hb6.mono B5.out.size))
    clear hb6
    unfold strV
    rw [← HBB.out]
    go_wp2_with fail
    refine (eqStringS_same _ _ _ 0 0 c (fun _ => ByteArray.empty) (StrsF.empty _ _ _ (by omega) _) (StrsF.empty _ _ _ hcap _)).mono ?_; rintro e w7 ⟨rfl, m7, hw7⟩
    have B7 := Lib.hid (show Below w.heap.size w w7 by rw [hw7]; exact below_drewN' B6.out _)
    clear hw7
    go_wp2_with fail
    refine (HH.out _).mono ?_; rintro e w8 ⟨rfl, b8⟩
    have B8 := Lib.hid (B7.out.trans (b8.mono B7.out.size))
    clear b8
    go_wp2_with fail
    go_ret
    exact ⟨rfl, B8.out⟩
end Go.Proofs.YtefofijdpacleaaDoor
