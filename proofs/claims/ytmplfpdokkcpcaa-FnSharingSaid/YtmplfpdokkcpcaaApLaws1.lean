/-
  Walks of the laws FnExactAreWeights and FnExactShareUpTo.
-/
import Derived.Test.YtmplfpdokkcpcaaShare
namespace Go.Proofs.Ytmplfpdokkcpcaa
open Go.RowKit cost num
set_option linter.unusedVariables false
set_option linter.unusedSimpArgs false

theorem IntsF.row {w : World} {A : Option Addr} {n cap : Nat} {f : Nat → Int} (h : IntsF w A n cap f) {W : World} {g : Nat} (hr : Row W g 3 n (fun i => .int .i64 (f i))) : IntsF W (some ⟨g, 0, none⟩) n n f :=
  IntsF.of_row hr (by have := h.max; have := h.le; omega) (Nat.le_refl _) (fun i hi => h.bounds hi)

theorem law_AreWeights (w : World) (A : Option Addr) (n cap : Nat) (f : Nat → Int) (h : IntsF w A n cap f) :
    Calls Try.prog 3 #[.slice A n cap] w fun e w' => e = .returned (.bool true) ∧ Below w.heap.size w w' := by
  have hn : n ≤ 9223372036854775807 := by have := h.max; have := h.le; omega
  have H := Lib.hid h
  clear h
  by_cases hbig : 1048576 < n
  · have hbig' : (1048576 : Int) < (n : Int) := by omega
    go_enter Try.func3, Try.ntmps3
    go_wp2_with fail
    go_ret
    exact ⟨rfl, Below.refl _ _⟩
  · have hbig' : ¬ (1048576 : Int) < (n : Int) := by omega
    have hle : n ≤ 1048576 := by omega
    go_enter Try.func3, Try.ntmps3
    go_wp2_with fail
    refine (toIntS_any _ _ _ _ _ H.out hle).mono ?_; rintro e w1 ⟨rfl, hr1, hb1⟩
    have R1 := Lib.hid hr1
    have B1 := Lib.hid hb1
    clear hr1 hb1
    go_wp2_with fail
    refine (spec_areWeights _ _ _ _ _ (H.out.row R1.out)).mono ?_; rintro e w1' ⟨rfl, hw'⟩; obtain rfl := hw'.symm
    go_wp2_with fail
    refine (toIntS_any _ _ _ _ _ (H.out.call B1.out) hle).mono ?_; rintro e w2 ⟨rfl, hr2, hb2⟩
    have R2 := Lib.hid hr2
    have B2 := Lib.hid ((B1.out).trans (hb2.mono B1.out.size))
    clear hr2 hb2
    go_wp2_with fail
    refine (impl_areWeights _ _ _ _ _ (H.out.row R2.out)).mono ?_; rintro e w2' ⟨rfl, hw'⟩; obtain rfl := hw'.symm
    go_wp2_with fail
    refine (toIntS_any _ _ _ _ _ (H.out.call B2.out) hle).mono ?_; rintro e w3 ⟨rfl, hr3, hb3⟩
    have R3 := Lib.hid hr3
    have R2' := Lib.hid (R2.out.call hb3)
    have B3 := Lib.hid ((B2.out).trans (hb3.mono B2.out.size))
    clear hr3 hb3
    go_wp2_with fail
    refine (eqIntS_same _ _ _ _ _ _ _ _ (H.out.row R2'.out) (H.out.row R3.out) (fun i hi => rfl)).mono ?_; rintro e w3' ⟨rfl, m3, rfl⟩
    go_wp2_with fail
    go_ret
    exact ⟨rfl, B3.out.trans ⟨rfl, rfl, rfl, Nat.le_refl _, fun _ _ => rfl⟩⟩
set_option maxHeartbeats 1000000 in
theorem law_ShareUpTo (w : World) (t : Int) (A : Option Addr) (n cap : Nat) (f : Nat → Int) (h : IntsF w A n cap f) (k : Int) :
    Calls Try.prog 4 #[.int .i64 t, .slice A n cap, .int .i64 k] w fun e w' => e = .returned (.bool true) ∧ Below w.heap.size w w' := by
  have hn : n ≤ 9223372036854775807 := by have := h.max; have := h.le; omega
  have H := Lib.hid h
  clear h
  by_cases hbig : 1048576 < n
  · have hbig' : (1048576 : Int) < (n : Int) := by omega
    go_enter Try.func4, Try.ntmps4
    go_wp2_with fail
    go_ret
    exact ⟨rfl, Below.refl _ _⟩
  · have hbig' : ¬ (1048576 : Int) < (n : Int) := by omega
    have hle : n ≤ 1048576 := by omega
    cases haw : awB f n
    · skip
      go_enter Try.func4, Try.ntmps4
      go_wp2_with fail
      refine (toIntS_any _ _ _ _ _ H.out hle).mono ?_; rintro e w1 ⟨rfl, hr1, hb1⟩
      have R1 := Lib.hid hr1
      have B1 := Lib.hid hb1
      clear hr1 hb1
      go_wp2_with fail
      refine (spec_share_no1 _ _ _ _ _ (H.out.row R1.out) t k haw).mono ?_; rintro e w1' ⟨rfl, hw'⟩; obtain rfl := hw'.symm
      go_wp2_with fail
      refine (toIntS_any _ _ _ _ _ (H.out.call B1.out) hle).mono ?_; rintro e w2 ⟨rfl, hr2, hb2⟩
      have R2 := Lib.hid hr2
      have B2 := Lib.hid ((B1.out).trans (hb2.mono B1.out.size))
      clear hr2 hb2
      go_wp2_with fail
      refine (impl_share_no1 _ _ _ _ _ (H.out.row R2.out) t k haw).mono ?_; rintro e w2' ⟨rfl, hw'⟩; obtain rfl := hw'.symm
      go_wp2_with fail
      refine (toIntS_any _ _ _ _ _ (H.out.call B2.out) hle).mono ?_; rintro e w3 ⟨rfl, hr3, hb3⟩
      have R3 := Lib.hid hr3
      have R2' := Lib.hid (R2.out.call hb3)
      have B3 := Lib.hid ((B2.out).trans (hb3.mono B2.out.size))
      clear hr3 hb3
      go_wp2_with fail
      refine (eqIntS_same _ _ _ _ _ _ _ _ (H.out.row R2'.out) (H.out.row R3.out) (fun i hi => rfl)).mono ?_; rintro e w3' ⟨rfl, m3, rfl⟩
      go_wp2_with fail
      go_ret
      exact ⟨rfl, B3.out.trans ⟨rfl, rfl, rfl, Nat.le_refl _, fun _ _ => rfl⟩⟩
    · by_cases ht : -1000000000 ≤ t ∧ t ≤ 1000000000
      · by_cases hk : 0 ≤ k ∧ k ≤ n
        · obtain ⟨k', rfl⟩ : ∃ k' : Nat, k = (k' : Int) := ⟨k.toNat, by omega⟩
          have hk' : k' ≤ n := by omega
          have hs := sh_bounds haw ht hk'
          have HT := Lib.hid ht
          clear ht hk
          go_enter Try.func4, Try.ntmps4
          go_wp2_with fail
          refine (toIntS_any _ _ _ _ _ H.out hle).mono ?_; rintro e w1 ⟨rfl, hr1, hb1⟩
          have R1 := Lib.hid hr1
          have B1 := Lib.hid hb1
          clear hr1 hb1
          go_wp2_with fail
          refine (spec_share_yes _ _ _ _ _ (H.out.row R1.out) t k' haw HT.out hk').mono ?_; rintro e w1' ⟨rfl, hw'⟩; obtain rfl := hw'.symm
          go_wp2_with fail
          refine (toIntS_any _ _ _ _ _ (H.out.call B1.out) hle).mono ?_; rintro e w2 ⟨rfl, hr2, hb2⟩
          have R2 := Lib.hid hr2
          have B2 := Lib.hid ((B1.out).trans (hb2.mono B1.out.size))
          clear hr2 hb2
          go_wp2_with fail
          refine (impl_share_yes _ _ _ _ _ (H.out.row R2.out) t k' haw HT.out hk').mono ?_; rintro e w2' ⟨rfl, hw'⟩; obtain rfl := hw'.symm
          go_wp2_with fail
          refine (toIntS_any _ _ _ _ _ (H.out.call B2.out) hle).mono ?_; rintro e w3 ⟨rfl, hr3, hb3⟩
          have R3 := Lib.hid hr3
          have R2' := Lib.hid (R2.out.call hb3)
          have B3 := Lib.hid ((B2.out).trans (hb3.mono B2.out.size))
          clear hr3 hb3
          go_wp2_with fail
          refine (eqIntS_same _ _ _ _ _ _ _ _ (H.out.row R2'.out) (H.out.row R3.out) (fun i hi => rfl)).mono ?_; rintro e w3' ⟨rfl, m3, rfl⟩
          go_wp2_with fail
          go_ret
          exact ⟨rfl, B3.out.trans ⟨rfl, rfl, rfl, Nat.le_refl _, fun _ _ => rfl⟩⟩
        · skip
          go_enter Try.func4, Try.ntmps4
          go_wp2_with fail
          refine (toIntS_any _ _ _ _ _ H.out hle).mono ?_; rintro e w1 ⟨rfl, hr1, hb1⟩
          have R1 := Lib.hid hr1
          have B1 := Lib.hid hb1
          clear hr1 hb1
          go_wp2_with fail
          refine (spec_share_no3 _ _ _ _ _ (H.out.row R1.out) t k haw ht hk).mono ?_; rintro e w1' ⟨rfl, hw'⟩; obtain rfl := hw'.symm
          go_wp2_with fail
          refine (toIntS_any _ _ _ _ _ (H.out.call B1.out) hle).mono ?_; rintro e w2 ⟨rfl, hr2, hb2⟩
          have R2 := Lib.hid hr2
          have B2 := Lib.hid ((B1.out).trans (hb2.mono B1.out.size))
          clear hr2 hb2
          go_wp2_with fail
          refine (impl_share_no3 _ _ _ _ _ (H.out.row R2.out) t k haw ht hk).mono ?_; rintro e w2' ⟨rfl, hw'⟩; obtain rfl := hw'.symm
          go_wp2_with fail
          refine (toIntS_any _ _ _ _ _ (H.out.call B2.out) hle).mono ?_; rintro e w3 ⟨rfl, hr3, hb3⟩
          have R3 := Lib.hid hr3
          have R2' := Lib.hid (R2.out.call hb3)
          have B3 := Lib.hid ((B2.out).trans (hb3.mono B2.out.size))
          clear hr3 hb3
          go_wp2_with fail
          refine (eqIntS_same _ _ _ _ _ _ _ _ (H.out.row R2'.out) (H.out.row R3.out) (fun i hi => rfl)).mono ?_; rintro e w3' ⟨rfl, m3, rfl⟩
          go_wp2_with fail
          go_ret
          exact ⟨rfl, B3.out.trans ⟨rfl, rfl, rfl, Nat.le_refl _, fun _ _ => rfl⟩⟩
      · skip
        go_enter Try.func4, Try.ntmps4
        go_wp2_with fail
        refine (toIntS_any _ _ _ _ _ H.out hle).mono ?_; rintro e w1 ⟨rfl, hr1, hb1⟩
        have R1 := Lib.hid hr1
        have B1 := Lib.hid hb1
        clear hr1 hb1
        go_wp2_with fail
        refine (spec_share_no2 _ _ _ _ _ (H.out.row R1.out) t k haw ht).mono ?_; rintro e w1' ⟨rfl, hw'⟩; obtain rfl := hw'.symm
        go_wp2_with fail
        refine (toIntS_any _ _ _ _ _ (H.out.call B1.out) hle).mono ?_; rintro e w2 ⟨rfl, hr2, hb2⟩
        have R2 := Lib.hid hr2
        have B2 := Lib.hid ((B1.out).trans (hb2.mono B1.out.size))
        clear hr2 hb2
        go_wp2_with fail
        refine (impl_share_no2 _ _ _ _ _ (H.out.row R2.out) t k haw ht).mono ?_; rintro e w2' ⟨rfl, hw'⟩; obtain rfl := hw'.symm
        go_wp2_with fail
        refine (toIntS_any _ _ _ _ _ (H.out.call B2.out) hle).mono ?_; rintro e w3 ⟨rfl, hr3, hb3⟩
        have R3 := Lib.hid hr3
        have R2' := Lib.hid (R2.out.call hb3)
        have B3 := Lib.hid ((B2.out).trans (hb3.mono B2.out.size))
        clear hr3 hb3
        go_wp2_with fail
        refine (eqIntS_same _ _ _ _ _ _ _ _ (H.out.row R2'.out) (H.out.row R3.out) (fun i hi => rfl)).mono ?_; rintro e w3' ⟨rfl, m3, rfl⟩
        go_wp2_with fail
        go_ret
        exact ⟨rfl, B3.out.trans ⟨rfl, rfl, rfl, Nat.le_refl _, fun _ _ => rfl⟩⟩
end Go.Proofs.Ytmplfpdokkcpcaa
