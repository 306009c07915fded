/-
  Walk of the law FnExactApportion, and the marking of new slices.
-/
import Derived.Test.YtmplfpdokkcpcaaApp
import Derived.Test.YtmplfpdokkcpcaaApLaws1
namespace Go.Proofs.Ytmplfpdokkcpcaa
open Go.RowKit cost num
set_option linter.unusedVariables false
set_option linter.unusedSimpArgs false
theorem drewN_below (w : World) (m : Nat) : Below w.heap.size w (w.drewN m) := ⟨rfl, rfl, rfl, Nat.le_refl _, fun _ _ => rfl⟩
theorem Fresh.call {B : Nat} {w w' : World} {A : Option Addr} {n : Nat} {g : Nat → Int} (h : Fresh B w A n g) (hb : Below w.heap.size w w') : Fresh B w' A n g := by
  rcases h with h | ⟨b, e, h1, hr⟩
  · exact .inl h
  · exact .inr ⟨b, e, h1, hr.call hb⟩
theorem Fresh.grown {B r : Nat} {w w' : World} {A : Option Addr} {n : Nat} {g : Nat → Int} (h : Fresh B w A n g) (hb : w.grownBy w' (some r)) (hr : r < B) : Fresh B w' A n g := by
  rcases h with h | ⟨b, e, h1, hrow⟩
  · exact .inl h
  · exact .inr ⟨b, e, h1, hrow.grown hb (by omega)⟩
theorem IntsF.grownF {B r : Nat} {w w' : World} {A : Option Addr} {n cap : Nat} {g : Nat → Int} (h : IntsF w A n cap g) (hf : Fresh B w A n g) (hb : w.grownBy w' (some r)) (hr : r < B) : IntsF w' A n cap g := by
  rcases hf with h0 | ⟨b, e, h1, hrow⟩
  · subst h0; exact IntsF.empty _ _ _ h.max _
  · exact h.grown hb (fun b' o' e' => by rw [e] at e'; injection e' with e'; injection e' with e' _ _; omega)
theorem markIntS_zero (w : World) (A : Option Addr) (cap : Nat) (k : Int) :
    Calls Try.prog 20 #[.slice A 0 cap, .int .i64 k] w fun e w' => e = .returned (.int .i64 k) ∧ w' = w := by
  go_enter Try.func20, Try.ntmps20
  go_wp2_with fail
  go_loopw [1, 5] (fun v i wr => i = .int .i64 0 ∧ v = .int .i64 k ∧ wr = w) (fun _ _ _ => 0)
  case atStart => exact ⟨rfl, rfl, rfl⟩
  case round =>
    obtain ⟨rfl, rfl, rfl⟩ := hrel
    go_wp2_with fail
    go_ret
    exact ⟨rfl, rfl⟩
/-- the marking of a new slice -/
theorem mark_fresh (B : Nat) (w : World) (A : Option Addr) (n cap : Nat) (g : Nat → Int) (h : IntsF w A n cap g) (hf : Fresh B w A n g) (hn : n ≤ 1048576) (hB : B ≤ w.heap.size) :
    Calls Try.prog 20 #[.slice A n cap, .int .i64 1] w fun e w' => e = .returned (.int .i64 (1 + n)) ∧ IntsF w' A n cap (fun i => 1 + i) ∧ Below B w w' := by
  rcases hf with h0 | ⟨b, rfl, h1, hrow⟩
  · subst h0
    refine (markIntS_zero w A cap 1).mono ?_
    rintro e w' ⟨rfl, rfl⟩
    exact ⟨rfl, IntsF.empty _ _ _ h.max _, Below.refl _ _⟩
  · refine (markIntS_any w b n cap 1 _ hrow hn h.le (by omega) (by omega)).mono ?_
    rintro e w' ⟨rfl, hr, hg⟩
    exact ⟨rfl, IntsF.of_row hr h.max h.le (fun i hi => by omega), grown_below hg h1 hB⟩
set_option maxHeartbeats 2000000 in
theorem shape_Apportion (w : World) (t : Int) (A : Option Addr) (n cap : Nat) (f : Nat → Int) (h : IntsF w A n cap f) (hle : n ≤ 1048576) (n' : Nat) (g : Nat → Int) (ok : Bool) (hn' : n' ≤ 1048576)
    (hs : ∀ (W : World) (X : Option Addr) (c : Nat), IntsF W X n c f → Calls Try.prog 18 #[.int .i64 t, .slice X n c] W (NewInts W n' g ok))
    (hi : ∀ (W : World) (X : Option Addr) (c : Nat), IntsF W X n c f → Calls Try.prog 19 #[.int .i64 t, .slice X n c] W (NewInts W n' g ok)) :
    Calls Try.prog 6 #[.int .i64 t, .slice A n cap] w fun e w' => e = .returned (.bool true) ∧ Below w.heap.size w w' := by
  have hn : n ≤ 9223372036854775807 := by omega
  have hbig' : ¬ (1048576 : Int) < (n : Int) := by omega
  have q1 : ¬ (1 + (n : Int)) < 0 := by omega
  have q2 : ¬ (1 + (n' : Int)) < 0 := by omega
  have H := Lib.hid h
  have HS := Lib.hid hs
  have HI := Lib.hid hi
  clear h hs hi
  go_enter Try.func6, Try.ntmps6
  go_wp2_with fail
  refine (toIntS_any _ _ _ _ _ H.out hle).mono ?_; rintro e w1 ⟨rfl, hr1, hb1⟩
  have R1 := Lib.hid hr1
  have B1 := Lib.hid hb1
  clear hr1 hb1
  go_wp2_with fail
  refine (HS.out _ _ _ (H.out.row R1.out)).mono ?_; rintro e w2 ⟨A2, c2, rfl, hi2, hf2, hb2⟩
  have S2 := Lib.hid hi2
  have B2 := Lib.hid (B1.out.trans (hb2.mono B1.out.size))
  clear hi2 hf2 hb2
  go_wp2_with fail
  refine (toIntS_any _ _ _ _ _ (H.out.call B2.out) hle).mono ?_; rintro e w3 ⟨rfl, hr3, hb3⟩
  have R3 := Lib.hid hr3
  have B3 := Lib.hid hb3
  clear hr3 hb3
  have z3 : w2.heap.size < w3.heap.size := R3.out.lt
  go_wp2_with fail
  refine (HI.out _ _ _ (H.out.row R3.out)).mono ?_; rintro e w4 ⟨A4, c4, rfl, hi4, hf4, hb4⟩
  have G4 := Lib.hid hi4
  have F4 := Lib.hid hf4
  have R4 := Lib.hid (R3.out.call hb4)
  have B4 := Lib.hid (B3.out.trans (hb4.mono (Nat.le_of_lt z3)))
  have z4 : w3.heap.size ≤ w4.heap.size := hb4.size
  clear hi4 hf4 hb4
  go_wp2_with fail
  refine (eqIntS_same _ _ _ _ _ _ _ _ G4.out (S2.out.call B4.out) (fun i hi => rfl)).mono ?_; rintro e w4' ⟨rfl, m4, rfl⟩
  have B4' := Lib.hid (B4.out.trans ((drewN_below w4 m4).mono (by omega)))
  go_wp2_with fail
  refine (toIntS_any _ _ _ _ _ ((H.out.call B2.out).call B4'.out) hle).mono ?_; rintro e w5 ⟨rfl, hr5, hb5⟩
  have hb5' : Below w4.heap.size w4 w5 := (drewN_below w4 m4).trans hb5
  have z5 : w4.heap.size ≤ w5.heap.size := hb5'.size
  have R5 := Lib.hid hr5
  have X5 := Lib.hid (R4.out.call hb5')
  have G5 := Lib.hid (G4.out.call hb5')
  have F5 := Lib.hid (F4.out.call hb5')
  have B5 := Lib.hid (B4.out.trans (hb5'.mono (by omega)))
  clear hr5 hb5 hb5'
  go_wp2_with fail
  refine (eqIntS_same _ _ _ _ _ _ _ _ (H.out.row X5.out) (H.out.row R5.out) (fun i hi => rfl)).mono ?_; rintro e w5' ⟨rfl, m5, rfl⟩
  go_wp2_with fail
  refine (markIntS_any _ _ n n 1 _ (X5.out.drewN m5) hle (Nat.le_refl _) (by omega) (by omega)).mono ?_; rintro e w6 ⟨rfl, hr6, hg6⟩
  have z6 : w5.heap.size ≤ w6.heap.size := hg6.size
  have G6 := Lib.hid ((G5.out.drewN m5).grownF (F5.out.call (drewN_below _ m5)) hg6 z3)
  have F6 := Lib.hid ((F5.out.call (drewN_below _ m5)).grown hg6 z3)
  have B6 := Lib.hid ((B5.out.trans ((drewN_below w5 m5).mono (by omega))).trans (grown_below (B := w2.heap.size) hg6 (Nat.le_refl _) (by simp; omega)))
  clear hr6 hg6
  go_wp2_with fail
  refine (eqIntS_same _ _ _ _ _ _ _ _ G6.out (S2.out.call B6.out) (fun i hi => rfl)).mono ?_; rintro e w6' ⟨rfl, m6, rfl⟩
  go_wp2_with fail
  refine (mark_fresh w3.heap.size _ _ _ _ _ (G6.out.drewN m6) (F6.out.call (drewN_below _ m6)) hn' (by simp; omega)).mono ?_; rintro e w7 ⟨rfl, hi7, hb7⟩
  have z7 : w6.heap.size ≤ w7.heap.size := hb7.size
  have G7 := Lib.hid hi7
  have B7 := Lib.hid ((B6.out.trans ((drewN_below w6 m6).mono (by omega))).trans (hb7.mono (Nat.le_of_lt z3)))
  clear hi7 hb7
  go_wp2_with fail
  refine (heldIntS_yes _ _ _ _ 1 _ G7.out hn' (by omega) (by omega) (fun i hi => rfl)).mono ?_; rintro e w7' ⟨rfl, hw'⟩; obtain rfl := hw'.symm
  go_wp2_with fail
  refine (toIntS_any _ _ _ _ _ ((H.out.call B2.out).call B7.out) hle).mono ?_; rintro e w8 ⟨rfl, hr8, hb8⟩
  have z8 : w7.heap.size ≤ w8.heap.size := hb8.size
  have R8 := Lib.hid hr8
  have G8 := Lib.hid (G7.out.call hb8)
  have B8 := Lib.hid (B7.out.trans (hb8.mono (by omega)))
  clear hr8 hb8
  go_wp2_with fail
  refine (HI.out _ _ _ (H.out.row R8.out)).mono ?_; rintro e w9 ⟨A9, c9, rfl, hi9, hf9, hb9⟩
  have J9 := Lib.hid hi9
  have G9 := Lib.hid (G8.out.call hb9)
  have B9 := Lib.hid (B8.out.trans (hb9.mono (by omega)))
  have z9 : w8.heap.size ≤ w9.heap.size := hb9.size
  clear hi9 hf9 hb9
  go_wp2_with fail
  refine (eqIntS_same _ _ _ _ _ _ _ _ J9.out (S2.out.call B9.out) (fun i hi => rfl)).mono ?_; rintro e w9' ⟨rfl, m9, rfl⟩
  go_wp2_with fail
  refine (heldIntS_yes _ _ _ _ 1 _ (G9.out.drewN m9) hn' (by omega) (by omega) (fun i hi => rfl)).mono ?_; rintro e w9' ⟨rfl, hw'⟩; obtain rfl := hw'.symm
  go_wp2_with fail
  go_ret
  exact ⟨rfl, (B2.out.trans (B9.out.mono B2.out.size)).trans ((drewN_below w9 m9).mono (by have := B2.out.size; omega))⟩
theorem law_Apportion (w : World) (t : Int) (A : Option Addr) (n cap : Nat) (f : Nat → Int) (h : IntsF w A n cap f) :
    Calls Try.prog 6 #[.int .i64 t, .slice A n cap] w fun e w' => e = .returned (.bool true) ∧ Below w.heap.size w w' := by
  by_cases hle : n ≤ 1048576
  · cases haw : awB f n
    · exact shape_Apportion w t A n cap f h hle 0 (fun _ => 0) false (by omega) (fun W X c hx => spec_app_no1 W X n c f hx t haw) (fun W X c hx => impl_app_no1 W X n c f hx t haw)
    · by_cases ht : -1000000000 ≤ t ∧ t ≤ 1000000000
      · exact shape_Apportion w t A n cap f h hle n _ true hle (fun W X c hx => spec_app_yes W X n c f hx t haw ht) (fun W X c hx => impl_app_yes W X n c f hx t haw ht)
      · exact shape_Apportion w t A n cap f h hle 0 (fun _ => 0) false (by omega) (fun W X c hx => spec_app_no2 W X n c f hx t haw ht) (fun W X c hx => impl_app_no2 W X n c f hx t haw ht)
  · have hbig' : (1048576 : Int) < (n : Int) := by omega
    have hn : n ≤ 9223372036854775807 := by have := h.max; have := h.le; omega
    clear h
    go_enter Try.func6, Try.ntmps6
    go_wp2_with fail
    go_ret
    exact ⟨rfl, Below.refl _ _⟩
end Go.Proofs.Ytmplfpdokkcpcaa
