/-
  Contracts of Apportion, of the program and of the reference.
-/
import Derived.Test.YtmplfpdokkcpcaaShare
import Derived.OwnWalk
namespace Go.Proofs.Ytmplfpdokkcpcaa
open Go.RowKit cost num
set_option linter.unusedVariables false
set_option linter.unusedSimpArgs false

/-- what a new slice of integers is -/
def Fresh (B : Nat) (w' : World) (A : Option Addr) (n : Nat) (g : Nat → Int) : Prop := n = 0 ∨ ∃ b, A = some ⟨b, 0, none⟩ ∧ B ≤ b ∧ Row w' b 3 n (fun i => .int .i64 (g i))
/-- a new slice of integers and a bool -/
def NewInts (w : World) (n : Nat) (g : Nat → Int) (ok : Bool) (e : Ending) (w' : World) : Prop :=
  ∃ A cap, e = .returned (.tuple #[.slice A n cap, .bool ok]) ∧ IntsF w' A n cap g ∧ Fresh w.heap.size w' A n g ∧ Below w.heap.size w w'
def vals (g : Nat → Int) (n : Nat) : List Value := (List.range n).map (fun i => .int .i64 (g i))
theorem vals_succ (g : Nat → Int) (n : Nat) : vals g (n + 1) = vals g n ++ [.int .i64 (g n)] := by simp [vals, List.range_succ]
theorem vals_length (g : Nat → Int) (n : Nat) : (vals g n).length = n := by simp [vals]
theorem vals_get (g : Nat → Int) (n i : Nat) (h : i < n) : (vals g n).getD i undef = .int .i64 (g i) := by simp [vals, h]
/-- an owned row, as a new slice -/
theorem own_fresh {B : Nat} {w : World} {A : Option Addr} {n cap : Nat} {g : Nat → Int} (h : w.ownsRow B 3 1 (.slice A n cap) n (vals g n)) (hg : ∀ i, i < n → -9223372036854775808 ≤ g i ∧ g i ≤ 9223372036854775807) :
    IntsF w A n cap g ∧ Fresh B w A n g := by
  by_cases h0 : n = 0
  · subst h0
    refine ⟨IntsF.empty w A cap ?_ g, .inl rfl⟩
    obtain ⟨_, h | ⟨g', c', cur, hv, hb, hh, hn, hc, hs, ht⟩⟩ := h
    · have := h.1; injection this with h1 h2 h3; omega
    · injection hv with h1 h2 h3; unfold maxLen at hc; omega
  · obtain ⟨hl, h' | ⟨g', c', cur, hv, hb, hh, hn, hc, hs, ht⟩⟩ := id h
    · exact absurd h'.2 h0
    · injection hv with h1 h2 h3
      subst h1; subst h3
      obtain ⟨hr, hB⟩ := row_own h
      have hr' := hr.congr (f' := fun i => .int .i64 (g i)) (fun i hi => vals_get g n i hi)
      exact ⟨IntsF.of_row hr' (by unfold maxLen at hc; omega) hn hg, .inr ⟨g', rfl, hB, hr'⟩⟩
theorem own_empty (w : World) {B : Nat} (hB : B ≤ w.heap.size) : (w.alloc (.cells #[] 3)).ownsRow B 3 1 (.slice (some ⟨w.heap.size, 0, none⟩) 0 0) 0 [] :=
  World.ownsRow_lit w #[] 0 hB (by unfold maxLen; omega) rfl
theorem own_slice {B : Nat} {T : TypeId} {w : World} {v : Value} {n : Nat} {xs : List Value} (h : w.ownsRow B T 1 v n xs) : ∃ A c, v = .slice A n c := by
  obtain ⟨_, ⟨rfl, rfl⟩ | ⟨g', c', cur, rfl, _⟩⟩ := h
  · exact ⟨_, _, rfl⟩
  · exact ⟨_, _, rfl⟩
def app (f : Nat → Int) (n : Nat) (t : Int) (k : Nat) : Int := sh f n t (k + 1) - sh f n t k
theorem app_bounds {f : Nat → Int} {n : Nat} (h : awB f n = true) {t : Int} (ht : -1000000000 ≤ t ∧ t ≤ 1000000000) : ∀ k, k < n → -2000000000000000000 ≤ app f n t k ∧ app f n t k ≤ 2000000000000000000 := by
  intro k hk
  have h1 := sh_bounds h ht (k := k) (by omega)
  have h2 := sh_bounds h ht (k := k + 1) (by omega)
  unfold app
  omega

theorem impl_app_no1 (w : World) (A : Option Addr) (n cap : Nat) (f : Nat → Int) (h : IntsF w A n cap f) (t : Int) (haw : awB f n = false) :
    Calls Try.prog 19 #[.int .i64 t, .slice A n cap] w (NewInts w 0 (fun _ => 0) false) := by
  have hn : n ≤ 9223372036854775807 := by have := h.max; have := h.le; omega
  have H := Lib.hid h
  clear h
  go_enter Try.func19, Try.ntmps19
  go_wp2_with (first | (go_at_call 12; refine (impl_areWeights _ _ _ _ _ H.out).mono ?_; rintro e w' ⟨rfl, hw'⟩; obtain rfl := hw'.symm) | (go_at_call 30; refine (in_yes _ _ _ _ (by omega)).mono ?_; rintro e w' ⟨rfl, hw'⟩; obtain rfl := hw'.symm) | (go_at_call 30; refine (in_no _ _ _ _ (by omega)).mono ?_; rintro e w' ⟨rfl, hw'⟩; obtain rfl := hw'.symm))
  go_ret2
  exact ⟨_, _, rfl, IntsF.empty _ _ _ (by omega) _, .inl rfl, Below.refl _ _⟩
theorem impl_app_no2 (w : World) (A : Option Addr) (n cap : Nat) (f : Nat → Int) (h : IntsF w A n cap f) (t : Int) (haw : awB f n = true) (ht : ¬ (-1000000000 ≤ t ∧ t ≤ 1000000000)) :
    Calls Try.prog 19 #[.int .i64 t, .slice A n cap] w (NewInts w 0 (fun _ => 0) false) := by
  have hn : n ≤ 9223372036854775807 := by have := h.max; have := h.le; omega
  have H := Lib.hid h
  clear h
  go_enter Try.func19, Try.ntmps19
  go_wp2_with (first | (go_at_call 12; refine (impl_areWeights _ _ _ _ _ H.out).mono ?_; rintro e w' ⟨rfl, hw'⟩; obtain rfl := hw'.symm) | (go_at_call 30; refine (in_no _ _ _ _ (by omega)).mono ?_; rintro e w' ⟨rfl, hw'⟩; obtain rfl := hw'.symm))
  go_ret2
  exact ⟨_, _, rfl, IntsF.empty _ _ _ (by omega) _, .inl rfl, Below.refl _ _⟩
set_option maxHeartbeats 400000 in
theorem impl_app_yes (w : World) (A : Option Addr) (n cap : Nat) (f : Nat → Int) (h : IntsF w A n cap f) (t : Int) (haw : awB f n = true) (ht : -1000000000 ≤ t ∧ t ≤ 1000000000) :
    Calls Try.prog 19 #[.int .i64 t, .slice A n cap] w (NewInts w n (app f n t) true) := by
  have hn : n ≤ 9223372036854775807 := by have := h.max; have := h.le; omega
  have H := Lib.hid h
  clear h
  obtain ⟨n1, n40, hpos⟩ := aw_n haw
  have n1' : (0 : Int) < (n : Int) := by omega
  have n1n : 0 < n := by omega
  have HB := Lib.hid (app_bounds haw ht)
  have HSB := Lib.hid (fun k (hk : k ≤ n) => sh_bounds haw ht (k := k) hk)
  have HT := Lib.hid ht
  have HAW := Lib.hid haw
  skip
  obtain ⟨i0, hi, hz0, hz1, hz2⟩ := info_parts int_info
  go_enter Try.func19, Try.ntmps19
  go_wp2_with (first | (go_at_call 12; refine (impl_areWeights _ _ _ _ _ H.out).mono ?_; rintro e w' ⟨rfl, hw'⟩; obtain rfl := hw'.symm) | (go_at_call 30; refine (in_yes _ _ _ _ (by omega)).mono ?_; rintro e w' ⟨rfl, hw'⟩; obtain rfl := hw'.symm))
  clear haw
  go_loopw [6, 23] (fun v i wr => ∃ k : Nat, k ≤ n ∧ i = .int .i64 (k : Int) ∧ (∃ A' c', v = .slice A' k c') ∧ wr.ownsRow w.heap.size 3 1 v k (vals (app f n t) k) ∧ Below w.heap.size w wr) (fun _ i _ => n - (intOf i).toNat)
  case atStart => exact ⟨0, Nat.zero_le _, rfl, ⟨_, _, rfl⟩, own_empty w (Nat.le_refl _), (Below.refl _ _).alloc (Nat.le_refl _) _⟩
  case round =>
    obtain ⟨k, hk, rfl, ⟨A', c', rfl⟩, hown, hbel⟩ := hrel
    have HO := Lib.hid hown
    have HBE := Lib.hid hbel
    clear hown hbel
    by_cases hlt : k < n
    · have hlt' : (k : Int) < (n : Int) := by omega
      obtain ⟨s1, s2⟩ := HSB.out k (by omega)
      obtain ⟨s3, s4⟩ := HSB.out (k + 1) (by omega)
      go_wp2_with fail
      refine (impl_share_yes _ _ _ _ _ (H.out.call HBE.out) t k HAW.out HT.out (by omega)).mono ?_
      rintro e w1 ⟨rfl, rfl⟩
      go_wp2_with fail
      refine (impl_share_yes _ _ _ _ _ (H.out.call HBE.out) t (k + 1) HAW.out HT.out (by omega)).mono ?_
      rintro e w1 ⟨rfl, rfl⟩
      go_wp2_with (at_builtin; refine wpList_append_own _ rfl _ _ 22 rfl w.heap.size 3 i0 (.int .i64 0) 1 8 Try.underlying22 hi hz0 hz1 hz2 rfl (by decide) _ _ _ rfl (HO.out.alloc _) ⟨w1.heap.size, 0, none⟩ 1 1 [.int .i64 (sh f n t (k + 1) - sh f n t k)] rfl rfl ?c1 ?c2 ?c3 ?c4 ?c5 ?_)
      case c1 =>
        intro j u hj
        match j, hj with
        | 0, hj => simp at hj; subst hj; simp [Addr.add]
      case c2 => intro u hu; simp at hu; subst hu; rfl
      case c3 => unfold maxLen; omega
      case c4 => omega
      case c5 => have := HBE.out.size; simp; omega
      intro v' w2 hown' hgrow hv'
      have hs : ∃ A2 c2, v' = .slice A2 (k + 1) c2 := own_slice hown'
      obtain ⟨A2, c2, rfl⟩ := hs
      have hbel2 : Below w.heap.size w w2 := (HBE.out.alloc HBE.out.size _).grown hgrow (by have := HBE.out.size; simp; omega) (fun b hb => ((HO.out.lt b (by simpa using hb)).1))
      have hown2 : w2.ownsRow w.heap.size 3 1 (.slice A2 (k + 1) c2) (k + 1) (vals (app f n t) (k + 1)) := by rw [vals_succ]; exact hown'
      clear hown' hgrow hv'
      have HO2 := Lib.hid hown2
      have HBE2 := Lib.hid hbel2
      clear hown2 hbel2
      go_wp2_with fail
      go_roundw
      case rel => exact ⟨k + 1, by omega, by go_num, ⟨_, _, rfl⟩, HO2.out, HBE2.out⟩
      case measure => simp [intOf]; omega
    · obtain rfl : k = n := by omega
      go_wp2_with fail
      go_ret2
      obtain ⟨q1, q2⟩ := own_fresh HO.out (fun i hi => by have := HB.out i hi; omega)
      exact ⟨_, _, rfl, q1, q2, HBE.out⟩
set_option maxHeartbeats 400000 in
theorem spec_app_yes (w : World) (A : Option Addr) (n cap : Nat) (f : Nat → Int) (h : IntsF w A n cap f) (t : Int) (haw : awB f n = true) (ht : -1000000000 ≤ t ∧ t ≤ 1000000000) :
    Calls Try.prog 18 #[.int .i64 t, .slice A n cap] w (NewInts w n (app f n t) true) := by
  have hn : n ≤ 9223372036854775807 := by have := h.max; have := h.le; omega
  have H := Lib.hid h
  clear h
  obtain ⟨n1, n40, hpos⟩ := aw_n haw
  have n1' : (0 : Int) < (n : Int) := by omega
  have n1n : 0 < n := by omega
  have HB := Lib.hid (app_bounds haw ht)
  have HSB := Lib.hid (fun k (hk : k ≤ n) => sh_bounds haw ht (k := k) hk)
  have HT := Lib.hid ht
  have HAW := Lib.hid haw
  clear haw
  obtain ⟨i0, hi, hz0, hz1, hz2⟩ := info_parts int_info
  go_enter Try.func18, Try.ntmps18
  go_wp2_with fail
  skip
  go_loopw [6, 7] (fun v i wr => ∃ k : Nat, k ≤ n ∧ i = .int .i64 (k : Int) ∧ (∃ A' c', v = .slice A' k c') ∧ wr.ownsRow w.heap.size 3 1 v k (vals (app f n t) k) ∧ Below w.heap.size w wr) (fun _ i _ => n - (intOf i).toNat)
  case atStart => exact ⟨0, Nat.zero_le _, rfl, ⟨_, _, rfl⟩, own_empty w (Nat.le_refl _), (Below.refl _ _).alloc (Nat.le_refl _) _⟩
  case round =>
    obtain ⟨k, hk, rfl, ⟨A', c', rfl⟩, hown, hbel⟩ := hrel
    have HO := Lib.hid hown
    have HBE := Lib.hid hbel
    clear hown hbel
    by_cases hlt : k < n
    · have hlt' : (k : Int) < (n : Int) := by omega
      obtain ⟨s1, s2⟩ := HSB.out k (by omega)
      obtain ⟨s3, s4⟩ := HSB.out (k + 1) (by omega)
      go_wp2_with fail
      refine (spec_share_yes _ _ _ _ _ (H.out.call HBE.out) t k HAW.out HT.out (by omega)).mono ?_
      rintro e w1 ⟨rfl, rfl⟩
      go_wp2_with fail
      refine (spec_share_yes _ _ _ _ _ (H.out.call HBE.out) t (k + 1) HAW.out HT.out (by omega)).mono ?_
      rintro e w1 ⟨rfl, rfl⟩
      go_wp2_with (at_builtin; refine wpList_append_own _ rfl _ _ 22 rfl w.heap.size 3 i0 (.int .i64 0) 1 8 Try.underlying22 hi hz0 hz1 hz2 rfl (by decide) _ _ _ rfl (HO.out.alloc _) ⟨w1.heap.size, 0, none⟩ 1 1 [.int .i64 (sh f n t (k + 1) - sh f n t k)] rfl rfl ?c1 ?c2 ?c3 ?c4 ?c5 ?_)
      case c1 =>
        intro j u hj
        match j, hj with
        | 0, hj => simp at hj; subst hj; simp [Addr.add]
      case c2 => intro u hu; simp at hu; subst hu; rfl
      case c3 => unfold maxLen; omega
      case c4 => omega
      case c5 => have := HBE.out.size; simp; omega
      intro v' w2 hown' hgrow hv'
      have hs : ∃ A2 c2, v' = .slice A2 (k + 1) c2 := own_slice hown'
      obtain ⟨A2, c2, rfl⟩ := hs
      have hbel2 : Below w.heap.size w w2 := (HBE.out.alloc HBE.out.size _).grown hgrow (by have := HBE.out.size; simp; omega) (fun b hb => ((HO.out.lt b (by simpa using hb)).1))
      have hown2 : w2.ownsRow w.heap.size 3 1 (.slice A2 (k + 1) c2) (k + 1) (vals (app f n t) (k + 1)) := by rw [vals_succ]; exact hown'
      clear hown' hgrow hv'
      have HO2 := Lib.hid hown2
      have HBE2 := Lib.hid hbel2
      clear hown2 hbel2
      go_wp2_with fail
      go_roundw
      case rel => exact ⟨k + 1, by omega, by go_num, ⟨_, _, rfl⟩, HO2.out, HBE2.out⟩
      case measure => simp [intOf]; omega
    · obtain rfl : k = n := by omega
      go_wp2_with fail
      go_ret2
      obtain ⟨q1, q2⟩ := own_fresh HO.out (fun i hi => by have := HB.out i hi; omega)
      exact ⟨_, _, rfl, q1, q2, HBE.out⟩
theorem spec_app_no1 (w : World) (A : Option Addr) (n cap : Nat) (f : Nat → Int) (h : IntsF w A n cap f) (t : Int) (haw : awB f n = false) :
    Calls Try.prog 18 #[.int .i64 t, .slice A n cap] w (NewInts w 0 (fun _ => 0) false) := by
  have hn : n ≤ 9223372036854775807 := by have := h.max; have := h.le; omega
  have H := Lib.hid h
  clear h
  by_cases h0 : n = 0
  · subst h0
    go_enter Try.func18, Try.ntmps18
    go_wp2_with fail
    go_loopw [6, 7] (fun v i wr => v = .slice (some ⟨w.heap.size, 0, none⟩) 0 0 ∧ i = .int .i64 0 ∧ wr = (w.alloc (.cells #[] 3))) (fun _ _ _ => 0)
    case atStart => exact ⟨rfl, rfl, rfl⟩
    case round =>
      obtain ⟨rfl, rfl, rfl⟩ := hrel
      go_wp2_with fail
      go_ret2
      exact ⟨_, _, rfl, IntsF.empty _ _ _ (by omega) _, .inl rfl, (Below.refl _ _).alloc (Nat.le_refl _) _⟩
  · have h1 : (0 : Int) < (n : Int) := by omega
    go_enter Try.func18, Try.ntmps18
    go_wp2_with fail
    go_loopw [6, 7] (fun v i wr => v = .slice (some ⟨w.heap.size, 0, none⟩) 0 0 ∧ i = .int .i64 0 ∧ wr = (w.alloc (.cells #[] 3))) (fun _ _ _ => 0)
    case atStart => exact ⟨rfl, rfl, rfl⟩
    case round =>
      obtain ⟨rfl, rfl, rfl⟩ := hrel
      go_wp2_with fail
      refine (spec_share_no1 _ _ _ _ _ (H.out.alloc _) t 0 haw).mono ?_
      rintro e w1 ⟨rfl, rfl⟩
      go_wp2_with fail
      go_ret2
      exact ⟨_, _, rfl, IntsF.empty _ _ _ (by omega) _, .inl rfl, ((Below.refl _ _).alloc (Nat.le_refl _) _).alloc (by simp) _⟩
theorem spec_app_no2 (w : World) (A : Option Addr) (n cap : Nat) (f : Nat → Int) (h : IntsF w A n cap f) (t : Int) (haw : awB f n = true) (ht : ¬ (-1000000000 ≤ t ∧ t ≤ 1000000000)) :
    Calls Try.prog 18 #[.int .i64 t, .slice A n cap] w (NewInts w 0 (fun _ => 0) false) := by
  have hn : n ≤ 9223372036854775807 := by have := h.max; have := h.le; omega
  have H := Lib.hid h
  clear h
  by_cases h0 : n = 0
  · subst h0
    go_enter Try.func18, Try.ntmps18
    go_wp2_with fail
    go_loopw [6, 7] (fun v i wr => v = .slice (some ⟨w.heap.size, 0, none⟩) 0 0 ∧ i = .int .i64 0 ∧ wr = (w.alloc (.cells #[] 3))) (fun _ _ _ => 0)
    case atStart => exact ⟨rfl, rfl, rfl⟩
    case round =>
      obtain ⟨rfl, rfl, rfl⟩ := hrel
      go_wp2_with fail
      go_ret2
      exact ⟨_, _, rfl, IntsF.empty _ _ _ (by omega) _, .inl rfl, (Below.refl _ _).alloc (Nat.le_refl _) _⟩
  · have h1 : (0 : Int) < (n : Int) := by omega
    go_enter Try.func18, Try.ntmps18
    go_wp2_with fail
    go_loopw [6, 7] (fun v i wr => v = .slice (some ⟨w.heap.size, 0, none⟩) 0 0 ∧ i = .int .i64 0 ∧ wr = (w.alloc (.cells #[] 3))) (fun _ _ _ => 0)
    case atStart => exact ⟨rfl, rfl, rfl⟩
    case round =>
      obtain ⟨rfl, rfl, rfl⟩ := hrel
      go_wp2_with fail
      refine (spec_share_no2 _ _ _ _ _ (H.out.alloc _) t 0 haw ht).mono ?_
      rintro e w1 ⟨rfl, rfl⟩
      go_wp2_with fail
      go_ret2
      exact ⟨_, _, rfl, IntsF.empty _ _ _ (by omega) _, .inl rfl, ((Below.refl _ _).alloc (Nat.le_refl _) _).alloc (by simp) _⟩
end Go.Proofs.Ytmplfpdokkcpcaa
