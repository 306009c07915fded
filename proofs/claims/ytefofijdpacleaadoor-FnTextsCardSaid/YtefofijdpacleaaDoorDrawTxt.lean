/-
  Contracts of DrawFormatInt and DrawParseInt.
-/
import Derived.Test.YtefofijdpacleaaDoorPick
import Derived.Test.YtefofijdpacleaaDoorOnce2
import Derived.Test.YtefofijdpacleaaDoorDrawInt2
import Derived.Test.YtefofijdpacleaaDoorFmtLaw
namespace Go.Proofs.YtefofijdpacleaaDoor
open Go.RowKit
set_option linter.unusedVariables false
set_option linter.unusedSimpArgs false

theorem itoaS_size (n : Int) (h0 : -9223372036854775808 ≤ n) (h1 : n ≤ 9223372036854775807) : (itoaS n).size ≤ 21 := by
  have h : (itoaS n).size = (Go.Lib.itoa n).length := by rw [size_list]; rfl
  have h2 := Go.Lib.nDigits_le20 n.natAbs (by omega)
  rw [h]
  unfold Go.Lib.itoa
  split
  · rw [List.length_cons, Go.Lib.decDigits_length]; omega
  · rw [Go.Lib.decDigits_length, show n.toNat = n.natAbs by omega]; omega
theorem drawFormatInt_any (w : World) (A : Option Addr) (len cap : Nat) (hb : Bytes w A len) :
    Calls Tryd.prog 11 #[.slice A len cap] w fun e w' => ∃ n : Int, e = .returned (.int .i64 n) ∧ -9223372036854775808 ≤ n ∧ n ≤ 9223372036854775807 ∧ Below w.heap.size w w' := by
  go_enter Tryd.func11, Tryd.ntmps11
  go_wp2_with fail
  refine (l1New_any _ _ _ _ hb).mono ?_
  rintro e w1 ⟨g, rfl, c1, b1⟩
  go_wp2_with fail
  refine (l1Once_any w.heap.size g _ 4 c1 (by omega) (by omega)).mono ?_
  rintro e w2 ⟨v, rfl, ⟨b, rfl⟩, c2, hg2⟩
  have b2 := b1.trans (grown_below hg2 c1.base b1.size)
  cases b with
  | true =>
    go_wp2_with fail
    refine (l1Odd_any w.heap.size g _ c2).mono ?_
    rintro e w3 ⟨v, rfl, ⟨z, rfl, hz0, hz1⟩, c3, hg3⟩
    have b3 := b2.trans (grown_below hg3 c2.base b2.size)
    go_wp2_with fail
    go_ret
    exact ⟨_, rfl, hz0, hz1, b3⟩
  | false =>
    go_wp2_with fail
    refine (l1Below_any w.heap.size g _ 1000000 c2 (by omega) (by omega)).mono ?_
    rintro e w3 ⟨v, rfl, ⟨z, rfl, hz0, hz1⟩, c3, hg3⟩
    have b3 := b2.trans (grown_below hg3 c2.base b2.size)
    go_wp2_with fail
    go_ret
    exact ⟨_, rfl, by omega, by omega, b3⟩
set_option maxHeartbeats 800000 in
theorem drawParseInt_any (w : World) (A : Option Addr) (len cap : Nat) (hb : Bytes w A len) :
    Calls Tryd.prog 13 #[.slice A len cap] w fun e w' => ∃ s : ByteArray, e = .returned (.string s) ∧ s.size ≤ 64 ∧ Below w.heap.size w w' := by
  go_enter Tryd.func13, Tryd.ntmps13
  go_wp2_with fail
  refine (l1New_any _ _ _ _ hb).mono ?_
  rintro e w1 ⟨g, rfl, c1, b1⟩
  go_wp2_with fail
  refine (l1Below_any w.heap.size g _ 1000 c1 (by omega) (by omega)).mono ?_
  rintro e w2 ⟨v, rfl, ⟨x, rfl, hx0, hx1⟩, c2, hg2⟩
  have b2 := b1.trans (grown_below hg2 c1.base b1.size)
  obtain ⟨y, hy⟩ : ∃ y : Int, y = x - 500 := ⟨_, rfl⟩
  have hy0 : -9223372036854775808 ≤ y := by omega
  have hy1 : y ≤ 9223372036854775807 := by omega
  have hw : IntKind.i64.wrap (x - 500) = y := by rw [hy]; exact IntWalk.i64_in _ ⟨by omega, by omega⟩
  have hsz := itoaS_size y hy0 hy1
  have hy' : x - 500 = y := by omega
  clear hy
  go_wp2_with fail
  refine (spec_FormatInt y _ hy0 hy1).mono ?_; rintro e w3 ⟨rfl, hw3⟩; obtain rfl := hw3.symm
  generalize itoaS y = s at *
  go_wp2_with fail
  refine (l1Below_any w.heap.size g _ 6 c2 (by omega) (by omega)).mono ?_
  rintro e w4 ⟨v, rfl, ⟨k, rfl, hk0, hk1⟩, c4, hg4⟩
  have b4 := b2.trans (grown_below hg4 c2.base b2.size)
  by_cases k0 : k = 0
  · subst k0
    have a1 := run_string_add_sum (P := Tryd.prog) w4 ⟨#[48]⟩ s (by show 1 + s.size ≤ _; omega)
    have hs : ((⟨#[48]⟩ : ByteArray) ++ s).size ≤ 64 := by rw [ByteArray.size_append]; show 1 + s.size ≤ _; omega
    go_wp2_with fail
    go_ret
    exact ⟨_, rfl, hs, b4⟩
  by_cases k1 : k = 1
  · subst k1
    go_wp2_with fail
    refine (l1Odd_any w.heap.size g _ c4).mono ?_
    rintro e w5 ⟨v, rfl, ⟨z, rfl, hz0, hz1⟩, c5, hg5⟩
    have b5 := b4.trans (grown_below hg5 c4.base b4.size)
    have hsz2 := itoaS_size z hz0 hz1
    go_wp2_with fail
    refine (spec_FormatInt z _ hz0 hz1).mono ?_; rintro e w6 ⟨rfl, hw6⟩; obtain rfl := hw6.symm
    go_wp2_with fail
    go_ret
    exact ⟨_, rfl, by omega, b5⟩
  by_cases k2 : k = 2
  · subst k2
    have hlt := c4.lt
    go_wp2_with fail
    refine (l1Pick_any w.heap.size g w4.heap.size 7 7 _ (Short 64) ?c1 ?c2 ?c3 ?c4 ?c5 ?c6).mono ?_
    case c1 => exact c4.alloc _
    case c2 => omega
    case c3 => omega
    case c4 => omega
    case c5 => simp
    case c6 =>
      refine pick_str rfl ?_
      intro v hv
      simp at hv
      rcases hv with rfl | rfl | rfl | rfl | rfl | rfl | rfl <;> exact ⟨_, rfl, _, rfl, by decide⟩
    rintro e w5 ⟨v, rfl, ⟨z, rfl, hz⟩, c5, hg5⟩
    have b5 := (b4.alloc b4.size _).trans (grown_below hg5 c4.base (b4.alloc b4.size _).size)
    go_wp2_with fail
    go_ret
    exact ⟨_, rfl, hz, b5⟩
  · have e0 : (k == 0) = false := by simp [k0]
    have e1 : (k == 1) = false := by simp [k1]
    have e2 : (k == 2) = false := by simp [k2]
    go_wp2_with fail
    go_ret
    exact ⟨_, rfl, by omega, b4⟩
end Go.Proofs.YtefofijdpacleaaDoor
