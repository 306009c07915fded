/-
  Contracts of the functions that draw totals and weights.
-/
import Derived.Test.YtmplfpdokkcpcaaOwn
import Derived.Test.YtmplfpdokkcpcaaOnce
import Derived.Test.YtmplfpdokkcpcaaDrawInt
namespace Go.Proofs.Ytmplfpdokkcpcaa
open Go.RowKit
set_option linter.unusedVariables false
set_option linter.unusedSimpArgs false

theorem grown_new {a b c : World} {g r : Nat} (h : a.grownBy b (some g)) (k : b.grownBy c (some r)) (hr : a.heap.size ≤ r) : a.grownBy c (some g) :=
  ⟨k.os.trans h.os, k.tape.trans h.tape, k.output.trans h.output, Nat.le_trans h.size k.size, fun i hi hn => (k.block i (Nat.lt_of_lt_of_le hi h.size) (by simp; omega)).trans (h.block i hi hn)⟩
/-- a slice of integers was drawn from the cursor at block g -/
def DrawnInts (B g : Nat) (w : World) (e : Ending) (w' : World) : Prop :=
  ∃ A n cap f, e = .returned (.slice A n cap) ∧ n ≤ 8 ∧ IntsF w' A n cap f ∧ (∀ b o, A = some ⟨b, o, none⟩ → w.heap.size ≤ b) ∧ Cur B w' g ∧ w.grownBy w' (some g)
/-- a number and a new slice of integers -/
def NewIntInts (w : World) (e : Ending) (w' : World) : Prop :=
  ∃ t A n cap f, e = .returned (.tuple #[.int .i64 t, .slice A n cap]) ∧ -9223372036854775808 ≤ t ∧ t ≤ 9223372036854775807 ∧ n ≤ 8 ∧ IntsF w' A n cap f ∧ Below w.heap.size w w'

theorem l3Total_any (B g : Nat) (w : World) (c : Cur B w g) :
    Calls Try.prog 37 #[.pointer (some ⟨g, 0, none⟩)] w (Drawn B g w AnyInt) := by
  go_enter Try.func37, Try.ntmps37
  go_wp2_with fail
  refine (l1Once_any B g _ _ c (by omega) (by omega)).mono ?_
  rintro e w1 ⟨v, rfl, ⟨b, rfl⟩, c1, hg1⟩
  cases b
  · go_wp2_with fail
    refine (l1Below_any B g _ _ c1 (by omega) (by omega)).mono ?_
    rintro e w2 ⟨v, rfl, ⟨y, rfl, hy0, hy1⟩, c2, hg2⟩
    go_wp2_with fail
    go_ret
    exact ⟨_, rfl, ⟨_, rfl, by omega, by omega⟩, c2, grown_trans hg1 hg2⟩
  · go_wp2_with fail
    refine (l1Odd_any B g _ c1).mono ?_
    rintro e w2 ⟨v, rfl, ⟨y, rfl, hy0, hy1⟩, c2, hg2⟩
    go_wp2_with fail
    go_ret
    exact ⟨_, rfl, ⟨_, rfl, hy0, hy1⟩, c2, grown_trans hg1 hg2⟩

set_option maxHeartbeats 1000000 in
theorem l3Weights_any (B g : Nat) (w : World) (c : Cur B w g) :
    Calls Try.prog 38 #[.pointer (some ⟨g, 0, none⟩)] w (DrawnInts B g w) := by
  have hgl := c.lt
  obtain ⟨i0, hi, hz0, hz1, hz2⟩ := info_parts int_info
  go_enter Try.func38, Try.ntmps38
  go_wp2_with fail
  refine (l1Below_any B g _ _ (c.alloc _) (by omega) (by omega)).mono ?_
  rintro e w1 ⟨v, rfl, ⟨x0, rfl, hx0, hx1⟩, c1, hg1⟩
  have hg1' : w.grownBy w1 (some g) := grown_trans (grown_alloc (World.grownBy.refl _ _) _) hg1
  have O1 := Lib.hid ((own_new w (Nat.le_refl _) 3 (fun i => .int .i64 ((fun _ => 0 : Nat → Int) i))).grown hg1 (by omega))
  clear hg1
  go_wp2_with fail
  go_loopw [3, 4] (fun v l wr => ∃ (k g3 c3 : Nat) (x : Int) (f : Nat → Int), v = .slice (some ⟨g3, 0, none⟩) k c3 ∧ l = .int .i64 x ∧ 0 ≤ x ∧ (k : Int) + x ≤ 6 ∧ Own w.heap.size wr 3 g3 k c3 (fun i => .int .i64 (f i)) ∧ (∀ i, i < k → -9223372036854775808 ≤ f i ∧ f i ≤ 9223372036854775807) ∧ Cur B wr g ∧ w.grownBy wr (some g)) (fun _ l _ => (intOf l).toNat)
  case atStart => exact ⟨0, _, _, x0, _, rfl, rfl, hx0, by omega, O1.out, fun i hi => absurd hi (by omega), c1, hg1'⟩
  case round =>
    clear O1 hg1' c1 hx0 hx1
    obtain ⟨k, g3, c3, x, f, rfl, rfl, hx0, hkx, ho3, hf, cr, hgr⟩ := hrel
    have O3 := Lib.hid ho3
    have HF := Lib.hid hf
    have b3 := ho3.base
    have l3 := ho3.lt
    have zr := hgr.size
    clear ho3 hf
    by_cases hxp : 0 < x
    · go_wp2_with fail
      refine (l1PickInt_any B g wr.heap.size 10 10 _ AnyInt ?c1 ?c2 ?c3 ?c4 ?c5 ?c6).mono ?_
      case c1 => exact cr.alloc _
      case c2 => omega
      case c3 => omega
      case c4 => have := cr.lt; omega
      case c5 => simp
      case c6 =>
        refine pick_lit rfl ?_
        intro v hv
        simp at hv
        rcases hv with rfl | rfl | rfl | rfl | rfl | rfl | rfl | rfl | rfl | rfl <;> exact ⟨_, rfl, _, rfl, by omega, by omega⟩
      rintro e w5 ⟨v, rfl, ⟨z, rfl, zlo, zhi⟩, c5, hg5⟩
      have hg5' : wr.grownBy w5 (some g) := grown_trans (grown_alloc (World.grownBy.refl _ _) _) hg5
      have O5 := Lib.hid (((O3.out).grown hg5' (by omega)).congr (f' := fun i => .int .i64 (if i = k then z else f i)) (fun i hi => by rw [if_neg (by omega)]))
      have s5 : w.heap.size ≤ w5.heap.size := by have := hg5'.size; have := zr; omega
      go_wp2_with (at_builtin; refine app1 _ rfl _ _ 22 rfl (i := i0) (z := .int .i64 0) (bytes := 8) Try.underlying22 hi hz0 hz1 hz2 rfl rfl rfl (O5.out) (s5) rfl (by simp) (by omega) (by decide) ?_)
      intro g6 c6 w6 ho6 hg6 hat6
      have G6 := Lib.hid (grown_new (grown_trans hgr hg5') hg6 O5.out.base)
      have hgg : g ≠ g3 := by have := b3; omega
      have C6 := Lib.hid (c5.grown hg6 (by omega) (by have := c5.base; omega))
      have O6 := Lib.hid ho6
      have b6 := ho6.base
      clear ho6 hg6
      
      go_wp2_with fail
      go_roundw
      case rel =>
        refine ⟨k + 1, _, _, x - 1, _, rfl, rfl, by omega, by omega, O6.out, fun i hi => ?_, C6.out, G6.out⟩
        by_cases e : i = k
        · simp only [if_pos e]; omega
        · simp only [if_neg e]; exact HF.out i (by omega)
      case measure => simp [intOf]; omega
    · go_wp2_with fail
      refine (l1Once_any B g _ _ cr (by omega) (by omega)).mono ?_
      rintro e w4 ⟨v, rfl, ⟨b, rfl⟩, c4, hg4⟩
      have O4 := Lib.hid (O3.out.grown hg4 (by omega))
      have hg4' : w.grownBy w4 (some g) := grown_trans hgr hg4
      have z4 := hg4'.size
      clear hgr hg4
      cases b
      · go_wp2_with fail
        go_ret
        exact ⟨_, k, _, f, rfl, by omega, O4.out.ints HF.out, fun b o e => by injection e with e; injection e with e _ _; omega, c4, hg4'⟩
      · go_wp2_with fail
        refine (l1PickInt_any B g w4.heap.size 2 2 _ AnyInt ?c1 ?c2 ?c3 ?c4 ?c5 ?c6).mono ?_
        case c1 => exact c4.alloc _
        case c2 => omega
        case c3 => omega
        case c4 => have := c4.lt; omega
        case c5 => simp
        case c6 =>
          refine pick_lit rfl ?_
          intro v hv
          simp at hv
          rcases hv with rfl | rfl <;> exact ⟨_, rfl, _, rfl, by omega, by omega⟩
        rintro e w5 ⟨v, rfl, ⟨z, rfl, zlo, zhi⟩, c5, hg5⟩
        have hg5' : w4.grownBy w5 (some g) := grown_trans (grown_alloc (World.grownBy.refl _ _) _) hg5
        have O5 := Lib.hid (((O4.out).grown hg5' (by omega)).congr (f' := fun i => .int .i64 (if i = k then z else f i)) (fun i hi => by rw [if_neg (by omega)]))
        have s5 : w.heap.size ≤ w5.heap.size := by have := hg5'.size; have := z4; omega
        go_wp2_with (at_builtin; refine app1 _ rfl _ _ 22 rfl (i := i0) (z := .int .i64 0) (bytes := 8) Try.underlying22 hi hz0 hz1 hz2 rfl rfl rfl (O5.out) (s5) rfl (by simp) (by omega) (by decide) ?_)
        intro g6 c6 w6 ho6 hg6 hat6
        have G6 := Lib.hid (grown_new (grown_trans hg4' hg5') hg6 O5.out.base)
        have hgg : g ≠ g3 := by have := b3; omega
        have C6 := Lib.hid (c5.grown hg6 (by omega) (by have := c5.base; omega))
        have O6 := Lib.hid ho6
        have b6 := ho6.base
        clear ho6 hg6
        
        go_wp2_with fail
        go_ret
        refine ⟨_, k + 1, _, fun i => if i = k then z else f i, rfl, by omega, O6.out.ints (fun i hi => ?_), fun b o e => by injection e with e; injection e with e _ _; omega, C6.out, G6.out⟩
        by_cases e : i = k
        · simp only [if_pos e]; omega
        · simp only [if_neg e]; exact HF.out i (by omega)

theorem DrawLargestRemainder_any (w : World) (A : Option Addr) (len cap : Nat) (hb : Bytes w A len) :
    Calls Try.prog 25 #[.slice A len cap] w (NewIntInts w) := by
  go_enter Try.func25, Try.ntmps25
  go_wp2_with fail
  refine (l1New_any _ _ _ _ hb).mono ?_
  rintro e w1 ⟨g, rfl, c1, hb1⟩
  have hg := c1.base
  go_wp2_with fail
  refine (l3Total_any _ g _ c1).mono ?_
  rintro e w2 ⟨v, rfl, ⟨t, rfl, ht0, ht1⟩, c2, hg2⟩
  go_wp2_with fail
  refine (l3Weights_any _ g _ c2).mono ?_
  rintro e w3 ⟨A3, n3, c3, f3, rfl, hn3, hi3, _, c3', hg3⟩
  go_wp2_with fail
  go_ret2
  exact ⟨t, _, _, _, f3, rfl, ht0, ht1, hn3, hi3, hb1.trans (grown_below (grown_trans hg2 hg3) hg hb1.size)⟩

theorem DrawApportion_any (w : World) (A : Option Addr) (len cap : Nat) (hb : Bytes w A len) :
    Calls Try.prog 27 #[.slice A len cap] w (NewIntInts w) := by
  go_enter Try.func27, Try.ntmps27
  go_wp2_with fail
  refine (l1New_any _ _ _ _ hb).mono ?_
  rintro e w1 ⟨g, rfl, c1, hb1⟩
  have hg := c1.base
  go_wp2_with fail
  refine (l3Total_any _ g _ c1).mono ?_
  rintro e w2 ⟨v, rfl, ⟨t, rfl, ht0, ht1⟩, c2, hg2⟩
  go_wp2_with fail
  refine (l3Weights_any _ g _ c2).mono ?_
  rintro e w3 ⟨A3, n3, c3, f3, rfl, hn3, hi3, _, c3', hg3⟩
  go_wp2_with fail
  go_ret2
  exact ⟨t, _, _, _, f3, rfl, ht0, ht1, hn3, hi3, hb1.trans (grown_below (grown_trans hg2 hg3) hg hb1.size)⟩

end Go.Proofs.Ytmplfpdokkcpcaa
