/-
  Contracts of the functions that draw calendars and days.
-/
import Derived.Test.YtkbmlpnfdogioaaCal
import Derived.Test.YtkbmlpnfdogioaaGrow
import Derived.Test.YtkbmlpnfdogioaaOwn
import Derived.Test.YtkbmlpnfdogioaaOnce
import Derived.Test.YtkbmlpnfdogioaaDrawInt
import Derived.Deep.RegionWith
namespace Go.Proofs.Ytkbmlpnfdogioaa
open Go.RowKit
set_option linter.unusedVariables false
set_option linter.unusedSimpArgs false

theorem grown_new {a b c : World} {g r : Nat} (h : a.grownBy b (some g)) (k : b.grownBy c (some r)) (hr : a.heap.size ≤ r) : a.grownBy c (some g) :=
  ⟨k.os.trans h.os, k.tape.trans h.tape, k.output.trans h.output, Nat.le_trans h.size k.size, fun i hi hn => (k.block i (Nat.lt_of_lt_of_le hi h.size) (by simp; omega)).trans (h.block i hi hn)⟩
/-- a number out of a literal list is drawn -/
theorem pick_any (B g b : Nat) (w : World) (xs : Array Value) (T : TypeId) (n : Nat) (P : Value → Prop) (c : Cur B w g) (hb : w.heap[b]? = some (.cells xs T (0, 0))) (hbg : b ≠ g) (hn : xs.size = n) (h1 : 1 ≤ n) (h2 : n ≤ 9223372036854775807) (hx : ∀ v ∈ xs.toList, ∃ z : Int, v = .int .i64 z ∧ P v) :
    Calls Try.prog 53 #[.pointer (some ⟨g, 0, none⟩), .slice (some ⟨b, 0, none⟩) n n] w (Drawn B g w P) := by
  refine l1PickInt_any B g b n n w P c h1 h2 hbg (Array.getElem?_eq_some_iff.1 hb).1 (fun j hj => ?_)
  have hj' : j < xs.size := by omega
  obtain ⟨z, hz, hP⟩ := hx xs[j] (Array.getElem_mem_toList hj')
  refine ⟨z, ?_, hz ▸ hP⟩
  rw [← hz]
  simp [World.cell?, hb, hj']
/-- a calendar was drawn from the cursor at block g -/
def DrawnCal (B g : Nat) (w : World) (e : Ending) (w' : World) : Prop :=
  ∃ A n c f A' m c' dy hr, e = .returned (.agg #[.slice A n c, .slice A' m c']) ∧ CalF w' A n c f A' m c' dy hr ∧ (∀ b o, A = some ⟨b, o, none⟩ → w.heap.size ≤ b ∧ b ≠ g) ∧ (∀ b o, A' = some ⟨b, o, none⟩ → w.heap.size ≤ b ∧ b ≠ g) ∧ Cur B w' g ∧ w.grownBy w' (some g)
def weekC (f : Nat → Int) (j q : Nat) : Value := .int .i64 (f j)
theorem drawn_cal {B g : Nat} {w W : World} {b1 b2 : Nat} {wk v : Value} {n m : Nat} {f dy hr : Nat → Int} {e : Ending}
    (hw : OwnV b1 W 3 1 wk n (weekC f)) (hv : OwnV b2 W 48 2 v m (excC dy hr)) (hf : inI f n) (hd : inI dy m) (hh : inI hr m) (h1 : wk.ownBlock ≠ some g) (h2 : v.ownBlock ≠ some g) (c : Cur B W g) (hg : w.grownBy W (some g))
    (he : e = .returned (.agg #[wk, v])) (hz1 : w.heap.size ≤ b1 := by omega) (hz2 : w.heap.size ≤ b2 := by omega) : DrawnCal B g w e W := by
  obtain ⟨A, cp, rfl, hI, hA⟩ := OwnV.ints (f := f) (hw.congr (fun j q _ _ => rfl)) hf
  obtain ⟨A', cp', rfl, hS, hA'⟩ := hv.slice
  exact ⟨A, n, cp, f, A', m, cp', dy, hr, he, ⟨hI, hS, hd, hh⟩, fun b o e => ⟨Nat.le_trans hz1 (hw.lt (hA b o e)).1, fun h => h1 ((hA b o e).trans (by rw [h]))⟩, fun b o e => ⟨Nat.le_trans hz2 (hv.lt (hA' b o e).2).1, fun h => h2 ((hA' b o e).2.trans (by rw [h]))⟩, c, hg⟩
theorem excC_set (dy hr : Nat → Int) (n : Nat) (x y : Int) (a b : Nat) (h : a < n) : excC dy hr a b = excC (fun i => if i = n then x else dy i) (fun i => if i = n then y else hr i) a b := by
  have e : ¬ a = n := by omega
  simp only [excC, if_neg e]
theorem exc_info : (Try.prog.info? 48).map (fun i => (i.zero, i.size, i.bytes)) = some (some (.agg #[.int .i64 0, .int .i64 0]), 2, 16) := by kernel_rfl

theorem fin_cal {Post : Ending → World → Prop} {t : Array Value} {W : World} {r : Nat} {a b : Value} (ht : t[2]? = some (.pointer (some ⟨r, 0, none⟩))) (h0 : W.cell? ⟨r, 0, none⟩ = some a) (h1 : W.cell? ⟨r, 1, none⟩ = some b)
    (hP : Post (.returned (.agg #[a, b])) W) : bodyPost Try.prog Try.f46 Post Exit.ret { tmps := t, defers := [] } W :=
  bodyPost_ret (v := .agg #[a, b]) (by simp [results, Try.results46, go_sem, ht, h0, h1]) rfl hP

theorem l4Day_any (B g : Nat) (w : World) (c : Cur B w g) :
    Calls Try.prog 47 #[.pointer (some ⟨g, 0, none⟩)] w (Drawn B g w AnyInt) := by
  have hgl := c.lt
  go_enter Try.func47, Try.ntmps47
  go_wp2_with fail
  refine (l1Once_any B g _ _ c (by omega) (by omega)).mono ?_
  rintro e w1 ⟨v, rfl, ⟨b, rfl⟩, c1, hg1⟩
  have hl1 := c1.lt
  cases b
  · go_wp2_with fail
    refine (l1Below_any B g _ _ c1 (by omega) (by omega)).mono ?_
    rintro e w2 ⟨v, rfl, ⟨y, rfl, hy0, hy1⟩, c2, hg2⟩
    go_wp2_with fail
    go_ret
    exact ⟨_, rfl, ⟨_, rfl, by omega, by omega⟩, c2, grown_trans hg1 hg2⟩
  · go_wp2_with fail
    refine (pick_any B g w1.heap.size _ _ 3 6 AnyInt (c1.alloc _) (heap_alloc_new _ _) (by omega) rfl (by omega) (by omega) ?hx).mono ?_
    case hx => intro v hv; simp at hv; rcases hv with rfl | rfl | rfl | rfl | rfl | rfl <;> exact ⟨_, rfl, _, rfl, by omega, by omega⟩
    rintro e w2 ⟨v, rfl, ⟨y, rfl, hy0, hy1⟩, c2, hg2⟩
    go_wp2_with fail
    go_ret
    exact ⟨_, rfl, ⟨_, rfl, hy0, hy1⟩, c2, grown_trans hg1 (grown_trans (grown_alloc (World.grownBy.refl _ _) _) hg2)⟩
end Go.Proofs.Ytkbmlpnfdogioaa
