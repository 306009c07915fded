/-
  Worlds that grew, rows just made: no program in sight.
-/
import Derived.Test.YtkkhaamklbolmaaHeap
import Derived.OwnWalk
import Derived.Lib.QuietBelow
import Derived.Deep.RegionWith
import Derived.BigQuiet
namespace Go.Proofs.Ytkkhaamklbolmaa
open Go.RowKit Go.Sort
set_option linter.unusedVariables false

theorem below_drewN {B : Nat} {a w : World} (h : Below B a w) (n : Nat) : Below B a (w.drewN n) := ⟨h.os, h.tape, h.output, h.size, h.block⟩
theorem below_then {B C : Nat} {w X Y : World} (h : Below C X Y) (hC : B ≤ C) (k : Below B w X) : Below B w Y := k.trans (h.mono hC)
theorem row_ownS {w : World} {g n cap s base : Nat} {T : TypeId} {xs : List Value} (h : w.ownsRow base T s (.slice (some ⟨g, 0, none⟩) n cap) n xs) : ∃ cs : Array Value, w.heap[g]? = some (.cells cs T (0, 0)) ∧ cs.size = cap * s ∧ n ≤ cap ∧ cs.toList.take (n * s) = xs := by
  obtain ⟨hl, h | ⟨g', c', cur, hv, hb, hh, hn, hc, hs, ht⟩⟩ := h
  · simp at h
  · simp at hv
    obtain ⟨rfl, rfl⟩ := hv
    exact ⟨cur, hh, hs, hn, ht⟩
theorem setCell_grown (w : World) (p : Addr) (v : Value) : w.grownBy (w.setCell p v) (some p.block) := ⟨rfl, rfl, rfl, by simp [World.setCell], fun i _ hne => Below.heap_setCell _ _ _ _ (by rintro rfl; exact hne rfl)⟩
end Go.Proofs.Ytkkhaamklbolmaa
