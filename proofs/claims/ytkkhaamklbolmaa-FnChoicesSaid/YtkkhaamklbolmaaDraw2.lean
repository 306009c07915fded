/-
  Contracts of the functions that draw inputs: a cursor over bytes that came in; what is drawn lies in its range; nothing but the cursor's own block has turned.
-/
import Derived.Test.YtkkhaamklbolmaaChecked
import Derived.Test.YtkkhaamklbolmaaHeap
import Derived.WalkKit
import Derived.RegionTactic
import Derived.Deep.QuietTactic
import Derived.BigQuiet
import Derived.Handy
import Derived.Lib.Hide
import Derived.Deep.AppendLies
import Derived.OpenShut
import Derived.WideShapes
import Derived.Laws.Rows
namespace Go.Proofs.Ytkkhaamklbolmaa
open Go.RowKit
set_option linter.unusedVariables false

/-- block g is a cursor over the bytes at A (below block B), at place k -/
structure CurAt (B : Nat) (w : World) (g : Nat) (A : Option Addr) (len cap k : Nat) (h : Int) : Prop where
  base : B ≤ g
  blk : w.heap[g]? = some (.cells #[.slice A len cap, .int .i64 (k : Int), .int .i64 h] 122 (0, 0))
  le : k ≤ len
  max : len ≤ 9223372036854775807
  code : ∀ j, j < len → ∃ (b o : Nat) (x : Int), A = some ⟨b, o, none⟩ ∧ b < B ∧ 0 ≤ x ∧ x ≤ 255 ∧ w.cell? ⟨b, o + j, none⟩ = some (.int .u8 x)
def Cur (B : Nat) (w : World) (g : Nat) : Prop := ∃ A len cap k h, CurAt B w g A len cap k h

theorem CurAt.lt {B : Nat} {w : World} {g : Nat} {A : Option Addr} {len cap k : Nat} {h : Int} (c : CurAt B w g A len cap k h) : g < w.heap.size := by
  by_cases hl : g < w.heap.size
  · exact hl
  · have := c.blk; rw [Array.getElem?_eq_none (by omega)] at this; cases this
theorem Cur.lt {B : Nat} {w : World} {g : Nat} (c : Cur B w g) : g < w.heap.size := by obtain ⟨_, _, _, _, _, h⟩ := c; exact h.lt
theorem Cur.base {B : Nat} {w : World} {g : Nat} (c : Cur B w g) : B ≤ g := by obtain ⟨_, _, _, _, _, h⟩ := c; exact h.base
/-- a cursor stays where its block is kept and nothing below B turns -/
theorem CurAt.keep {B : Nat} {w w' : World} {g : Nat} {A : Option Addr} {len cap k : Nat} {h : Int} (c : CurAt B w g A len cap k h) (hb : Below B w w') (hg : w'.heap[g]? = w.heap[g]?) : CurAt B w' g A len cap k h :=
  ⟨c.base, hg.trans c.blk, c.le, c.max, fun j hj => by
    obtain ⟨b, o, x, e, hB, h0, h1, hc⟩ := c.code j hj
    exact ⟨b, o, x, e, hB, h0, h1, (hb.cell (p := ⟨b, o + j, none⟩) hB).trans hc⟩⟩
theorem Cur.keep {B : Nat} {w w' : World} {g : Nat} (c : Cur B w g) (hb : Below B w w') (hg : w'.heap[g]? = w.heap[g]?) : Cur B w' g := by
  obtain ⟨A, len, cap, k, h, c⟩ := c; exact ⟨A, len, cap, k, h, c.keep hb hg⟩
theorem Cur.call {B : Nat} {w w' : World} {g : Nat} (c : Cur B w g) (hb : Below w.heap.size w w') : Cur B w' g :=
  c.keep (hb.mono (by have := c.base; have := c.lt; omega)) (hb.block g c.lt)
theorem Cur.grown {B : Nat} {w w' : World} {g r : Nat} (c : Cur B w g) (hg : w.grownBy w' (some r)) (hr : r ≠ g) (hB : B ≤ r) : Cur B w' g :=
  c.keep ⟨hg.os, hg.tape, hg.output, hg.size, fun k hk => hg.block k (by have := c.base; have := c.lt; omega) (by simp; omega)⟩ (hg.block g c.lt (by simp; omega))
theorem Cur.alloc {B : Nat} {w : World} {g : Nat} (c : Cur B w g) (o : Obj) : Cur B (w.alloc o) g := c.call ((Below.refl _ _).alloc (Nat.le_refl _) _)
theorem Cur.drew {B : Nat} {w : World} {g : Nat} (c : Cur B w g) : Cur B w.drew g := c.call (Below.refl _ _).drew
theorem Cur.drewN {B : Nat} {w : World} {g : Nat} (c : Cur B w g) (n : Nat) : Cur B (w.drewN n) g := c.call ⟨rfl, rfl, rfl, Nat.le_refl _, fun _ _ => rfl⟩
theorem Cur.setCell {B : Nat} {w : World} {g : Nat} (c : Cur B w g) {p : Addr} (h1 : B ≤ p.block) (h2 : p.block ≠ g) (v : Value) : Cur B (w.setCell p v) g :=
  c.keep ((Below.refl _ _).setCell h1 v) (Below.heap_setCell _ _ _ _ (by omega))

theorem Cur.own {B g : Nat} {w w' : World} {o : Option Nat} (c : Cur B w g) (k : w.grownBy w' o) (ho : ∀ r, o = some r → B ≤ r ∧ r ≠ g) : Cur B w' g := by
  cases o with
  | none => exact c.call ⟨k.os, k.tape, k.output, k.size, fun i hi => k.block i hi (by simp)⟩
  | some r => exact c.grown k (ho r rfl).2 (ho r rfl).1
/-- a value of which P holds was drawn from the cursor at block g -/
def Drawn (B g : Nat) (w : World) (P : Value → Prop) (e : Ending) (w' : World) : Prop := ∃ v, e = .returned v ∧ P v ∧ Cur B w' g ∧ w.grownBy w' (some g)
/-- the numbers from a to b -/
def InR (a b : Int) (v : Value) : Prop := ∃ n : Int, v = .int .i64 n ∧ a ≤ n ∧ n ≤ b

theorem and255 (x : Int) : 0 ≤ bits .and .i64 x 255 ∧ bits .and .i64 x 255 ≤ 255 := by
  have h : ((BitVec.ofInt 64 x) &&& (BitVec.ofInt 64 255)).toNat ≤ 255 := by
    rw [BitVec.toNat_and]; exact Nat.le_trans Nat.and_le_right (by decide)
  have e : bits .and .i64 x 255 = IntKind.i64.wrap (((BitVec.ofInt 64 x) &&& (BitVec.ofInt 64 255)).toNat : Int) := rfl
  rw [e, IntKind.wrap_i64]; omega
theorem CurAt.set2 {B : Nat} {w : World} {g : Nat} {A : Option Addr} {len cap k : Nat} {h : Int} (c : CurAt B w g A len cap k h) (h' : Int) : CurAt B (w.setCell ⟨g, 2, none⟩ (.int .i64 h')) g A len cap k h' :=
  ⟨c.base, by simp [World.setCell, Array.getElem?_modify, c.blk], c.le, c.max, fun j hj => by
    obtain ⟨b, o, x, e, hB, h0, h1, hc⟩ := c.code j hj
    have := c.base
    exact ⟨b, o, x, e, hB, h0, h1, (World.cell?_setCell_other _ _ _ _ (by intro e; injection e; omega)).trans hc⟩⟩
theorem CurAt.set1 {B : Nat} {w : World} {g : Nat} {A : Option Addr} {len cap k : Nat} {h : Int} (c : CurAt B w g A len cap k h) (z : Int) (k' : Nat) (hz : z = (k' : Int)) (hk : k' ≤ len) : CurAt B (w.setCell ⟨g, 1, none⟩ (.int .i64 z)) g A len cap k' h :=
  ⟨c.base, by simp [World.setCell, Array.getElem?_modify, c.blk, hz], hk, c.max, fun j hj => by
    obtain ⟨b, o, x, e, hB, h0, h1, hc⟩ := c.code j hj
    have := c.base
    exact ⟨b, o, x, e, hB, h0, h1, (World.cell?_setCell_other _ _ _ _ (by intro e; injection e; omega)).trans hc⟩⟩
theorem CurAt.drewN {B : Nat} {w : World} {g : Nat} {A : Option Addr} {len cap k : Nat} {h : Int} (c : CurAt B w g A len cap k h) (n : Nat) : CurAt B (w.drewN n) g A len cap k h := c.keep ⟨rfl, rfl, rfl, Nat.le_refl _, fun _ _ => rfl⟩ rfl
theorem CurAt.cur {B : Nat} {w : World} {g : Nat} {A : Option Addr} {len cap k : Nat} {h : Int} (c : CurAt B w g A len cap k h) : Cur B w g := ⟨_, _, _, _, _, c⟩

theorem l1Byte_end (B g : Nat) (w : World) (A : Option Addr) (len cap : Nat) (h : Int) (c : CurAt B w g A len cap len h) :
    Calls Try.prog 99 #[.pointer (some ⟨g, 0, none⟩)] w (Drawn B g w (InR 0 255)) := by
  have hb := c.blk
  have c0 : w.cell? ⟨g, 0, none⟩ = some (.slice A len cap) := by simp [World.cell?, hb]
  have c1 : w.cell? ⟨g, 1, none⟩ = some (.int .i64 (len : Int)) := by simp [World.cell?, hb]
  have c2 : w.cell? ⟨g, 2, none⟩ = some (.int .i64 h) := by simp [World.cell?, hb]
  have f2 : w.frozen? ⟨g, 2, none⟩ = false := by simp [World.frozen?, hb]
  have hm := c.max
  clear hb
  go_enter Try.func99, Try.ntmps99
  go_wp2_with fail
  go_quiet (fail)
  go_wp2_with fail
  go_quiet (fail)
  go_wp2_with fail
  go_ret
  exact ⟨_, rfl, ⟨_, rfl, (and255 _).1, (and255 _).2⟩, (((c.set2 _).drewN _).drewN _).cur, grown_drewN (grown_drewN (grown_setCell (World.grownBy.refl _ _) (.inl rfl) _) _) _⟩

theorem l1Byte_more (B g : Nat) (w : World) (A : Option Addr) (len cap k : Nat) (h : Int) (c : CurAt B w g A len cap k h) (hk : k < len) :
    Calls Try.prog 99 #[.pointer (some ⟨g, 0, none⟩)] w (Drawn B g w (InR 0 255)) := by
  obtain ⟨b, o, x, rfl, hB, hx0, hx1, hcx⟩ := c.code k hk
  have hb := c.blk
  have c0 : w.cell? ⟨g, 0, none⟩ = some (.slice (some ⟨b, o, none⟩) len cap) := by simp [World.cell?, hb]
  have c1 : w.cell? ⟨g, 1, none⟩ = some (.int .i64 (k : Int)) := by simp [World.cell?, hb]
  have c2 : w.cell? ⟨g, 2, none⟩ = some (.int .i64 h) := by simp [World.cell?, hb]
  have f2 : w.frozen? ⟨g, 2, none⟩ = false := by simp [World.frozen?, hb]
  have f1 : w.frozen? ⟨g, 1, none⟩ = false := by simp [World.frozen?, hb]
  have hm := c.max
  have hgb : b ≠ g := by have := c.base; omega
  have hlt : (k : Int) < (len : Int) := by omega
  clear hb
  go_enter Try.func99, Try.ntmps99
  go_wp2_with fail
  go_quiet (fail)
  obtain ⟨nq1, rfl⟩ : ∃ m : Nat, m = nq := ⟨_, rfl⟩
  go_wp2_with fail
  go_quiet (fail)
  obtain ⟨nq2, rfl⟩ : ∃ m : Nat, m = nq := ⟨_, rfl⟩
  go_wp2_with fail
  go_quiet (fail)
  obtain ⟨nq3, rfl⟩ : ∃ m : Nat, m = nq := ⟨_, rfl⟩
  go_wp2_with fail
  go_ret
  refine ⟨_, rfl, ⟨_, rfl, (and255 _).1, (and255 _).2⟩, ?_, ?_⟩
  · have k1 := ((c.set2 (wrap64 (wrap64 (h * 6364136223846793005) + 1442695040888963407))).drewN (nq1 + nq2 + nq3)).set1 ((k : Int) + 1) (k + 1) (by omega) hk
    exact k1.cur
  · refine grown_setCell ?_ (.inl rfl) _
    refine grown_drewN ?_ _
    exact grown_setCell (World.grownBy.refl _ _) (.inl rfl) _
theorem l1Byte_any (B g : Nat) (w : World) (c : Cur B w g) : Calls Try.prog 99 #[.pointer (some ⟨g, 0, none⟩)] w (Drawn B g w (InR 0 255)) := by
  obtain ⟨A, len, cap, k, h, c⟩ := c
  by_cases hk : k < len
  · exact l1Byte_more B g w A len cap k h c hk
  · obtain rfl : k = len := by have := c.le; omega
    exact l1Byte_end B g w A k cap h c

theorem l1Below_zero (B g : Nat) (w : World) (n : Int) (c : Cur B w g) (hn : n ≤ 0) :
    Calls Try.prog 76 #[.pointer (some ⟨g, 0, none⟩), .int .i64 n] w (Drawn B g w (InR 0 0)) := by
  go_enter Try.func76, Try.ntmps76
  go_wp2_with fail
  go_ret
  exact ⟨_, rfl, ⟨_, rfl, by omega, by omega⟩, c, World.grownBy.refl _ _⟩
theorem l1Below_small (B g : Nat) (w : World) (n : Int) (c : Cur B w g) (h1 : 1 ≤ n) (h2 : n ≤ 256) :
    Calls Try.prog 76 #[.pointer (some ⟨g, 0, none⟩), .int .i64 n] w (Drawn B g w (InR 0 (n - 1))) := by
  have hn0 : (n == 0) = false := by simp; omega
  go_enter Try.func76, Try.ntmps76
  go_wp2_with fail
  refine (l1Byte_any B g _ c).mono ?_
  rintro e w1 ⟨v, rfl, ⟨x, rfl, hx0, hx1⟩, c1, hg1⟩
  have hm1 : 0 ≤ x % n := Int.emod_nonneg x (by omega)
  have hm2 : x % n < n := Int.emod_lt_of_pos x (by omega)
  go_wp2_with fail
  go_ret
  exact ⟨_, rfl, ⟨_, rfl, hm1, by omega⟩, c1, hg1⟩
theorem l1Below_big (B g : Nat) (w : World) (n : Int) (c : Cur B w g) (h1 : 256 < n) (h2 : n ≤ 9223372036854775807) :
    Calls Try.prog 76 #[.pointer (some ⟨g, 0, none⟩), .int .i64 n] w (Drawn B g w (InR 0 (n - 1))) := by
  have hn0 : (n == 0) = false := by simp; omega
  go_enter Try.func76, Try.ntmps76
  go_wp2_with fail
  refine (l1Byte_any B g _ c).mono ?_
  rintro e w1 ⟨v, rfl, ⟨x1, rfl, ha0, ha1⟩, c1, hg1⟩
  go_wp2_with fail
  refine (l1Byte_any B g _ c1).mono ?_
  rintro e w2 ⟨v, rfl, ⟨x2, rfl, hb0, hb1⟩, c2, hg2⟩
  go_wp2_with fail
  refine (l1Byte_any B g _ c2).mono ?_
  rintro e w3 ⟨v, rfl, ⟨x3, rfl, hc0, hc1⟩, c3, hg3⟩
  go_wp2_with fail
  refine (l1Byte_any B g _ c3).mono ?_
  rintro e w4 ⟨v, rfl, ⟨x4, rfl, hd0, hd1⟩, c4, hg4⟩
  have hm1 : 0 ≤ (x1 * 16777216 + x2 * 65536 + x3 * 256 + x4) % n := Int.emod_nonneg _ (by omega)
  have hm2 : (x1 * 16777216 + x2 * 65536 + x3 * 256 + x4) % n < n := Int.emod_lt_of_pos _ (by omega)
  go_wp2_with fail
  go_ret
  exact ⟨_, rfl, ⟨_, rfl, hm1, by omega⟩, c4, grown_trans hg1 (grown_trans hg2 (grown_trans hg3 hg4))⟩
theorem l1Below_any (B g : Nat) (w : World) (n : Int) (c : Cur B w g) (h1 : 1 ≤ n) (h2 : n ≤ 9223372036854775807) :
    Calls Try.prog 76 #[.pointer (some ⟨g, 0, none⟩), .int .i64 n] w (Drawn B g w (InR 0 (n - 1))) := by
  by_cases h : n ≤ 256
  · exact l1Below_small B g w n c h1 h
  · exact l1Below_big B g w n c (by omega) h2

/-- what a slice of bytes that came in is -/
def Bytes (w : World) (A : Option Addr) (len : Nat) : Prop := len ≤ 9223372036854775807 ∧ ∀ j, j < len → ∃ (b o : Nat) (x : Int), A = some ⟨b, o, none⟩ ∧ b < w.heap.size ∧ 0 ≤ x ∧ x ≤ 255 ∧ w.cell? ⟨b, o + j, none⟩ = some (.int .u8 x)
theorem bytes_open {w : World} {x : Addr} {len cap : Nat} {zs : List Int} (hl : len ≤ cap) (hm : cap ≤ 9223372036854775807) (hz : zs.length = cap) (hc : ∀ i, i < zs.length → w.cell? (x.add i) = some (.int .u8 (zs.getD i 0))) (hw : ∀ n ∈ zs, (Lit.int .u8 n).wf = true) : Bytes w (some x) len := by
  refine ⟨by omega, fun j hj => ?_⟩
  obtain ⟨b, o, s⟩ := x
  have h0 := hc j (by omega)
  have hs : s = none := by
    have h1 := hc 0 (by omega)
    simpa [Addr.add] using World.cell?_spot h1
  subst hs
  have h2 : w.cell? ⟨b, o + j, none⟩ = some (.int .u8 (zs.getD j 0)) := by rw [← h0, WideShapes.add_plain]
  have hj' : j < zs.length := by omega
  have h5 : (Lit.int .u8 (zs.getD j 0)).wf = true := by
    rw [List.getD_eq_getElem?_getD, List.getElem?_eq_getElem hj']; exact hw _ (List.getElem_mem _)
  have e1 : IntKind.u8.min = 0 := rfl
  have e2 : IntKind.u8.max = 255 := rfl
  have h6 : 0 ≤ zs.getD j 0 ∧ zs.getD j 0 ≤ 255 := by simpa [Lit.wf, e1, e2] using h5
  exact ⟨b, o, zs.getD j 0, rfl, block_lt_of_cell h2, h6.1, h6.2, h2⟩
/-- a new cursor -/
def NewCur (w : World) (e : Ending) (w' : World) : Prop := ∃ g, e = .returned (.pointer (some ⟨g, 0, none⟩)) ∧ Cur w.heap.size w' g ∧ Below w.heap.size w w'
theorem cur_new {w w' : World} {A : Option Addr} {len cap : Nat} {h : Int} (hb : Bytes w A len) (hw : w.heap.size ≤ w'.heap.size) (hbl : Below w.heap.size w w') :
    Cur w.heap.size (w'.alloc (.cells #[.slice A len cap, .int .i64 0, .int .i64 h] 122)) w'.heap.size :=
  ⟨A, len, cap, 0, h, hw, heap_alloc_new _ _, Nat.zero_le _, hb.1, fun j hj => by
    obtain ⟨b, o, x, e, hB, h0, h1, hc⟩ := hb.2 j hj
    exact ⟨b, o, x, e, hB, h0, h1, (World.cell?_alloc_lt _ _ _ (Nat.lt_of_lt_of_le hB hw)).trans ((hbl.cell (p := ⟨b, o + j, none⟩) hB).trans hc)⟩⟩
set_option maxHeartbeats 400000 in
theorem l1New_any (w : World) (A : Option Addr) (len cap : Nat) (hb : Bytes w A len) :
    Calls Try.prog 71 #[.slice A len cap] w (NewCur w) := by
  have hm := hb.1
  have HB := Lib.hid hb
  clear hb
  go_enter Try.func71, Try.ntmps71
  go_wp2_with fail
  go_loop [3, 4] (fun h i => ∃ (k : Nat) (z : Int), k ≤ len ∧ i = .int .i64 (k : Int) ∧ h = .int .i64 z) (fun _ i => len - (intOf i).toNat)
  case atStart => exact ⟨0, _, Nat.zero_le _, rfl, rfl⟩
  case round =>
    obtain ⟨k, z, hk, rfl, rfl⟩ := hrel
    by_cases hlt : k < len
    · have hlt' : (k : Int) < (len : Int) := by omega
      by_cases h4 : (k : Int) < 4000
      · obtain ⟨b, o, x, rfl, hB, hx0, hx1, hcx⟩ := HB.out.2 k hlt
        go_wp2_with fail
        go_round
        case rel => exact ⟨k + 1, _, by omega, by go_num, rfl⟩
        case measure => simp [intOf]; omega
      · go_wp2_with fail
        go_ret
        exact ⟨_, rfl, cur_new HB.out (Nat.le_refl _) (Below.refl _ _), (Below.refl _ _).alloc (Nat.le_refl _) _⟩
    · have hlt' : ¬ (k : Int) < (len : Int) := by omega
      go_wp2_with fail
      go_ret
      exact ⟨_, rfl, cur_new HB.out (Nat.le_refl _) (Below.refl _ _), (Below.refl _ _).alloc (Nat.le_refl _) _⟩
theorem big_any (w : World) (A : Option Addr) (len cap : Nat) (hm : len ≤ 9223372036854775807) :
    Calls Try.prog 36 #[.slice A len cap] w fun e w' => e = .returned (.bool (decide (1048576 < len))) ∧ w' = w := by
  go_enter Try.func36, Try.ntmps36
  go_wp2_with fail
  go_ret
  refine ⟨?_, rfl⟩
  show Ending.returned (.bool _) = _
  congr 2
  simp
  omega
end Go.Proofs.Ytkkhaamklbolmaa
