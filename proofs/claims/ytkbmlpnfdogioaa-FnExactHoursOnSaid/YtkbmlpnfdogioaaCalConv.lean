/-
  Contracts of the laws' helpers on calendars: szCalendar, toCalendar, eqCalendar.
-/
import Derived.Test.YtkbmlpnfdogioaaCal
import Derived.OwnWalk
import Derived.Lib.QuietBelow
import Derived.Deep.RegionWith
namespace Go.Proofs.Ytkbmlpnfdogioaa
open Go.RowKit Go.Sort
set_option linter.unusedVariables false
set_option linter.unusedSimpArgs false

theorem below_drewN {B : Nat} {a w : World} (h : Below B a w) (n : Nat) : Below B a (w.drewN n) := ⟨h.os, h.tape, h.output, h.size, h.block⟩
theorem below_then {B C : Nat} {w X Y : World} (h : Below C X Y) (hC : B ≤ C) (k : Below B w X) : Below B w Y := k.trans (h.mono hC)
theorem toException_any (a b : Int) (w : World) :
    Calls Try.prog 51 #[.agg #[.int .i64 a, .int .i64 b]] w fun e w' => e = .returned (.agg #[.int .i64 a, .int .i64 b]) ∧ Below w.heap.size w w' := by
  go_enter Try.func51, Try.ntmps51
  go_wp2
  go_returns
  exact ⟨rfl, by repeat' (first | (with_reducible exact Below.refl _ _) | assumption | (with_reducible refine below_then (by assumption) ?_ ?_) | (with_reducible refine Below.alloc ?_ ?_ _) | (with_reducible refine below_drewN ?_ _) | (with_reducible refine Below.drew ?_) | (with_reducible refine Below.setCell ?_ ?_ _) | omega | (simp; done) | (simp; omega))⟩
theorem eqException_same (a b : Int) (w : World) :
    Calls Try.prog 52 #[.agg #[.int .i64 a, .int .i64 b], .agg #[.int .i64 a, .int .i64 b]] w fun e w' => e = .returned (.bool true) ∧ Below w.heap.size w w' := by
  go_enter Try.func52, Try.ntmps52
  go_wp2
  go_ret
  exact ⟨rfl, by repeat' (first | (with_reducible exact Below.refl _ _) | assumption | (with_reducible refine below_then (by assumption) ?_ ?_) | (with_reducible refine Below.alloc ?_ ?_ _) | (with_reducible refine below_drewN ?_ _) | (with_reducible refine Below.drew ?_) | (with_reducible refine Below.setCell ?_ ?_ _) | omega | (simp; done) | (simp; omega))⟩
theorem row_ownS {w : World} {g n cap s base : Nat} {T : TypeId} {xs : List Value} (h : w.ownsRow base T s (.slice (some ⟨g, 0, none⟩) n cap) n xs) : ∃ cs : Array Value, w.heap[g]? = some (.cells cs T (0, 0)) ∧ cs.size = cap * s ∧ n ≤ cap ∧ cs.toList.take (n * s) = xs := by
  obtain ⟨hl, h | ⟨g', c', cur, hv, hb, hh, hn, hc, hs, ht⟩⟩ := h
  · simp at h
  · simp at hv
    obtain ⟨rfl, rfl⟩ := hv
    exact ⟨cur, hh, hs, hn, ht⟩
theorem made_two (a : Value) (n : Nat) (T : TypeId) {w : World} {g base : Nat} (h : w.ownsRow base T 2 (.slice (some ⟨g, 0, none⟩) n n) n (madeCells #[a, a] (n * 2)).toList) : Row w g T (n * 2) (fun _ => a) := by
  obtain ⟨cs, hh, hs, hn, ht⟩ := row_ownS h
  refine ⟨cs, hh, by omega, fun i hi => ?_⟩
  have h1 : (cs.toList.take (n * 2))[i]? = (madeCells #[a, a] (n * 2)).toList[i]? := by rw [ht]
  rw [List.getElem?_take, if_pos hi] at h1
  have h2 : (madeCells #[a, a] (n * 2))[i]? = some a := by
    have hm : i % 2 < 2 := Nat.mod_lt _ (by omega)
    simp only [madeCells]
    have e : (#[a, a] : Array Value).size = 2 := rfl
    rcases (by omega : i % 2 = 0 ∨ i % 2 = 1) with h | h <;> simp [hi, h]
  simpa [h2] using h1
theorem setCell_grown (w : World) (p : Addr) (v : Value) : w.grownBy (w.setCell p v) (some p.block) := ⟨rfl, rfl, rfl, by simp [World.setCell], fun i _ hne => Below.heap_setCell _ _ _ _ (by rintro rfl; exact hne rfl)⟩
theorem exc_info : (Try.prog.info? 48).map (fun i => (i.zero, i.size, i.bytes)) = some (some (.agg #[.int .i64 0, .int .i64 0]), 2, 16) := by kernel_rfl
def NewExc (w : World) (m : Nat) (dy hr : Nat → Int) (e : Ending) (w' : World) : Prop :=
  ∃ g, e = .returned (.slice (some ⟨g, 0, none⟩) m m) ∧ w.heap.size ≤ g ∧ SliceF w' (some ⟨g, 0, none⟩) m m 2 (excC dy hr) ∧ Below w.heap.size w w'
set_option maxHeartbeats 1000000 in
theorem toExceptionS_any (w : World) (B : Option Addr) (m c2 : Nat) (dy hr : Nat → Int) (h : SliceF w B m c2 2 (excC dy hr)) (hm : m ≤ 1048576) :
    Calls Try.prog 37 #[.slice B m c2] w (NewExc w m dy hr) := by
  have H := Lib.hid h
  clear h
  obtain ⟨i0, hi, hz0, hz1, hz2⟩ := info_parts exc_info
  go_enter Try.func37, Try.ntmps37
  go_wp2_with (refine wpList_make_full _ rfl _ _ 28 rfl w.heap.size 48 i0 (.agg #[.int .i64 0, .int .i64 0]) 2 Try.underlying28 hi hz0 hz1 .i64 .i64 _ _ m rfl rfl rfl rfl (by rw [hz2]; omega) (by unfold maxLen; omega) (Nat.le_refl _) ?_)
  intro w1 hown hgrow
  have hrow := made_two _ _ _ hown
  have hb1 : Below w.heap.size w w1 := ⟨hgrow.os, hgrow.tape, hgrow.output, hgrow.size, fun i hi => hgrow.block i hi (by simp)⟩
  clear hown hgrow
  go_wp2_with fail
  go_loopw [4] (fun i wr => ∃ k : Nat, k ≤ m ∧ i = .int .i64 (k : Int) ∧ Row wr w.heap.size 48 (m * 2) (fun j => if j < k * 2 then excC dy hr (j / 2) (j % 2) else .int .i64 0) ∧ Below w.heap.size w wr) (fun i _ => m - (intOf i).toNat)
  case atStart => exact ⟨0, Nat.zero_le _, rfl, hrow.congr (fun i _ => by simp), hb1⟩
  case round =>
    clear hrow hb1
    obtain ⟨k, hk, rfl, hrow, hbel⟩ := hrel
    have R := Lib.hid hrow
    have BE := Lib.hid hbel
    clear hrow hbel
    by_cases hlt : k < m
    · have hlt' : (k : Int) < (m : Int) := by omega
      obtain ⟨b, o, rfl, hB, hc⟩ := (H.out.call BE.out).cell k hlt
      have c0 : wr.cell? ⟨b, o + k * 2, none⟩ = some (.int .i64 (dy k)) := hc 0 (by omega)
      have c1 : wr.cell? ⟨b, o + k * 2 + 1, none⟩ = some (.int .i64 (hr k)) := hc 1 (by omega)
      clear hc
      go_wp2_with fail
      refine (toException_any _ _ _).mono ?_; rintro e w2 ⟨rfl, hb2⟩
      have R2 := Lib.hid (R.out.call hb2)
      have BE2 := Lib.hid (BE.out.trans (hb2.mono BE.out.size))
      clear hb2 c0 c1
      have g0 : w2.cell? ⟨w.heap.size, k * 2, none⟩ = some (.int .i64 0) := (R2.out.cell (by omega)).trans (by rw [if_neg (by omega)])
      have g1 : w2.cell? ⟨w.heap.size, k * 2 + 1, none⟩ = some (.int .i64 0) := (R2.out.cell (by omega)).trans (by rw [if_neg (by omega)])
      have f0 := R2.out.frozen (k * 2)
      have f1 := R2.out.frozen (k * 2 + 1)
      go_wp2_with fail
      go_roundw
      case rel =>
        refine ⟨k + 1, by omega, by go_num, (((R2.out.set (k * 2) _).set (k * 2 + 1) _).congr (fun j hj => ?_)), Below.setCell (Below.setCell BE2.out ?_ _) ?_ _⟩
        · by_cases e1 : j = k * 2 + 1
          · subst e1
            have d1 : (k * 2 + 1) / 2 = k := by omega
            have d2 : (k * 2 + 1) % 2 = 1 := by omega
            rw [if_pos rfl, if_pos (by omega), d1, d2]; rfl
          · rw [if_neg e1]
            by_cases e0 : j = k * 2
            · subst e0
              have d1 : (k * 2) / 2 = k := by omega
              have d2 : (k * 2) % 2 = 0 := by omega
              rw [if_pos rfl, if_pos (by omega), d1, d2]; rfl
            · rw [if_neg e0]
              by_cases e2 : j < k * 2
              · rw [if_pos e2, if_pos (by omega)]
              · rw [if_neg e2, if_neg (by omega)]
        · exact Nat.le_refl _
        · exact Nat.le_refl _
      case measure => simp [intOf]; omega
    · obtain rfl : k = m := by omega
      go_wp2_with fail
      go_ret
      refine ⟨_, rfl, Nat.le_refl _, SliceF.of_row R.out (by omega) (Nat.le_refl _) (fun j q hj hq => ?_), BE.out⟩
      have d1 : (j * 2 + q) / 2 = j := by omega
      have d2 : (j * 2 + q) % 2 = q := by omega
      rw [if_pos (by omega), d1, d2]

/-- a new calendar -/
def NewCal (w : World) (n : Nat) (f : Nat → Int) (m : Nat) (dy hr : Nat → Int) (e : Ending) (w' : World) : Prop :=
  ∃ g1 g2, e = .returned (.agg #[.slice (some ⟨g1, 0, none⟩) n n, .slice (some ⟨g2, 0, none⟩) m m]) ∧ CalF w' (some ⟨g1, 0, none⟩) n n f (some ⟨g2, 0, none⟩) m m dy hr ∧ Below w.heap.size w w'
theorem IntsF.row {w : World} {A : Option Addr} {n cap : Nat} {f : Nat → Int} (h : IntsF w A n cap f) {W : World} {g : Nat} (hr : Row W g 3 n (fun i => .int .i64 (f i))) : IntsF W (some ⟨g, 0, none⟩) n n f :=
  IntsF.of_row hr (by have := h.max; have := h.le; omega) (Nat.le_refl _) (fun i hi => h.bounds hi)
set_option maxHeartbeats 1000000 in
theorem toCalendar_any (w : World) (A : Option Addr) (n c : Nat) (f : Nat → Int) (B : Option Addr) (m c2 : Nat) (dy hr : Nat → Int) (h : CalF w A n c f B m c2 dy hr) (hn : n ≤ 1048576) (hm : m ≤ 1048576) :
    Calls Try.prog 15 #[.agg #[.slice A n c, .slice B m c2]] w (NewCal w n f m dy hr) := by
  have H := Lib.hid h
  clear h
  go_enter Try.func15, Try.ntmps15
  go_wp2_with fail
  refine (toIntS_any _ _ _ _ f (((H.out.week.alloc _).alloc _).alloc _) hn).mono ?_
  rintro e w1 ⟨rfl, hr1, hb1⟩
  have l1 : w.heap.size + 1 + 1 < w1.heap.size := by have := hb1.size; simp at this; omega
  have l1a : w.heap.size < w1.heap.size := by omega
  have l1b : w.heap.size + 1 < w1.heap.size := by omega
  have q1_0 : w1.cell? ⟨w.heap.size, 0, none⟩ = some (.slice A n c) := by rw [hb1.cell (p := ⟨w.heap.size, 0, none⟩) (by first | assumption | (simp; done) | (simp; omega) | omega)]; first | assumption | (simp [go_sem]; done) | (simp [go_sem, *]; done)
  have q1_1 : w1.cell? ⟨w.heap.size, 1, none⟩ = some (.slice B m c2) := by rw [hb1.cell (p := ⟨w.heap.size, 1, none⟩) (by first | assumption | (simp; done) | (simp; omega) | omega)]; first | assumption | (simp [go_sem]; done) | (simp [go_sem, *]; done)
  have q1_2 : w1.cell? ⟨w.heap.size + 1, 0, none⟩ = some (.slice none 0 0) := by rw [hb1.cell (p := ⟨w.heap.size + 1, 0, none⟩) (by first | assumption | (simp; done) | (simp; omega) | omega)]; first | assumption | (simp [go_sem]; done) | (simp [go_sem, *]; done)
  have z1_2 : w1.frozen? ⟨w.heap.size + 1, 0, none⟩ = false := by rw [hb1.frozen (p := ⟨w.heap.size + 1, 0, none⟩) (by first | assumption | (simp; done) | (simp; omega) | omega)]; first | assumption | (simp [go_sem]; done) | (simp [go_sem, *]; done)
  have q1_3 : w1.cell? ⟨w.heap.size + 1, 1, none⟩ = some (.slice none 0 0) := by rw [hb1.cell (p := ⟨w.heap.size + 1, 1, none⟩) (by first | assumption | (simp; done) | (simp; omega) | omega)]; first | assumption | (simp [go_sem]; done) | (simp [go_sem, *]; done)
  have z1_3 : w1.frozen? ⟨w.heap.size + 1, 1, none⟩ = false := by rw [hb1.frozen (p := ⟨w.heap.size + 1, 1, none⟩) (by first | assumption | (simp; done) | (simp; omega) | omega)]; first | assumption | (simp [go_sem]; done) | (simp [go_sem, *]; done)
  have q1_4 : w1.cell? ⟨w.heap.size + 1 + 1, 0, none⟩ = some (.slice none 0 0) := by rw [hb1.cell (p := ⟨w.heap.size + 1 + 1, 0, none⟩) (by first | assumption | (simp; done) | (simp; omega) | omega)]; first | assumption | (simp [go_sem]; done) | (simp [go_sem, *]; done)
  have z1_4 : w1.frozen? ⟨w.heap.size + 1 + 1, 0, none⟩ = false := by rw [hb1.frozen (p := ⟨w.heap.size + 1 + 1, 0, none⟩) (by first | assumption | (simp; done) | (simp; omega) | omega)]; first | assumption | (simp [go_sem]; done) | (simp [go_sem, *]; done)
  have q1_5 : w1.cell? ⟨w.heap.size + 1 + 1, 1, none⟩ = some (.slice none 0 0) := by rw [hb1.cell (p := ⟨w.heap.size + 1 + 1, 1, none⟩) (by first | assumption | (simp; done) | (simp; omega) | omega)]; first | assumption | (simp [go_sem]; done) | (simp [go_sem, *]; done)
  have z1_5 : w1.frozen? ⟨w.heap.size + 1 + 1, 1, none⟩ = false := by rw [hb1.frozen (p := ⟨w.heap.size + 1 + 1, 1, none⟩) (by first | assumption | (simp; done) | (simp; omega) | omega)]; first | assumption | (simp [go_sem]; done) | (simp [go_sem, *]; done)
  simp only [World.size_alloc] at hr1
  have R1 := Lib.hid hr1
  have BB1 : Below w.heap.size w w1 := (((((Below.refl w.heap.size w).alloc (Nat.le_refl _) _).alloc (by simp) _).alloc (by simp; omega) _).trans (hb1.mono (by simp; omega)))
  have B1 := Lib.hid BB1
  have rl := hr1.lt
  clear hr1 hb1 BB1
  go_wp2_with fail
  have BW := Lib.hid (Below.setCell B1.out (p := ⟨w.heap.size + 1 + 1, 0, none⟩) (by show w.heap.size ≤ w.heap.size + 1 + 1; omega) (.slice (some ⟨w.heap.size + 1 + 1 + 1, 0, none⟩) n n))
  refine (toExceptionS_any _ B m c2 dy hr (H.out.exc.call BW.out) hm).mono ?_
  rintro e w2 ⟨g2, rfl, hg2', hx2, hb2⟩
  have sz2 : w1.heap.size ≤ w2.heap.size := by have := hb2.size; simpa using this
  have l2 : w.heap.size + 1 + 1 < w2.heap.size := by omega
  have l2a : w.heap.size < w2.heap.size := by omega
  have l2b : w.heap.size + 1 < w2.heap.size := by omega
  have q2_0 : w2.cell? ⟨w.heap.size + 1, 0, none⟩ = some (.slice none 0 0) := by rw [hb2.cell (p := ⟨w.heap.size + 1, 0, none⟩) (by first | assumption | (simp; done) | (simp; omega) | omega)]; first | assumption | (simp [go_sem]; done) | (simp [go_sem, *]; done)
  have z2_0 : w2.frozen? ⟨w.heap.size + 1, 0, none⟩ = false := by rw [hb2.frozen (p := ⟨w.heap.size + 1, 0, none⟩) (by first | assumption | (simp; done) | (simp; omega) | omega)]; first | assumption | (simp [go_sem]; done) | (simp [go_sem, *]; done)
  have q2_1 : w2.cell? ⟨w.heap.size + 1, 1, none⟩ = some (.slice none 0 0) := by rw [hb2.cell (p := ⟨w.heap.size + 1, 1, none⟩) (by first | assumption | (simp; done) | (simp; omega) | omega)]; first | assumption | (simp [go_sem]; done) | (simp [go_sem, *]; done)
  have z2_1 : w2.frozen? ⟨w.heap.size + 1, 1, none⟩ = false := by rw [hb2.frozen (p := ⟨w.heap.size + 1, 1, none⟩) (by first | assumption | (simp; done) | (simp; omega) | omega)]; first | assumption | (simp [go_sem]; done) | (simp [go_sem, *]; done)
  have q2_2 : w2.cell? ⟨w.heap.size + 1 + 1, 0, none⟩ = some (.slice (some ⟨w.heap.size + 1 + 1 + 1, 0, none⟩) n n) := by rw [hb2.cell (p := ⟨w.heap.size + 1 + 1, 0, none⟩) (by first | assumption | (simp; done) | (simp; omega) | omega)]; first | assumption | (simp [go_sem]; done) | (simp [go_sem, *]; done)
  have z2_2 : w2.frozen? ⟨w.heap.size + 1 + 1, 0, none⟩ = false := by rw [hb2.frozen (p := ⟨w.heap.size + 1 + 1, 0, none⟩) (by first | assumption | (simp; done) | (simp; omega) | omega)]; first | assumption | (simp [go_sem]; done) | (simp [go_sem, *]; done)
  have q2_3 : w2.cell? ⟨w.heap.size + 1 + 1, 1, none⟩ = some (.slice none 0 0) := by rw [hb2.cell (p := ⟨w.heap.size + 1 + 1, 1, none⟩) (by first | assumption | (simp; done) | (simp; omega) | omega)]; first | assumption | (simp [go_sem]; done) | (simp [go_sem, *]; done)
  have z2_3 : w2.frozen? ⟨w.heap.size + 1 + 1, 1, none⟩ = false := by rw [hb2.frozen (p := ⟨w.heap.size + 1 + 1, 1, none⟩) (by first | assumption | (simp; done) | (simp; omega) | omega)]; first | assumption | (simp [go_sem]; done) | (simp [go_sem, *]; done)
  have R2 := Lib.hid ((R1.out.far (p := ⟨w.heap.size + 1 + 1, 0, none⟩) (by show w.heap.size + 1 + 1 ≠ _; simp) (.slice (some ⟨w.heap.size + 1 + 1 + 1, 0, none⟩) n n)).call hb2)
  have X2 := Lib.hid hx2
  have B2 := Lib.hid (BW.out.trans (hb2.mono BW.out.size))
  have hg2 : w1.heap.size ≤ g2 := by simpa using hg2'
  clear hx2 hb2 q1_0 q1_1 q1_2 q1_3 q1_4 q1_5 z1_2 z1_3 z1_4 z1_5
  go_wp2_with fail
  refine bodyPost_ret (by simp [results, Try.results15, go_sem, *]; try rfl) rfl ?_
  have h3 : w.heap.size + 1 < g2 := by omega
  have h4 : w.heap.size + 1 + 1 < g2 := by omega
  have k1 := setCell_grown w2 ⟨w.heap.size + 1 + 1, 1, none⟩ (.slice (some ⟨g2, 0, none⟩) m m)
  have X3 := X2.out.grown k1 (fun b o e => by injection e with e; injection e with e _ _; show b ≠ w.heap.size + 1 + 1; omega)
  have k2 := setCell_grown (w2.setCell ⟨w.heap.size + 1 + 1, 1, none⟩ (.slice (some ⟨g2, 0, none⟩) m m)) ⟨w.heap.size + 1, 0, none⟩ (.slice (some ⟨w.heap.size + 1 + 1 + 1, 0, none⟩) n n)
  have X4 := X3.grown k2 (fun b o e => by injection e with e; injection e with e _ _; show b ≠ w.heap.size + 1; omega)
  have k3 := setCell_grown ((w2.setCell ⟨w.heap.size + 1 + 1, 1, none⟩ (.slice (some ⟨g2, 0, none⟩) m m)).setCell ⟨w.heap.size + 1, 0, none⟩ (.slice (some ⟨w.heap.size + 1 + 1 + 1, 0, none⟩) n n)) ⟨w.heap.size + 1, 1, none⟩ (.slice (some ⟨g2, 0, none⟩) m m)
  have X5 := X4.grown k3 (fun b o e => by injection e with e; injection e with e _ _; show b ≠ w.heap.size + 1; omega)
  refine ⟨_, g2, rfl, ⟨H.out.week.row (((R2.out.grown k1 (by show w.heap.size + 1 + 1 ≠ w.heap.size + 1 + 1 + 1; omega)).grown k2 (by show w.heap.size + 1 ≠ w.heap.size + 1 + 1 + 1; omega)).grown k3 (by show w.heap.size + 1 ≠ w.heap.size + 1 + 1 + 1; omega)), X5, H.out.day, H.out.hour⟩, ?_⟩
  exact Below.setCell (Below.setCell (Below.setCell B2.out (by show w.heap.size ≤ w.heap.size + 1 + 1; omega) _) (by show w.heap.size ≤ w.heap.size + 1; omega) _) (by show w.heap.size ≤ w.heap.size + 1; omega) _
theorem eqExceptionS_same (w : World) (B B' : Option Addr) (m c c' : Nat) (dy hr : Nat → Int) (h : SliceF w B m c 2 (excC dy hr)) (h' : SliceF w B' m c' 2 (excC dy hr)) :
    Calls Try.prog 40 #[.slice B m c, .slice B' m c'] w fun e w' => e = .returned (.bool true) ∧ Below w.heap.size w w' := by
  have hm : m ≤ 9223372036854775807 := by have := h.max; have := h.le; omega
  have H := Lib.hid h
  have H' := Lib.hid h'
  clear h h'
  go_enter Try.func40, Try.ntmps40
  go_wp2_with fail
  go_loopw [5] (fun i wr => ∃ k : Nat, k ≤ m ∧ i = .int .i64 (k : Int) ∧ Below w.heap.size w wr) (fun i _ => m - (intOf i).toNat)
  case atStart => exact ⟨0, Nat.zero_le _, rfl, Below.refl _ _⟩
  case round =>
    obtain ⟨k, hk, rfl, hbel⟩ := hrel
    have BE := Lib.hid hbel
    clear hbel
    by_cases hlt : k < m
    · have hlt' : (k : Int) < (m : Int) := by omega
      obtain ⟨b, o, rfl, hB, hc⟩ := (H.out.call BE.out).cell k hlt
      obtain ⟨b', o', rfl, hB', hc'⟩ := (H'.out.call BE.out).cell k hlt
      have c0 : wr.cell? ⟨b, o + k * 2, none⟩ = some (.int .i64 (dy k)) := hc 0 (by omega)
      have c1 : wr.cell? ⟨b, o + k * 2 + 1, none⟩ = some (.int .i64 (hr k)) := hc 1 (by omega)
      have d0 : wr.cell? ⟨b', o' + k * 2, none⟩ = some (.int .i64 (dy k)) := hc' 0 (by omega)
      have d1 : wr.cell? ⟨b', o' + k * 2 + 1, none⟩ = some (.int .i64 (hr k)) := hc' 1 (by omega)
      clear hc hc'
      have gc0 := fun d os => cell_regrown c0 d os
      have gc1 := fun d os => cell_regrown c1 d os
      have gd0 := fun d os => cell_regrown d0 d os
      have gd1 := fun d os => cell_regrown d1 d os
      go_wp2_with fail
      refine wp_region_quiet_below (by kernel_rfl) (by kernel_rfl) ?_
      repeat (first | go_big_quiet_step ((go_at_call 52; exact Calls.regrown_of (eqException_same _ _ _))) | quiet_step ((go_at_call 52; exact Calls.regrown_of (eqException_same _ _ _))))
      refine wpQuiet_nil ?_
      intro _ hw'
      obtain ⟨⟨dq, osq⟩, hw''⟩ := hw'
      subst hw''
      have BE2 := Lib.hid (BE.out.trans ((below_regrown wr dq osq).mono BE.out.size))
      go_wp2_with fail
      go_roundw
      case rel => exact ⟨k + 1, by omega, by go_num, BE2.out⟩
      case measure => simp [intOf]; omega
    · obtain rfl : k = m := by omega
      go_wp2_with fail
      go_ret
      exact ⟨rfl, BE.out⟩
end Go.Proofs.Ytkbmlpnfdogioaa
