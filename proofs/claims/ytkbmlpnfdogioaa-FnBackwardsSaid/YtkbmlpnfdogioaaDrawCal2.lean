/-
  Contract of l4Calendar: a calendar is drawn.
-/
import Derived.Test.YtkbmlpnfdogioaaDrawCal
import Derived.Deep.DeepCutAuto
import Derived.Deep.CutBlock
namespace Go.Proofs.Ytkbmlpnfdogioaa
open Go.RowKit
set_option linter.unusedVariables false
set_option linter.unusedSimpArgs false
set_option maxHeartbeats 4000000 in
theorem l4Calendar_any (B g : Nat) (w : World) (c : Cur B w g) :
    Calls Try.prog 46 #[.pointer (some ⟨g, 0, none⟩)] w (DrawnCal B g w) := by
  have hgl := c.lt
  have hgb := c.base
  obtain ⟨i0, hi, hz0, hz1, hz2⟩ := info_parts exc_info
  obtain ⟨i3, hi3, hy0, hy1, hy2⟩ := info_parts int_info
  have C0 := Lib.hid c
  clear c
  go_enter Try.func46, Try.ntmps46
  go_wp2_with fail
  refine (l1Below_any B g _ _ (((C0.out.alloc _).alloc _).alloc _) (by omega) (by omega)).mono ?_
  rintro e w1 ⟨v, rfl, ⟨x0, rfl, hx0, hx1⟩, d1, hg1⟩
  have G1 := Lib.hid (grown_trans (grown_alloc (grown_alloc (grown_alloc (World.grownBy.refl w (some g)) _) _) _) hg1)
  have z1 : w.heap.size + 1 + 1 + 1 ≤ w1.heap.size := by have := hg1.size; simp at this; omega
  have RR := Lib.hid (((row_lit w _ 30 2 (fun _ => .slice none 0 0) (by simp) (fun i hi => by rcases (by omega : i = 0 ∨ i = 1) with rfl | rfl <;> rfl)).alloc (.cells #[.int .i64 8, .int .i64 8, .int .i64 8, .int .i64 8, .int .i64 8, .int .i64 0, .int .i64 0] 3)).alloc (.cells #[.slice (some ⟨w.heap.size + 1, 0, none⟩) 7 7, .slice none 0 0] 30) |>.grown hg1 (by omega))
  have RX := Lib.hid ((row_lit ((w.alloc (.cells #[.slice none 0 0, .slice none 0 0] 30)).alloc (.cells #[.int .i64 8, .int .i64 8, .int .i64 8, .int .i64 8, .int .i64 8, .int .i64 0, .int .i64 0] 3)) #[.slice (some ⟨w.heap.size + 1, 0, none⟩) 7 7, .slice none 0 0] 30 2 (fun i => if i = 0 then .slice (some ⟨w.heap.size + 1, 0, none⟩) 7 7 else .slice none 0 0) (by simp) (fun i hi => by rcases (by omega : i = 0 ∨ i = 1) with rfl | rfl <;> rfl)).grown hg1 (by simp; omega))
  have RW := Lib.hid ((((OwnV.lit (w.alloc (.cells #[.slice none 0 0, .slice none 0 0] 30)) (B := w.heap.size + 1) (by simp) 3 1 7 #[.int .i64 8, .int .i64 8, .int .i64 8, .int .i64 8, .int .i64 8, .int .i64 0, .int .i64 0] (weekC (fun j => [8, 8, 8, 8, 8, 0, 0].getD j 0)) rfl (by omega)).alloc (.cells #[.slice (some ⟨w.heap.size + 1, 0, none⟩) 7 7, .slice none 0 0] 30))).grown hg1 (.inr (by simp [Value.ownBlock]; omega)))
  simp only [World.size_alloc] at RX RW
  clear hg1
  have x1 := RX.out.cell (i := 0) (by omega)
  have x2 := RX.out.cell (i := 1) (by omega)
  have y1 := RX.out.frozen 0
  simp only [if_pos, if_neg, ite_true, Nat.one_ne_zero, ite_false] at x1 x2
  have lx : w.heap.size + 1 + 1 < w1.heap.size := by omega
  have xl1 : w.heap.size + 1 < w.heap.size + 1 + 1 := by omega
  generalize w.heap.size + 1 + 1 = XB at *

  go_upto_block 0 with (fail)
  go_cut [3] (fun s3 wx => s3 = .pointer (some ⟨XB, 0, none⟩) ∧ ∃ (gw : Nat) (f : Nat → Int), w.grownBy wx (some g) ∧ Cur B wx g ∧ XB < wx.heap.size ∧ Row wx w.heap.size 30 2 (fun _ => .slice none 0 0) ∧ Row wx XB 30 2 (fun i => if i = 0 then .slice (some ⟨gw, 0, none⟩) 7 7 else .slice none 0 0) ∧ OwnV (w.heap.size + 1) wx 3 1 (.slice (some ⟨gw, 0, none⟩) 7 7) 7 (weekC f) ∧ gw ≠ XB ∧ inI f 7)
  case first =>
    by_cases e0 : x0 = 0
    · subst e0
      go_wp2_with fail
      go_meet
      refine ⟨rfl, w1.heap.size, (fun j => [0, 4, 0, 24, 0, 0, 1].getD j 0), ?_, ?_, ?_, ?_, ?_, ?_, ?_, ?_⟩
      · have h := G1.out; repeat' (first | (with_reducible assumption) | (with_reducible exact World.grownBy.refl _ _) | refine grown_alloc ?_ _ | refine grown_drewN ?_ _ | refine grown_drew ?_ | refine grown_setCell ?_ ?_ _ | exact .inr (by first | omega | (simp; done) | (simp; omega)) | omega | (simp; done) | (simp; omega))
      · repeat' (first | (with_reducible assumption) | refine Cur.alloc ?_ _ | refine Cur.drewN ?_ _ | refine Cur.drew ?_ | refine Cur.setCell ?_ ?_ ?_ _ | omega | (simp; done) | (simp; omega))
      · first | omega | (simp; omega) | (simp [World.setCell]; omega)
      · have h := RR.out; repeat' (first | (with_reducible assumption) | refine Row.alloc ?_ _ | refine Row.drewN ?_ _ | refine Row.drew ?_ | refine Row.far ?_ ?_ _ | omega | (simp; done) | (simp; omega))
      · exact ((RX.out.set 0 (.slice (some ⟨w1.heap.size, 0, none⟩) 7 7)).alloc _).congr (fun i _ => by by_cases e : i = 0 <;> simp [e])
      · have h := OwnV.lit (w1.setCell ⟨XB, 0, none⟩ (.slice (some ⟨w1.heap.size, 0, none⟩) 7 7)) (B := w.heap.size + 1) (by simp [World.setCell]; omega) 3 1 7 #[.int .i64 0, .int .i64 4, .int .i64 0, .int .i64 24, .int .i64 0, .int .i64 0, .int .i64 1] (weekC (fun j => [0, 4, 0, 24, 0, 0, 1].getD j 0)) rfl (by omega)
        simpa [World.setCell] using h
      · omega
      · intro j hj; rcases (by omega : j = 0 ∨ j = 1 ∨ j = 2 ∨ j = 3 ∨ j = 4 ∨ j = 5 ∨ j = 6) with rfl | rfl | rfl | rfl | rfl | rfl | rfl <;> exact ⟨by decide, by decide⟩
    · by_cases e1 : x0 = 1
      · subst e1
        go_wp2_with fail
        go_meet
        refine ⟨rfl, w1.heap.size, (fun j => [1, 1, 1, 1, 1, 1, 1].getD j 0), ?_, ?_, ?_, ?_, ?_, ?_, ?_, ?_⟩
        · have h := G1.out; repeat' (first | (with_reducible assumption) | (with_reducible exact World.grownBy.refl _ _) | refine grown_alloc ?_ _ | refine grown_drewN ?_ _ | refine grown_drew ?_ | refine grown_setCell ?_ ?_ _ | exact .inr (by first | omega | (simp; done) | (simp; omega)) | omega | (simp; done) | (simp; omega))
        · repeat' (first | (with_reducible assumption) | refine Cur.alloc ?_ _ | refine Cur.drewN ?_ _ | refine Cur.drew ?_ | refine Cur.setCell ?_ ?_ ?_ _ | omega | (simp; done) | (simp; omega))
        · first | omega | (simp; omega) | (simp [World.setCell]; omega)
        · have h := RR.out; repeat' (first | (with_reducible assumption) | refine Row.alloc ?_ _ | refine Row.drewN ?_ _ | refine Row.drew ?_ | refine Row.far ?_ ?_ _ | omega | (simp; done) | (simp; omega))
        · exact ((RX.out.set 0 (.slice (some ⟨w1.heap.size, 0, none⟩) 7 7)).alloc _).congr (fun i _ => by by_cases e : i = 0 <;> simp [e])
        · have h := OwnV.lit (w1.setCell ⟨XB, 0, none⟩ (.slice (some ⟨w1.heap.size, 0, none⟩) 7 7)) (B := w.heap.size + 1) (by simp [World.setCell]; omega) 3 1 7 #[.int .i64 1, .int .i64 1, .int .i64 1, .int .i64 1, .int .i64 1, .int .i64 1, .int .i64 1] (weekC (fun j => [1, 1, 1, 1, 1, 1, 1].getD j 0)) rfl (by omega)
          simpa [World.setCell] using h
        · omega
        · intro j hj; rcases (by omega : j = 0 ∨ j = 1 ∨ j = 2 ∨ j = 3 ∨ j = 4 ∨ j = 5 ∨ j = 6) with rfl | rfl | rfl | rfl | rfl | rfl | rfl <;> exact ⟨by decide, by decide⟩
      · skip
        go_wp2_with fail
        go_meet
        refine ⟨rfl, w.heap.size + 1, (fun j => [8, 8, 8, 8, 8, 0, 0].getD j 0), G1.out, d1, lx, RR.out, RX.out, RW.out, by omega, ?_⟩
        · intro j hj; rcases (by omega : j = 0 ∨ j = 1 ∨ j = 2 ∨ j = 3 ∨ j = 4 ∨ j = 5 ∨ j = 6) with rfl | rfl | rfl | rfl | rfl | rfl | rfl <;> exact ⟨by decide, by decide⟩
  case rest =>
    clear d1 G1 z1 RR RX RW x1 x2 y1 lx
    obtain ⟨rfl, gw, f0, hg0, d0, lx, r0, s0, t0, ne0, q0⟩ := hcut
    have R0 := Lib.hid r0
    have S0 := Lib.hid s0
    have T0 := Lib.hid t0
    have Q0 := Lib.hid q0
    have gwb : w.heap.size + 1 ≤ gw := (t0.lt rfl).1
    clear r0 s0 t0 q0
    go_wp2_with fail
    refine (l1Below_any B g _ _ d0 (by omega) (by omega)).mono ?_
    rintro e w2 ⟨v, rfl, ⟨k0, rfl, hk0, hk1⟩, d2, hg2⟩
    have G2 := grown_trans hg0 hg2
    have zz2 := hg2.size
    have R2 := Lib.hid (R0.out.grown hg2 (by omega))
    have S2 := Lib.hid (S0.out.grown hg2 (by omega))
    have T2 := Lib.hid (T0.out.grown hg2 (.inr (by simp [Value.ownBlock]; omega)))
    have E2 := Lib.hid (OwnV.nil w2.heap.size w2 48 2 (excC (fun _ => 0) (fun _ => 0)))
    have gl2 : gw < w2.heap.size := (T2.out.lt rfl).2
    clear d0 hg0 hg2 R0 S0 T0
    go_wp2_with fail
    go_loopw [4, 5] (fun dv kv wr => ∃ (d k : Int) (j : Nat) (v : Value) (dy hr : Nat → Int), dv = .int .i64 d ∧ kv = .int .i64 k ∧ 0 ≤ d ∧ d ≤ 9 * (j : Int) ∧ 0 ≤ k ∧ k + (j : Int) ≤ 3 ∧ inI dy j ∧ inI hr j ∧ w.grownBy wr (some g) ∧ Cur B wr g ∧ w2.heap.size ≤ wr.heap.size ∧
        Row wr w.heap.size 30 2 (fun _ => .slice none 0 0) ∧ Row wr XB 30 2 (fun i => if i = 0 then .slice (some ⟨gw, 0, none⟩) 7 7 else v) ∧ OwnV (w.heap.size + 1) wr 3 1 (.slice (some ⟨gw, 0, none⟩) 7 7) 7 (weekC f0) ∧ OwnV w2.heap.size wr 48 2 v j (excC dy hr)) (fun _ kv _ => (intOf kv).toNat)
    case atStart => exact ⟨0, k0, 0, _, _, _, rfl, rfl, by omega, by omega, by omega, by omega, fun i hi => absurd hi (by omega), fun i hi => absurd hi (by omega), G2, d2, Nat.le_refl _, R2.out, S2.out, T2.out, E2.out⟩
    case round =>
      clear G2 d2 R2 S2 T2 E2 hk0 hk1
      obtain ⟨d, k, j, v, dy, hr, rfl, rfl, hd0, hd1, hk0, hk1, hdy, hhr, hg3, d3, zz3, r3, s3, t3, e3⟩ := hrel
      have R3 := Lib.hid r3
      have S3 := Lib.hid s3
      have T3 := Lib.hid t3
      have E3 := Lib.hid e3
      have DY := Lib.hid hdy
      have HR := Lib.hid hhr
      have vb : ∀ r, r < w2.heap.size → v.ownBlock ≠ some r := fun r hr h => by have := (e3.lt h).1; omega
      have VB := Lib.hid vb
      clear r3 s3 t3 e3 hdy hhr vb
      by_cases hkp : 0 < k
      · go_wp2_with fail
        refine (l1Below_any B g _ _ d3 (by omega) (by omega)).mono ?_
        rintro e w4 ⟨v4, rfl, ⟨x4, rfl, hx40, hx41⟩, d4, hg4⟩
        have R4 := Lib.hid (R3.out.grown hg4 (by omega))
        have S4 := Lib.hid (S3.out.grown hg4 (by omega))
        have T4 := Lib.hid (T3.out.grown hg4 (.inr (by simp [Value.ownBlock]; omega)))
        have E4 := Lib.hid (E3.out.grown hg4 (.inr (VB.out g (by omega))))
        have G4 := Lib.hid (grown_trans hg3 hg4)
        have D4 := Lib.hid d4
        have zz4 : w2.heap.size ≤ w4.heap.size := by have := hg4.size; omega
        clear hg3 hg4 d3 d4 R3 S3 T3 E3
        have y1 : w4.cell? ⟨XB, 1, none⟩ = some v := (S4.out.cell (i := 1) (by omega)).trans (by simp)
        have xb4 : XB < w4.heap.size := S4.out.lt
        go_wp2_with fail
        have vbx := VB.out XB (by omega)
        have vbg := VB.out g (by omega)
        have vbw := VB.out gw (by omega)
        have vbr := VB.out w.heap.size (by omega)
        have vlo : ∀ r, v.ownBlock = some r → w2.heap.size ≤ r := fun r h => (E4.out.lt h).1
        have VLO := Lib.hid vlo
        clear vlo
        have hBz : B ≤ w2.heap.size := by omega
        go_region_law (first
          | (go_simp; go_at_call 53; refine (pick_any B g w4.heap.size _ _ 3 4 (InR 0 24) (D4.out.alloc _).drew (heap_alloc_new _ _) (by omega) rfl (by omega) (by omega) (by intro v hv; simp at hv; rcases hv with rfl | rfl | rfl <;> exact ⟨_, rfl, _, rfl, by omega, by omega⟩)).mono ?_; rintro e w5 ⟨v5, rfl, ⟨z, rfl, hz50, hz51⟩, d5, hg5⟩; have y5 : w5.cell? ⟨XB, 1, none⟩ = some v := (grown_cell hg5 (p := ⟨XB, 1, none⟩) (by show XB < (w4.alloc _).heap.size; simp; omega) (by show XB ≠ g; omega)).trans ((World.cell?_alloc_lt w4 (.cells #[.int .i64 0, .int .i64 0, .int .i64 12, .int .i64 24] 3) ⟨XB, 1, none⟩ xb4).trans y1); have S5 := Lib.hid ((S4.out.alloc (.cells #[.int .i64 0, .int .i64 0, .int .i64 12, .int .i64 24] 3)).drew.grown hg5 (by omega)); have R5 := Lib.hid ((R4.out.alloc (.cells #[.int .i64 0, .int .i64 0, .int .i64 12, .int .i64 24] 3)).drew.grown hg5 (by omega)); have T5 := Lib.hid ((T4.out.alloc (.cells #[.int .i64 0, .int .i64 0, .int .i64 12, .int .i64 24] 3)).drew.grown hg5 (.inr (by simp [Value.ownBlock]; omega))); have E5 := Lib.hid ((E4.out.alloc (.cells #[.int .i64 0, .int .i64 0, .int .i64 12, .int .i64 24] 3)).drew.grown hg5 (.inr vbg)); have G5 := Lib.hid (grown_trans (grown_drew (grown_alloc G4.out (.cells #[.int .i64 0, .int .i64 0, .int .i64 12, .int .i64 24] 3))) hg5); have D5 := Lib.hid d5; have zz5 : w4.heap.size ≤ w5.heap.size := (by have := hg5.size; simp at this; omega); have xb5 : XB < w5.heap.size := (by omega); clear hg5 d5)
          | (refine step_appS w5 rfl _ _ 28 rfl (B := w2.heap.size) (i := i0) (z := .agg #[.int .i64 0, .int .i64 0]) (s := 2) (bytes := 16) (F := excC (fun i => if i = j then d + 1 + x4 else dy i) (fun i => if i = j then z else hr i)) (v := v) (n := j) Try.underlying28 hi hz0 hz1 hz2 rfl (by decide) rfl (E5.out.congr (fun a b ha hb => excC_set dy hr j (d + 1 + x4) z a b ha)) (by omega) (xs := #[.int .i64 (d + 1 + x4), .int .i64 z]) ⟨rfl, rfl, rfl, rfl⟩ rfl (fun q hq => by rcases (by omega : q = 0 ∨ q = 1) with rfl | rfl <;> simp [excC]) (fun q hq => by rcases (by omega : q = 0 ∨ q = 1) with rfl | rfl <;> simp [excC, Value.oneCell']) (by omega) (by decide) ?_; intro v7 w7 hv7 hg7 hb7; obtain ⟨A7, p7, rfl, hs7, _⟩ := hv7.slice; clear hs7 hb7; have S7 := Lib.hid (S5.out.own hg7 vbx); have R7 := Lib.hid (R5.out.own hg7 vbr); have T7 := Lib.hid (T5.out.grown hg7 (.inr (fun e => vbw e.symm))); have G7 := Lib.hid (grown_own G5.out hg7 (fun r hr => by have := VLO.out r hr; omega)); have D7 := Lib.hid (D5.out.own hg7 (fun r hr => by have := VLO.out r hr; omega)); have E7 := Lib.hid hv7; have zz7 : w5.heap.size ≤ w7.heap.size := hg7.size; have y7 : w7.cell? ⟨XB, 1, none⟩ = some v := (S7.out.cell (i := 1) (by omega)).trans (by simp); have f7 := S7.out.frozen 1; have vb7 : ∀ r, r < w2.heap.size → (Value.slice A7 (j + 1) p7).ownBlock ≠ some r := (fun r hr h => by have := (hv7.lt h).1; omega); have VB7 := Lib.hid vb7; clear hv7 hg7 vb7))
        all_goals
          go_wp2_with fail
          go_roundw
          case rel =>
            refine ⟨_, k - 1, j + 1, .slice A7 (j + 1) p7, (fun i => if i = j then d + 1 + x4 else dy i), (fun i => if i = j then z else hr i), rfl, rfl, by omega, by omega, by omega, by omega, ?_, ?_, ?_, ?_, ?_, ?_, ?_, ?_, ?_⟩
            · intro i hi; by_cases e : i = j
              · simp only [if_pos e]; omega
              · simp only [if_neg e]; exact DY.out i (by omega)
            · intro i hi; by_cases e : i = j
              · simp only [if_pos e]; omega
              · simp only [if_neg e]; exact HR.out i (by omega)
            · have h := G7.out; repeat' (first | (with_reducible assumption) | (with_reducible exact World.grownBy.refl _ _) | refine grown_alloc ?_ _ | refine grown_drewN ?_ _ | refine grown_drew ?_ | refine grown_setCell ?_ ?_ _ | exact .inr (by first | omega | (simp; done) | (simp; omega)) | omega | (simp; done) | (simp; omega))
            · have h := D7.out; repeat' (first | (with_reducible assumption) | refine Cur.alloc ?_ _ | refine Cur.drewN ?_ _ | refine Cur.drew ?_ | refine Cur.setCell ?_ ?_ ?_ _ | omega | (simp; done) | (simp; omega))
            · simp [World.setCell]; omega
            · have h := R7.out; repeat' (first | (with_reducible assumption) | refine Row.alloc ?_ _ | refine Row.drewN ?_ _ | refine Row.drew ?_ | refine Row.far ?_ ?_ _ | omega | (simp; done) | (simp; omega))
            · exact (S7.out.set 1 (.slice A7 (j + 1) p7)).congr (fun i hi => by rcases (by omega : i = 0 ∨ i = 1) with rfl | rfl <;> simp)
            · exact T7.out.far (p := ⟨XB, 1, none⟩) (by simp [Value.ownBlock]; omega) _
            · exact E7.out.far (p := ⟨XB, 1, none⟩) (VB7.out XB (by omega)) _
          case measure => simp [intOf]; omega
      · go_wp2_with fail
        refine (l1Below_any B g _ _ d3 (by omega) (by omega)).mono ?_
        rintro e w4 ⟨v4, rfl, ⟨y, rfl, hy40, hy41⟩, d4, hg4⟩
        have R4 := Lib.hid (R3.out.grown hg4 (by omega))
        have S4 := Lib.hid (S3.out.grown hg4 (by omega))
        have T4 := Lib.hid (T3.out.grown hg4 (.inr (by simp [Value.ownBlock]; omega)))
        have E4 := Lib.hid (E3.out.grown hg4 (.inr (VB.out g (by omega))))
        have G4 := Lib.hid (grown_trans hg3 hg4)
        have D4 := Lib.hid d4
        have zz4 : w2.heap.size ≤ w4.heap.size := by have := hg4.size; omega
        have ww4 : w.heap.size ≤ w4.heap.size := by omega
        clear hg3 hg4 d3 d4 R3 S3 T3 E3
        obtain ⟨Av, cv, rfl, _, _⟩ := E4.out.slice
        have y0 : w4.cell? ⟨XB, 0, none⟩ = some (.slice (some ⟨gw, 0, none⟩) 7 7) := (S4.out.cell (i := 0) (by omega)).trans (by simp)
        have y1 : w4.cell? ⟨XB, 1, none⟩ = some (.slice Av j cv) := (S4.out.cell (i := 1) (by omega)).trans (by simp)
        have xb4 : XB < w4.heap.size := S4.out.lt
        have f0' := S4.out.frozen 0
        have f1' := S4.out.frozen 1
        have ra := R4.out.frozen 0
        have rb := R4.out.frozen 1
        have rl : w.heap.size < w4.heap.size := R4.out.lt
        have rc := R4.out.cell (i := 0) (by omega)
        have rd := R4.out.cell (i := 1) (by omega)
        by_cases e0 : y = 0
        · subst e0
          go_wp2_with fail
          have gl4 : gw < w4.heap.size := by omega
          go_region_with (first
            | (go_at_call 53; refine (pick_any B g w4.heap.size _ _ 3 2 AnyInt (D4.out.alloc _).drew (heap_alloc_new _ _) (by omega) rfl (by omega) (by omega) (by intro v hv; simp at hv; rcases hv with rfl | rfl <;> exact ⟨_, rfl, _, rfl, by omega, by omega⟩)).mono ?_; rintro e w5 ⟨v5, rfl, ⟨z, rfl, hz50, hz51⟩, d5, hg5⟩; have y05 : w5.cell? ⟨XB, 0, none⟩ = some (.slice (some ⟨gw, 0, none⟩) 7 7) := (grown_cell hg5 (p := ⟨XB, 0, none⟩) (by show XB < (w4.alloc _).heap.size; simp; omega) (by show XB ≠ g; omega)).trans ((World.cell?_alloc_lt w4 (.cells #[.int .i64 (-1), .int .i64 25] 3) ⟨XB, 0, none⟩ xb4).trans y0); have y15 : w5.cell? ⟨XB, 1, none⟩ = some (.slice Av j cv) := (grown_cell hg5 (p := ⟨XB, 1, none⟩) (by show XB < (w4.alloc _).heap.size; simp; omega) (by show XB ≠ g; omega)).trans ((World.cell?_alloc_lt w4 (.cells #[.int .i64 (-1), .int .i64 25] 3) ⟨XB, 1, none⟩ xb4).trans y1); have S5 := Lib.hid ((S4.out.alloc (.cells #[.int .i64 (-1), .int .i64 25] 3)).drew.grown hg5 (by omega)); have R5 := Lib.hid ((R4.out.alloc (.cells #[.int .i64 (-1), .int .i64 25] 3)).drew.grown hg5 (by omega)); have T5 := Lib.hid ((T4.out.alloc (.cells #[.int .i64 (-1), .int .i64 25] 3)).drew.grown hg5 (.inr (by simp [Value.ownBlock]; omega))); have E5 := Lib.hid ((E4.out.alloc (.cells #[.int .i64 (-1), .int .i64 25] 3)).drew.grown hg5 (.inr (VB.out g (by omega)))); have G5 := Lib.hid (grown_trans (grown_drew (grown_alloc G4.out (.cells #[.int .i64 (-1), .int .i64 25] 3))) hg5); have D5 := Lib.hid d5; have zz5 : w4.heap.size ≤ w5.heap.size := (by have := hg5.size; simp at this; omega); have xb5 : XB < w5.heap.size := (by omega); have t3 := T5.out.cell (g := gw) rfl (j := 3) (q := 0) (by omega) (by omega); have t4 := T5.out.frozen (g := gw) rfl 3; simp only [Nat.mul_one, Nat.add_zero] at t3; clear hg5 d5))
          all_goals
            have q0 := R5.out.frozen 0
            have q1 := R5.out.frozen 1
            have ql : w.heap.size < w5.heap.size := R5.out.lt
            have qc := R5.out.cell (i := 0) (by omega)
            have qd := R5.out.cell (i := 1) (by omega)
            have S6 := Lib.hid (S5.out.far (p := ⟨gw, 3, none⟩) (by show gw ≠ XB; omega) (.int .i64 z))
            have T6 := Lib.hid (T5.out.set (g := gw) rfl (j := 3) (q := 0) (by omega) (by omega) (.int .i64 z))
            have x60 := (S6.out.cell (i := 0) (by omega)).trans (show some _ = some (Value.slice (some ⟨gw, 0, none⟩) 7 7) by simp)
            have x61 := (S6.out.cell (i := 1) (by omega)).trans (show some _ = some (Value.slice Av j cv) by simp)
            go_wp2_with fail
            refine fin_cal (r := w.heap.size) (a := .slice (some ⟨gw, 0, none⟩) 7 7) (b := .slice Av j cv) rfl ?_ ?_ ?_
            · refine (Row.cell ((Row.set (Row.far R5.out (p := ⟨gw, 3, none⟩) (by show gw ≠ w.heap.size; omega) _) 0 _).set 1 _) (i := 0) (by omega)).trans ?_; simp
            · refine (Row.cell ((Row.set (Row.far R5.out (p := ⟨gw, 3, none⟩) (by show gw ≠ w.heap.size; omega) _) 0 _).set 1 _) (i := 1) (by omega)).trans ?_; simp
            refine drawn_cal (b1 := w.heap.size + 1) (b2 := w2.heap.size) (f := fun i => if i = 3 then z else f0 i) (dy := dy) (hr := hr) (wk := .slice (some ⟨gw, 0, none⟩) 7 7) (v := .slice Av j cv) (n := 7) (m := j) ?_ ?_ ?_ DY.out HR.out (by simp [Value.ownBlock]; omega) (VB.out g (by omega)) ?_ ?_ rfl
            · refine (OwnV.far (OwnV.far T6.out (p := ⟨w.heap.size, 0, none⟩) (by simp [Value.ownBlock]; omega) _) (p := ⟨w.heap.size, 1, none⟩) (by simp [Value.ownBlock]; omega) _).congr (fun a b ha hb => ?_)
              obtain rfl : b = 0 := by omega
              by_cases e : a = 3 <;> simp [weekC, e]
            · exact OwnV.far (OwnV.far (OwnV.far E5.out (p := ⟨gw, 3, none⟩) (VB.out gw (by omega)) _) (p := ⟨w.heap.size, 0, none⟩) (VB.out w.heap.size (by omega)) _) (p := ⟨w.heap.size, 1, none⟩) (VB.out w.heap.size (by omega)) _
            · intro i hi; by_cases e : i = 3
              · simp only [if_pos e]; omega
              · simp only [if_neg e]; exact Q0.out i (by omega)
            · have h := D5.out; repeat' (first | (with_reducible assumption) | refine Cur.alloc ?_ _ | refine Cur.drewN ?_ _ | refine Cur.drew ?_ | refine Cur.setCell ?_ ?_ ?_ _ | omega | (simp; done) | (simp; omega))
            · have h := G5.out; repeat' (first | (with_reducible assumption) | (with_reducible exact World.grownBy.refl _ _) | refine grown_alloc ?_ _ | refine grown_drewN ?_ _ | refine grown_drew ?_ | refine grown_setCell ?_ ?_ _ | exact .inr (by first | omega | (simp; done) | (simp; omega)) | omega | (simp; done) | (simp; omega))
        by_cases e1 : y = 1
        · subst e1
          go_wp2_with (at_builtin; refine appS w4 rfl _ _ 22 rfl (B := w.heap.size + 1) (i := i3) (z := .int .i64 0) (s := 1) (bytes := 8) (F := weekC (fun i => if i = 7 then 1 else f0 i)) (v := .slice (some ⟨gw, 0, none⟩) 7 7) (n := 7) (xs := #[.int .i64 1]) Try.underlying22 hi3 hy0 hy1 hy2 rfl (by decide) rfl (T4.out.congr (fun a b ha hb => by simp only [weekC]; rw [if_neg (by omega)])) (by omega) rfl (fun q hq => by obtain rfl : q = 0 := (by omega); simp [weekC]) (fun q hq => by simp [weekC, Value.oneCell']) (by omega) (by decide) ?_)
          intro v7 w7 hv7 hg7 hb7
          obtain ⟨A7, p7, rfl, _, _⟩ := hv7.slice
          have vb7 : ∀ r, r < w4.heap.size → r ≠ gw → (Value.slice A7 (7 + 1) p7).ownBlock ≠ some r := by
            intro r hr hne h
            rcases hb7 with e | ⟨k, e, hk⟩
            · rw [e] at h; simp [Value.ownBlock] at h; omega
            · rw [e] at h; injection h; omega
          have gb : (Value.slice (some ⟨gw, 0, none⟩) 7 7).ownBlock = some gw := rfl
          have W7 := Lib.hid hv7
          have VW7 := Lib.hid vb7
          have S7 := Lib.hid (S4.out.own hg7 (by rw [gb]; simp; omega))
          have R7 := Lib.hid (R4.out.own hg7 (by rw [gb]; simp; omega))
          have E7 := Lib.hid (E4.out.grown hg7 (.inr (by rw [gb]; exact VB.out gw (by omega))))
          have G7 := Lib.hid (grown_own G4.out hg7 (fun r hr => by rw [gb] at hr; injection hr; omega))
          have D7 := Lib.hid (D4.out.own hg7 (fun r hr => by rw [gb] at hr; injection hr; omega))
          have zz7 : w4.heap.size ≤ w7.heap.size := hg7.size
          have x70 := (S7.out.cell (i := 0) (by omega)).trans (show some _ = some (Value.slice (some ⟨gw, 0, none⟩) 7 7) by simp)
          have x71 := (S7.out.cell (i := 1) (by omega)).trans (show some _ = some (Value.slice Av j cv) by simp)
          have g70 := S7.out.frozen 0
          have q0 := R7.out.frozen 0
          have q1 := R7.out.frozen 1
          have ql : w.heap.size < w7.heap.size := R7.out.lt
          have qc := R7.out.cell (i := 0) (by omega)
          have qd := R7.out.cell (i := 1) (by omega)
          have xl7 : XB < w7.heap.size := by omega
          clear hv7 hg7 hb7 vb7 gb
          go_wp2_with fail
          refine fin_cal (r := w.heap.size) (a := .slice A7 (7 + 1) p7) (b := .slice Av j cv) rfl ?_ ?_ ?_
          · refine (Row.cell ((Row.set (Row.far R7.out (p := ⟨XB, 0, none⟩) (by show XB ≠ w.heap.size; omega) _) 0 _).set 1 _) (i := 0) (by omega)).trans ?_; simp
          · refine (Row.cell ((Row.set (Row.far R7.out (p := ⟨XB, 0, none⟩) (by show XB ≠ w.heap.size; omega) _) 0 _).set 1 _) (i := 1) (by omega)).trans ?_; simp
          refine drawn_cal (b1 := w.heap.size + 1) (b2 := w2.heap.size) (f := fun i => if i = 7 then 1 else f0 i) (dy := dy) (hr := hr) (wk := .slice A7 (7 + 1) p7) (v := .slice Av j cv) (n := 8) (m := j) ?_ ?_ ?_ DY.out HR.out (VW7.out g (by omega) (by omega)) (VB.out g (by omega)) ?_ ?_ rfl
          · exact OwnV.far (OwnV.far (OwnV.far W7.out (p := ⟨XB, 0, none⟩) (VW7.out XB (by omega) (by omega)) _) (p := ⟨w.heap.size, 0, none⟩) (VW7.out w.heap.size (by omega) (by omega)) _) (p := ⟨w.heap.size, 1, none⟩) (VW7.out w.heap.size (by omega) (by omega)) _
          · exact OwnV.far (OwnV.far (OwnV.far E7.out (p := ⟨XB, 0, none⟩) (VB.out XB (by omega)) _) (p := ⟨w.heap.size, 0, none⟩) (VB.out w.heap.size (by omega)) _) (p := ⟨w.heap.size, 1, none⟩) (VB.out w.heap.size (by omega)) _
          · intro i hi; by_cases e : i = 7
            · simp only [if_pos e]; omega
            · simp only [if_neg e]; exact Q0.out i (by omega)
          · have h := D7.out; repeat' (first | (with_reducible assumption) | refine Cur.alloc ?_ _ | refine Cur.drewN ?_ _ | refine Cur.drew ?_ | refine Cur.setCell ?_ ?_ ?_ _ | omega | (simp; done) | (simp; omega))
          · have h := G7.out; repeat' (first | (with_reducible assumption) | (with_reducible exact World.grownBy.refl _ _) | refine grown_alloc ?_ _ | refine grown_drewN ?_ _ | refine grown_drew ?_ | refine grown_setCell ?_ ?_ _ | exact .inr (by first | omega | (simp; done) | (simp; omega)) | omega | (simp; done) | (simp; omega))
        by_cases e2 : y = 2
        · subst e2
          have vbx := VB.out XB (by omega)
          have vbg := VB.out g (by omega)
          have vbw := VB.out gw (by omega)
          have vbr := VB.out w.heap.size (by omega)
          have vlo : ∀ r, (Value.slice Av j cv).ownBlock = some r → w2.heap.size ≤ r := fun r h => (E4.out.lt h).1
          have VLO := Lib.hid vlo
          clear vlo
          go_wp2_with fail
          go_region_law (first
            | (go_simp; go_at_call 53; refine (pick_any B g w4.heap.size _ _ 3 3 AnyInt (D4.out.alloc _).drew (heap_alloc_new _ _) (by omega) rfl (by omega) (by omega) (by intro v hv; simp at hv; rcases hv with rfl | rfl | rfl <;> exact ⟨_, rfl, _, rfl, by omega, by omega⟩)).mono ?_; rintro e w5 ⟨v5, rfl, ⟨z, rfl, hz50, hz51⟩, d5, hg5⟩; have y05 : w5.cell? ⟨XB, 0, none⟩ = some (.slice (some ⟨gw, 0, none⟩) 7 7) := (grown_cell hg5 (p := ⟨XB, 0, none⟩) (by show XB < (w4.alloc _).heap.size; simp; omega) (by show XB ≠ g; omega)).trans ((World.cell?_alloc_lt w4 (.cells #[.int .i64 0, .int .i64 999, .int .i64 1000] 3) ⟨XB, 0, none⟩ xb4).trans y0); have y15 : w5.cell? ⟨XB, 1, none⟩ = some (.slice Av j cv) := (grown_cell hg5 (p := ⟨XB, 1, none⟩) (by show XB < (w4.alloc _).heap.size; simp; omega) (by show XB ≠ g; omega)).trans ((World.cell?_alloc_lt w4 (.cells #[.int .i64 0, .int .i64 999, .int .i64 1000] 3) ⟨XB, 1, none⟩ xb4).trans y1); have S5 := Lib.hid ((S4.out.alloc (.cells #[.int .i64 0, .int .i64 999, .int .i64 1000] 3)).drew.grown hg5 (by omega)); have R5 := Lib.hid ((R4.out.alloc (.cells #[.int .i64 0, .int .i64 999, .int .i64 1000] 3)).drew.grown hg5 (by omega)); have T5 := Lib.hid ((T4.out.alloc (.cells #[.int .i64 0, .int .i64 999, .int .i64 1000] 3)).drew.grown hg5 (.inr (by simp [Value.ownBlock]; omega))); have E5 := Lib.hid ((E4.out.alloc (.cells #[.int .i64 0, .int .i64 999, .int .i64 1000] 3)).drew.grown hg5 (.inr (VB.out g (by omega)))); have G5 := Lib.hid (grown_trans (grown_drew (grown_alloc G4.out (.cells #[.int .i64 0, .int .i64 999, .int .i64 1000] 3))) hg5); have D5 := Lib.hid d5; have zz5 : w4.heap.size ≤ w5.heap.size := (by have := hg5.size; simp at this; omega); have xb5 : XB < w5.heap.size := (by omega); clear hg5 d5)
            | (refine step_appS w5 rfl _ _ 28 rfl (B := w2.heap.size) (i := i0) (z := .agg #[.int .i64 0, .int .i64 0]) (s := 2) (bytes := 16) (F := excC (fun i => if i = j then z else dy i) (fun i => if i = j then 3 else hr i)) (v := .slice Av j cv) (n := j) Try.underlying28 hi hz0 hz1 hz2 rfl (by decide) rfl (E5.out.congr (fun a b ha hb => excC_set dy hr j z 3 a b ha)) (by omega) (xs := #[.int .i64 z, .int .i64 3]) ⟨rfl, rfl, rfl, rfl⟩ rfl (fun q hq => by rcases (by omega : q = 0 ∨ q = 1) with rfl | rfl <;> simp [excC]) (fun q hq => by rcases (by omega : q = 0 ∨ q = 1) with rfl | rfl <;> simp [excC, Value.oneCell']) (by omega) (by decide) ?_; intro v7 w7 hv7 hg7 hb7; obtain ⟨A7, p7, rfl, hs7, _⟩ := hv7.slice; clear hs7 hb7; have S7 := Lib.hid (S5.out.own hg7 vbx); have R7 := Lib.hid (R5.out.own hg7 vbr); have T7 := Lib.hid (T5.out.grown hg7 (.inr (fun e => vbw e.symm))); have G7 := Lib.hid (grown_own G5.out hg7 (fun r hr => by have := VLO.out r hr; omega)); have D7 := Lib.hid (D5.out.own hg7 (fun r hr => by have := VLO.out r hr; omega)); have E7 := Lib.hid hv7; have zz7 : w5.heap.size ≤ w7.heap.size := hg7.size; have x70 : w7.cell? ⟨XB, 0, none⟩ = some (.slice (some ⟨gw, 0, none⟩) 7 7) := (S7.out.cell (i := 0) (by omega)).trans (by simp); have x71 : w7.cell? ⟨XB, 1, none⟩ = some (.slice Av j cv) := (S7.out.cell (i := 1) (by omega)).trans (by simp); have g71 := S7.out.frozen 1; have xl7 : XB < w7.heap.size := (by omega); have vb7 : ∀ r, r < w2.heap.size → (Value.slice A7 (j + 1) p7).ownBlock ≠ some r := (fun r hr h => by have := (hv7.lt h).1; omega); have VB7 := Lib.hid vb7; clear hv7 hg7 vb7))
          all_goals
            have q0 := R7.out.frozen 0
            have q1 := R7.out.frozen 1
            have ql : w.heap.size < w7.heap.size := R7.out.lt
            have qc := R7.out.cell (i := 0) (by omega)
            have qd := R7.out.cell (i := 1) (by omega)
            go_wp2_with fail
            refine fin_cal (r := w.heap.size) (a := .slice (some ⟨gw, 0, none⟩) 7 7) (b := .slice A7 (j + 1) p7) rfl ?_ ?_ ?_
            · refine (Row.cell ((Row.set (Row.far R7.out (p := ⟨XB, 1, none⟩) (by show XB ≠ w.heap.size; omega) _) 0 _).set 1 _) (i := 0) (by omega)).trans ?_; simp
            · refine (Row.cell ((Row.set (Row.far R7.out (p := ⟨XB, 1, none⟩) (by show XB ≠ w.heap.size; omega) _) 0 _).set 1 _) (i := 1) (by omega)).trans ?_; simp
            refine drawn_cal (b1 := w.heap.size + 1) (b2 := w2.heap.size) (f := f0) (dy := fun i => if i = j then z else dy i) (hr := fun i => if i = j then 3 else hr i) (wk := .slice (some ⟨gw, 0, none⟩) 7 7) (v := .slice A7 (j + 1) p7) (n := 7) (m := j + 1) ?_ ?_ Q0.out ?_ ?_ (by simp [Value.ownBlock]; omega) (VB7.out g (by omega)) ?_ ?_ rfl
            · exact OwnV.far (OwnV.far (OwnV.far T7.out (p := ⟨XB, 1, none⟩) (by simp [Value.ownBlock]; omega) _) (p := ⟨w.heap.size, 0, none⟩) (by simp [Value.ownBlock]; omega) _) (p := ⟨w.heap.size, 1, none⟩) (by simp [Value.ownBlock]; omega) _
            · exact OwnV.far (OwnV.far (OwnV.far E7.out (p := ⟨XB, 1, none⟩) (VB7.out XB (by omega)) _) (p := ⟨w.heap.size, 0, none⟩) (VB7.out w.heap.size (by omega)) _) (p := ⟨w.heap.size, 1, none⟩) (VB7.out w.heap.size (by omega)) _
            · intro i hi; by_cases e : i = j
              · simp only [if_pos e]; omega
              · simp only [if_neg e]; exact DY.out i (by omega)
            · intro i hi; by_cases e : i = j
              · simp only [if_pos e]; omega
              · simp only [if_neg e]; exact HR.out i (by omega)
            · have h := D7.out; repeat' (first | (with_reducible assumption) | refine Cur.alloc ?_ _ | refine Cur.drewN ?_ _ | refine Cur.drew ?_ | refine Cur.setCell ?_ ?_ ?_ _ | omega | (simp; done) | (simp; omega))
            · have h := G7.out; repeat' (first | (with_reducible assumption) | (with_reducible exact World.grownBy.refl _ _) | refine grown_alloc ?_ _ | refine grown_drewN ?_ _ | refine grown_drew ?_ | refine grown_setCell ?_ ?_ _ | exact .inr (by first | omega | (simp; done) | (simp; omega)) | omega | (simp; done) | (simp; omega))
        go_wp2_with fail
        refine fin_cal (r := w.heap.size) (a := .slice (some ⟨gw, 0, none⟩) 7 7) (b := .slice Av j cv) rfl ?_ ?_ ?_
        · refine (Row.cell ((Row.set R4.out 0 _).set 1 _) (i := 0) (by omega)).trans ?_; simp
        · refine (Row.cell ((Row.set R4.out 0 _).set 1 _) (i := 1) (by omega)).trans ?_; simp
        refine drawn_cal (b1 := w.heap.size + 1) (b2 := w2.heap.size) (f := f0) (dy := dy) (hr := hr) (wk := .slice (some ⟨gw, 0, none⟩) 7 7) (v := .slice Av j cv) (n := 7) (m := j) ?_ ?_ Q0.out DY.out HR.out (by simp [Value.ownBlock]; omega) (VB.out g (by omega)) ?_ ?_ rfl
        · exact OwnV.far (OwnV.far T4.out (p := ⟨w.heap.size, 0, none⟩) (by simp [Value.ownBlock]; omega) _) (p := ⟨w.heap.size, 1, none⟩) (by simp [Value.ownBlock]; omega) _
        · exact OwnV.far (OwnV.far E4.out (p := ⟨w.heap.size, 0, none⟩) (VB.out w.heap.size (by omega)) _) (p := ⟨w.heap.size, 1, none⟩) (VB.out w.heap.size (by omega)) _
        · have h := D4.out; repeat' (first | (with_reducible assumption) | refine Cur.alloc ?_ _ | refine Cur.drewN ?_ _ | refine Cur.drew ?_ | refine Cur.setCell ?_ ?_ ?_ _ | omega | (simp; done) | (simp; omega))
        · have h := G4.out; repeat' (first | (with_reducible assumption) | (with_reducible exact World.grownBy.refl _ _) | refine grown_alloc ?_ _ | refine grown_drewN ?_ _ | refine grown_drew ?_ | refine grown_setCell ?_ ?_ _ | exact .inr (by first | omega | (simp; done) | (simp; omega)) | omega | (simp; done) | (simp; omega))

end Go.Proofs.Ytkbmlpnfdogioaa
