/-
  One round of the reference's l7Model: an option is drawn and appended. (Printed by gen/choice8.py.)
-/
import Derived.Test.YtkkhaamklbolmaaChoice7
import Derived.Deep.CutBlock
namespace Go.Proofs.Ytkkhaamklbolmaa
open Go.RowKit Go.Sort
set_option linter.unusedVariables false
set_option linter.unusedSimpArgs false

def sL : Code → Code
  | .seq a _ => a
  | c => c
def sR : Code → Code
  | .seq _ b => b
  | c => c
def inL : Code → Code
  | .loop b => b
  | c => c
def inB : Code → Code
  | .block _ b => b
  | c => c
set_option maxRecDepth 20000 in
set_option maxHeartbeats 16000000 in
theorem block1_normal {B g i co cr : Nat} {w wp : World} {Ao Ar : Option Addr} {nm : Nat → ByteArray} {V U : Nat → Value} (hmd : MdS B g (w.heap.size + 1) wp i 0 Ao co Ar cr nm V U) (hbe : Below B w wp) (hin : i < 3) (hlt : g < w.heap.size) (s8 s9 s10 s11 s12 s13 s14 s15 s16 s17 s18 s19 s20 s21 s22 s23 s24 s25 s26 s27 s28 s29 : Value)
    {J K' : Act → World → Prop} (hJ : ∀ a' w', (∃ u8 u9 u10 u11 u12 u13 u14 u15 u16 u17 u18 u19 u20 u21 u22 u23 u24 u25 u26 u27 u28 u29 : Value, (MdE B g (w.heap.size + 1) w' (i + 1) 0 ∧ Below B w w') ∧ a' = ⟨#[.pointer (some ⟨g, 0, none⟩), undef, .pointer (some ⟨w.heap.size, 0, none⟩), .pointer (some ⟨w.heap.size + 1, 0, none⟩), .int .i64 (i : Int), undef, undef, .agg #[.slice none 0 0, .slice none 0 0], u8, u9, u10, u11, u12, u13, u14, u15, u16, u17, u18, u19, u20, u21, u22, u23, u24, u25, u26, u27, u28, u29, undef, undef, undef, undef, undef, undef, undef, undef, undef, undef, undef, undef, undef, undef, undef, undef, undef, undef, undef, undef, undef, undef, undef, undef, undef, undef, undef, undef, undef, undef, undef, undef, undef, undef, undef, undef, undef, undef, undef, undef, undef, undef, undef, undef, undef, undef, undef, undef, undef, undef, undef, undef, undef, undef, undef, undef, undef, undef, undef, undef, undef, undef, undef, undef, undef, undef], []⟩) → J a' w') (hM : ∀ a' w', Met J a' w' → K' a' w') :
    Code.wp Try.prog (sL (sR (inL (inB (sR (sL (sR (sR (Try.f87.body.getD .skip))))))))) (Exit.then K' (fun _ _ _ => False)) ⟨#[.pointer (some ⟨g, 0, none⟩), undef, .pointer (some ⟨w.heap.size, 0, none⟩), .pointer (some ⟨w.heap.size + 1, 0, none⟩), .int .i64 (i : Int), undef, undef, .agg #[.slice none 0 0, .slice none 0 0], s8, s9, s10, s11, s12, s13, s14, s15, s16, s17, s18, s19, s20, s21, s22, s23, s24, s25, s26, s27, s28, s29, undef, undef, undef, undef, undef, undef, undef, undef, undef, undef, undef, undef, undef, undef, undef, undef, undef, undef, undef, undef, undef, undef, undef, undef, undef, undef, undef, undef, undef, undef, undef, undef, undef, undef, undef, undef, undef, undef, undef, undef, undef, undef, undef, undef, undef, undef, undef, undef, undef, undef, undef, undef, undef, undef, undef, undef, undef, undef, undef, undef, undef, undef, undef, undef, undef, undef], []⟩ wp := by
  obtain ⟨i0, hi0, hz0, hs0, hb0⟩ := info_parts option_info
  have hgB := hmd.cur.base
  have MM := Lib.hid hmd
  have BP := Lib.hid hbe
  clear hmd hbe
  have mp := MM.out.m0
  have zp := MM.out.row.frozen 0
  have lmp := MM.out.row.lt
  have lcp := MM.out.cur.lt
  have lm1 : w.heap.size < wp.heap.size := by omega
  have lm2 : w.heap.size < wp.heap.size + 1 := by omega
  have lm3 : w.heap.size < wp.heap.size + 1 + 1 := by omega
  have hic0 : (0 : Int) ≤ i := by omega
  have hic3 : (i : Int) < 3 := by omega
  have hLit := nmI_at hin
  have hLit2 := nmI_at2 hin
  have hLit3 := nmI_at3 hin
  dsimp only [sL, sR, inL, inB, Try.f87, Option.getD]
  go_wp2_with fail
  go_region_law (first
        | (refine step_appM _ rfl _ _ 63 rfl (B := B) (i := i0) (z := .agg #[.string ByteArray.empty, .slice none 0 0]) (s := 2) (bytes := 40) (F := optV (fun j => if j = i then nmI i else nm j) (fun j => if j = i then .slice (some ⟨_, 0, none⟩) (1 + k) 3 else V j)) (v := .slice Ao i co) (n := i) Try.underlying63 hi0 hz0 hs0 hb0 rfl (by decide) rfl (OwnV.congr (F := optV nm V) (MdS.oo (show MdS B g (w.heap.size + 1) _ i 0 Ao co Ar cr nm V U by repeat' (first | (with_reducible exact M6.out) | (with_reducible exact MM.out) | (with_reducible refine MdS.alloc ?_ _) | (with_reducible refine MdS.drewN ?_ _) | (with_reducible refine MdS.drew ?_)))) (fun a b ha hb => optV_lt _ _ _ _ ha b)) (by have := M6.out.cur.lt; have := M6.out.cur.base; first | omega | (simp; omega)) ⟨_, 0, none⟩ 1 1 rfl (by first | (with_reducible exact opt_new (fresh_at (by first | (with_reducible rfl) | (simp; done)))) | exact opt_new (fresh_at (by first | (with_reducible rfl) | (simp; done)))) opt_one (by omega) (by decide) ?_
           intro v7 w7 hv7 hg7 hb7
           obtain ⟨A7, p7, rfl, hs7, hf7⟩ := hv7.slice
           have FIN := MdS.fin (M := 0) (gm := w.heap.size + 1) (g := g) (Ar := Ar) (cr := cr) (U := U) (by repeat' (first | (with_reducible exact M6.out) | (with_reducible exact MM.out) | (with_reducible refine MdS.alloc ?_ _) | (with_reducible refine MdS.drewN ?_ _) | (with_reducible refine MdS.drew ?_))) hg7 hv7 (nmI_le i) (by repeat' (first | (refine row_xyz_at ?_; (first | (with_reducible rfl) | (simp; done))) | (with_reducible refine Row.alloc ?_ _) | (with_reducible refine Row.drew ?_) | (with_reducible refine RG.out _ ?_ ?_) | omega)) hk2
           obtain ⟨f1, k7, z7, l7, f5⟩ := FIN
           have F1 := Lib.hid f1
           have B7 := Lib.hid ((show Below B w _ by repeat' (first | (with_reducible exact B6.out) | (with_reducible exact BP.out) | (with_reducible refine Below.alloc ?_ ?_ _) | (with_reducible refine below_drewN ?_ _) | (with_reducible refine Below.drew ?_) | omega | (simp; done) | (simp; omega))).trans f5)
           clear hs7 hf7 hv7 hg7 hb7 f1 f5)
        | (go_simp
           go_at_call 76
           refine (l1Below_any B g _ 3 ?cc (by omega) (by omega)).mono ?_
           case cc => exact MdS.cur (show MdS B g (w.heap.size + 1) _ i 0 Ao co Ar cr nm V U by repeat' (first | (with_reducible exact M6.out) | (with_reducible exact MM.out) | (with_reducible refine MdS.alloc ?_ _) | (with_reducible refine MdS.drewN ?_ _) | (with_reducible refine MdS.drew ?_)))
           rintro e w6 ⟨vv, rfl, ⟨x6, rfl, x60, x61⟩, c6, hg6⟩
           obtain ⟨k, rfl⟩ : ∃ k : Nat, x6 = (k : Int) := ⟨x6.toNat, by omega⟩
           have M6 := Lib.hid (MdS.cursor (w' := w6) (show MdS B g (w.heap.size + 1) _ i 0 Ao co Ar cr nm V U by repeat' (first | (with_reducible exact M6.out) | (with_reducible exact MM.out) | (with_reducible refine MdS.alloc ?_ _) | (with_reducible refine MdS.drewN ?_ _) | (with_reducible refine MdS.drew ?_))) hg6 c6)
           have hk2 : k ≤ 2 := by omega
           have uk : IntKind.i64.wrap (1 + (k : Int)) = 1 + (k : Int) := IntWalk.i64_in _ ⟨by omega, by omega⟩
           have kk1 : (0 : Int) ≤ 1 + (k : Int) := by omega
           have kk2 : 1 + (k : Int) ≤ 3 := by omega
           have m6 := M6.out.m0
           have z6 := M6.out.row.frozen 0
           have lm6 := M6.out.row.lt
           have lm7 : w.heap.size < w6.heap.size := by omega
           have lm8 : w.heap.size < w6.heap.size + 1 := by omega
           have lm9 : w.heap.size < w6.heap.size + 1 + 1 := by omega
           have q2 := grown_name2 hg6 ⟨wp.heap.size, i, none⟩ (.string (nmI i)) (by show wp.heap.size ≠ g; omega)
           try simp [go_sem, hLit, hLit2, hLit3] at q2
           have q3 := grown_name2 hg6 ⟨wp.heap.size + 1, i, none⟩ (.string (nmI i)) (by show wp.heap.size + 1 ≠ g; omega)
           try simp [go_sem, hLit, hLit2, hLit3] at q3
           have q0 := grown_name hg6 ⟨wp.heap.size, i, none⟩ (.string (nmI i)) (by show wp.heap.size ≠ g; omega)
           try simp [go_sem, hLit, hLit2, hLit3] at q0
           have q1 := grown_name hg6 ⟨wp.heap.size + 1, i, none⟩ (.string (nmI i)) (by show wp.heap.size + 1 ≠ g; omega)
           try simp [go_sem, hLit, hLit2, hLit3] at q1
           have RG := Lib.hid (fun (gx : Nat) (hgx : gx ≠ g) (r : Row _ gx 9 3 xyzF) => r.grown hg6 (fun e => hgx e.symm))
           have B6 := Lib.hid (Below.trans (show Below B w _ by repeat' (first | (with_reducible exact B6.out) | (with_reducible exact BP.out) | (with_reducible refine Below.alloc ?_ ?_ _) | (with_reducible refine below_drewN ?_ _) | (with_reducible refine Below.drew ?_) | omega | (simp; done) | (simp; omega))) (grown_below hg6 hgB (by have := hg6.size; simp at this ⊢; omega)))
           have l6 : wp.heap.size ≤ w6.heap.size := (by have := hg6.size; simp at this; omega)
           clear c6 hg6))
  all_goals
    go_wp2_with fail
    go_meet
    case rel => exact ⟨F1.out, B7.out.setCell (by show B ≤ w.heap.size + 1; omega) _⟩

theorem block1_any {B g i co cr : Nat} {w wp : World} {Ao Ar : Option Addr} {nm : Nat → ByteArray} {V U : Nat → Value} (hmd : MdS B g (w.heap.size + 1) wp i 0 Ao co Ar cr nm V U) (hbe : Below B w wp) (hin : i < 3) (hlt : g < w.heap.size) (s8 s9 s10 s11 s12 s13 s14 s15 s16 s17 s18 s19 s20 s21 s22 s23 s24 s25 s26 s27 s28 s29 : Value)
    {J K' : Act → World → Prop} {Q' : Exit → Act → World → Prop} (hJ : ∀ a' w', (∃ u8 u9 u10 u11 u12 u13 u14 u15 u16 u17 u18 u19 u20 u21 u22 u23 u24 u25 u26 u27 u28 u29 : Value, (MdE B g (w.heap.size + 1) w' (i + 1) 0 ∧ Below B w w') ∧ a' = ⟨#[.pointer (some ⟨g, 0, none⟩), undef, .pointer (some ⟨w.heap.size, 0, none⟩), .pointer (some ⟨w.heap.size + 1, 0, none⟩), .int .i64 (i : Int), undef, undef, .agg #[.slice none 0 0, .slice none 0 0], u8, u9, u10, u11, u12, u13, u14, u15, u16, u17, u18, u19, u20, u21, u22, u23, u24, u25, u26, u27, u28, u29, undef, undef, undef, undef, undef, undef, undef, undef, undef, undef, undef, undef, undef, undef, undef, undef, undef, undef, undef, undef, undef, undef, undef, undef, undef, undef, undef, undef, undef, undef, undef, undef, undef, undef, undef, undef, undef, undef, undef, undef, undef, undef, undef, undef, undef, undef, undef, undef, undef, undef, undef, undef, undef, undef, undef, undef, undef, undef, undef, undef, undef, undef, undef, undef, undef, undef], []⟩) → J a' w') (hM : ∀ a' w', Met J a' w' → K' a' w') :
    Code.wp Try.prog (sL (sR (inL (inB (sR (sL (sR (sR (Try.f87.body.getD .skip))))))))) (Exit.then K' Q') ⟨#[.pointer (some ⟨g, 0, none⟩), undef, .pointer (some ⟨w.heap.size, 0, none⟩), .pointer (some ⟨w.heap.size + 1, 0, none⟩), .int .i64 (i : Int), undef, undef, .agg #[.slice none 0 0, .slice none 0 0], s8, s9, s10, s11, s12, s13, s14, s15, s16, s17, s18, s19, s20, s21, s22, s23, s24, s25, s26, s27, s28, s29, undef, undef, undef, undef, undef, undef, undef, undef, undef, undef, undef, undef, undef, undef, undef, undef, undef, undef, undef, undef, undef, undef, undef, undef, undef, undef, undef, undef, undef, undef, undef, undef, undef, undef, undef, undef, undef, undef, undef, undef, undef, undef, undef, undef, undef, undef, undef, undef, undef, undef, undef, undef, undef, undef, undef, undef, undef, undef, undef, undef, undef, undef, undef, undef, undef, undef], []⟩ wp :=
  wp_mono (block1_normal hmd hbe hin hlt s8 s9 s10 s11 s12 s13 s14 s15 s16 s17 s18 s19 s20 s21 s22 s23 s24 s25 s26 s27 s28 s29 hJ hM) (fun e _ _ hq => by
    cases e
    case normal => exact hq
    all_goals exact hq.elim)
end Go.Proofs.Ytkkhaamklbolmaa
