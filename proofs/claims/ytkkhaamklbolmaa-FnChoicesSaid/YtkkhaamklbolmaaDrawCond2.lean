/-
  Contracts of l6Choice and DrawHolds. (Printed by gen/drawcond2.py.)
-/
import Derived.Test.YtkkhaamklbolmaaDrawCond
namespace Go.Proofs.Ytkkhaamklbolmaa
open Go.RowKit Go.Sort
set_option linter.unusedVariables false
set_option linter.unusedSimpArgs false

abbrev Pk := ByteArray × ByteArray
def pkC (X : List Pk) (j q : Nat) : Value := pickC (pkO X) (pkV X) j q
def PkOk (X : List Pk) : Prop := ∀ x, x ∈ X → x.1.size ≤ 8 ∧ x.2.size ≤ 8
theorem pkC_app (X Y : List Pk) {j q : Nat} (h : j < X.length) : pkC X j q = pkC (X ++ Y) j q := by
  unfold pkC pickC
  rw [(pk_left X Y h).1, (pk_left X Y h).2]
theorem pkC_last (X : List Pk) (x : Pk) (q : Nat) : pkC (X ++ [x]) X.length q = if q = 0 then .string x.1 else .string x.2 := by
  unfold pkC pickC
  rw [(pk_last X x).1, (pk_last X x).2]
theorem pkC_one (X : List Pk) (j q : Nat) : (pkC X j q).oneCell' = true := by unfold pkC pickC; split <;> rfl
theorem pkOk_at {X : List Pk} (h : PkOk X) {i : Nat} (hi : i < X.length) : (pkO X i).size ≤ 8 ∧ (pkV X i).size ≤ 8 := by
  have e : X.getD i (mt, mt) = X[i] := by simp [List.getD_eq_getElem?_getD, hi]
  unfold pkO pkV; rw [e]; exact h _ (List.getElem_mem hi)
theorem pkOk_app {X : List Pk} (h : PkOk X) {x : Pk} (hx : x.1.size ≤ 8 ∧ x.2.size ≤ 8) : PkOk (X ++ [x]) := by
  intro y hy
  rw [List.mem_append] at hy
  rcases hy with hy | hy
  · exact h y hy
  · simp at hy; rw [hy]; exact hx
theorem pk_pickF {w : World} {A : Option Addr} {c B : Nat} {X : List Pk} (h : OwnV B w 52 2 (.slice A X.length c) X.length (pkC X)) (k : PkOk X) : PickF w A X.length c (pkO X) (pkV X) := by
  obtain ⟨A2, c2, e, hS, _⟩ := h.slice
  injection e with e1 e2 e3
  subst e1; subst e3
  exact ⟨hS, fun i hi => by have := (pkOk_at k hi).1; omega, fun i hi => by have := (pkOk_at k hi).2; omega⟩
theorem grown_name {a b : World} {g : Nat} (h : a.grownBy b (some g)) (p : Addr) (v : Value) (hn : p.block ≠ g) (hl : p.block < a.heap.size) (hc : a.cell? p = some v) : b.cell? p = some v := (grown_cell h hl hn).trans hc
def DrawnP (B g : Nat) (w : World) (e : Ending) (w' : World) : Prop := ∃ (A : Option Addr) (c : Nat) (X : List Pk), e = .returned (.slice A X.length c) ∧ OwnV w.heap.size w' 52 2 (.slice A X.length c) X.length (pkC X) ∧ PkOk X ∧ X.length ≤ 3 ∧ Cur B w' g ∧ w.grownBy w' (some g)

set_option maxRecDepth 20000 in
set_option maxHeartbeats 4000000 in
theorem l6Choice_any (B g : Nat) (w : World) (c : Cur B w g) : Calls Try.prog 73 #[.pointer (some ⟨g, 0, none⟩)] w (DrawnP B g w) := by
  obtain ⟨i0, hi0, hz0, hs0, hb0⟩ := info_parts pick_info
  have hlt := c.lt
  have hB := c.base
  go_enter Try.func73, Try.ntmps73
  go_wp2_with fail
  have O0 := Lib.hid (OwnV.lit w (B := w.heap.size) (Nat.le_refl _) 52 2 0 #[] (pkC []) (by simp [flat]) (by omega))
  have C0 := Lib.hid (c.alloc (.cells #[] 52))
  have G0 := Lib.hid (grown_alloc (World.grownBy.refl w (some g)) (.cells #[] 52))
  clear c
  go_loopw [3, 4] (fun ov iv W => ∃ (i : Nat) (X : List Pk), iv = .int .i64 (i : Int) ∧ i ≤ 3 ∧ X.length ≤ i ∧ ∃ (Ao : Option Addr) (co : Nat), ov = .slice Ao X.length co ∧ OwnV w.heap.size W 52 2 (.slice Ao X.length co) X.length (pkC X) ∧ PkOk X ∧ Cur B W g ∧ w.grownBy W (some g)) (fun _ iv _ => 3 - (intOf iv).toNat)
  case atStart => exact ⟨0, [], rfl, by omega, by simp, _, _, rfl, O0.out, fun x hx => absurd hx (by simp), C0.out, G0.out⟩
  case round =>
    clear O0 C0 G0
    obtain ⟨i, X, rfl, hi, hx, Ao, co, rfl, hown, hok, hcur, hgr⟩ := hrel
    have O := Lib.hid hown
    have XO := Lib.hid hok
    have C := Lib.hid hcur
    have G := Lib.hid hgr
    have NG := Lib.hid (show (Value.slice Ao X.length co).ownBlock ≠ some g from fun e => by have := (hown.lt e).1; omega)
    have VLO := Lib.hid (show ∀ r, (Value.slice Ao X.length co).ownBlock = some r → w.heap.size ≤ r from fun r h => (hown.lt h).1)
    have HX := Lib.hid hx
    clear hown hok hcur hgr hx
    have lr := G.out.size
    rcases (by omega : i = 0 ∨ i = 1 ∨ i = 2 ∨ i = 3) with rfl | rfl | rfl | rfl
    · go_wp2_with fail
      refine (l1Once_any B g _ 5 C.out (by omega) (by omega)).mono ?_
      rintro e w4 ⟨v, rfl, ⟨b, rfl⟩, c4, hg4⟩
      have O4 := Lib.hid (O.out.grown hg4 (.inr NG.out))
      have C4 := Lib.hid c4
      have G4 := Lib.hid (grown_trans G.out hg4)
      have l4 := hg4.size
      clear c4 hg4 O C G
      cases b
      case true =>
        go_wp2_with fail
        go_roundw
        case rel => exact ⟨0 + 1, X, rfl, by omega, by have := HX.out; omega, Ao, co, rfl, O4.out, XO.out, C4.out, G4.out⟩
        case measure => simp [intOf]
      go_wp2_with fail
      go_region_law (first
          | (go_simp
             go_at_call 77
             refine (l1Pick_any B g _ 3 3 _ (Short 8) ?c1 (by omega) (by omega) ?c4 ?c5 ?c6).mono ?_
             case c1 => (have h := C4.out; repeat' (first | (with_reducible assumption) | refine Cur.alloc ?_ _ | refine Cur.drewN ?_ _ | refine Cur.drew ?_ | refine Cur.setCell ?_ ?_ ?_ _ | omega | (simp; done) | (simp; omega)))
             case c4 => (simp; omega)
             case c5 => (first | (simp; done) | (simp; omega))
             case c6 => (intro j hj; rcases (by omega : j = 0 ∨ j = 1 ∨ j = 2) with rfl | rfl | rfl <;> exact ⟨_, by simp [go_sem]; rfl, _, rfl, by decide⟩)
             rintro e w5 ⟨vv, rfl, ⟨z, rfl, hz⟩, c5, hg5⟩
             have n5a := grown_name hg5 ⟨w4.heap.size, 0, none⟩ (.string ⟨#[67, 79, 76, 79, 82]⟩) (by show w4.heap.size ≠ g; omega)
             try simp [go_sem] at n5a
             have n5b := grown_name hg5 ⟨w4.heap.size + 1, 0, none⟩ (.string ⟨#[67, 79, 76, 79, 82]⟩) (by show w4.heap.size + 1 ≠ g; omega)
             try simp [go_sem] at n5b
             have l5 : w4.heap.size ≤ w5.heap.size := (by have := hg5.size; simp at this; omega)
             have O5 := Lib.hid (OwnV.grown (B := w.heap.size) (T := 52) (s := 2) (v := .slice Ao X.length co) (n := X.length) (F := pkC X) (by have h := O4.out; repeat' (first | (with_reducible assumption) | refine OwnV.alloc ?_ _ | refine OwnV.drewN ?_ _ | refine OwnV.drew ?_)) hg5 (.inr NG.out))
             have G5 := Lib.hid (grown_trans (a := w) (by have h := G4.out; repeat' (first | (with_reducible assumption) | (with_reducible exact World.grownBy.refl _ _) | refine grown_alloc ?_ _ | refine grown_drewN ?_ _ | refine grown_drew ?_ | omega | (simp; done) | (simp; omega))) hg5)
             have C5 := Lib.hid c5
             clear c5 hg5)
          | (refine step_appS w5 rfl _ _ 38 rfl (B := w.heap.size) (i := i0) (z := .agg #[.string ByteArray.empty, .string ByteArray.empty]) (s := 2) (bytes := 32) (F := pkC (X ++ [(⟨#[67, 79, 76, 79, 82]⟩, z)])) (v := .slice Ao X.length co) (n := X.length) (xs := #[.string ⟨#[67, 79, 76, 79, 82]⟩, .string z]) Try.underlying38 hi0 hz0 hs0 hb0 rfl (by decide) rfl (OwnV.congr (F := pkC X) (by have h := O5.out; repeat' (first | (with_reducible assumption) | refine OwnV.alloc ?_ _ | refine OwnV.drewN ?_ _ | refine OwnV.drew ?_)) (fun a b ha hb => pkC_app X [(⟨#[67, 79, 76, 79, 82]⟩, z)] ha)) (by first | omega | (simp; omega)) ⟨rfl, rfl, rfl, rfl⟩ rfl (fun q hq => by rw [pkC_last]; rcases (by omega : q = 0 ∨ q = 1) with rfl | rfl <;> rfl) (fun q hq => pkC_one _ _ _) (by have := HX.out; omega) (by decide) ?_; intro v7 w7 hv7 hg7 hb7; have V7 := Lib.hid hv7; have C7 := Lib.hid (Cur.own (B := B) (g := g) (by have h := C5.out; repeat' (first | (with_reducible assumption) | refine Cur.alloc ?_ _ | refine Cur.drewN ?_ _ | refine Cur.drew ?_ | refine Cur.setCell ?_ ?_ ?_ _ | omega | (simp; done) | (simp; omega))) hg7 (fun r hr => by have := VLO.out r hr; exact ⟨by omega, by omega⟩)); have G7 := Lib.hid (grown_own (a := w) (g := g) (by have h := G5.out; repeat' (first | (with_reducible assumption) | (with_reducible exact World.grownBy.refl _ _) | refine grown_alloc ?_ _ | refine grown_drewN ?_ _ | refine grown_drew ?_ | omega | (simp; done) | (simp; omega))) hg7 (fun r hr => VLO.out r hr)); obtain ⟨A7, p7, rfl, hs7, hf7⟩ := hv7.slice; clear hs7 hf7 hv7 hg7 hb7)
          | (refine step_appS (w5.alloc (.cells #[.string ⟨#[67, 79, 76, 79, 82]⟩, .string ⟨#[83, 73, 90, 69]⟩, .string ⟨#[76, 73, 68]⟩] 9)) rfl _ _ 38 rfl (B := w.heap.size) (i := i0) (z := .agg #[.string ByteArray.empty, .string ByteArray.empty]) (s := 2) (bytes := 32) (F := pkC (X ++ [(⟨#[67, 79, 76, 79, 82]⟩, z)])) (v := .slice Ao X.length co) (n := X.length) (xs := #[.string ⟨#[67, 79, 76, 79, 82]⟩, .string z]) Try.underlying38 hi0 hz0 hs0 hb0 rfl (by decide) rfl (OwnV.congr (F := pkC X) (by have h := O5.out; repeat' (first | (with_reducible assumption) | refine OwnV.alloc ?_ _ | refine OwnV.drewN ?_ _ | refine OwnV.drew ?_)) (fun a b ha hb => pkC_app X [(⟨#[67, 79, 76, 79, 82]⟩, z)] ha)) (by first | omega | (simp; omega)) ⟨rfl, rfl, rfl, rfl⟩ (by show Value.slice (some ⟨w5.heap.size + 1, 0, none⟩) 1 1 = _; simp) (fun q hq => by rw [pkC_last]; rcases (by omega : q = 0 ∨ q = 1) with rfl | rfl <;> rfl) (fun q hq => pkC_one _ _ _) (by have := HX.out; omega) (by decide) ?_; intro v7 w7 hv7 hg7 hb7; have V7 := Lib.hid hv7; have C7 := Lib.hid (Cur.own (B := B) (g := g) (by have h := C5.out; repeat' (first | (with_reducible assumption) | refine Cur.alloc ?_ _ | refine Cur.drewN ?_ _ | refine Cur.drew ?_ | refine Cur.setCell ?_ ?_ ?_ _ | omega | (simp; done) | (simp; omega))) hg7 (fun r hr => by have := VLO.out r hr; exact ⟨by omega, by omega⟩)); have G7 := Lib.hid (grown_own (a := w) (g := g) (by have h := G5.out; repeat' (first | (with_reducible assumption) | (with_reducible exact World.grownBy.refl _ _) | refine grown_alloc ?_ _ | refine grown_drewN ?_ _ | refine grown_drew ?_ | omega | (simp; done) | (simp; omega))) hg7 (fun r hr => VLO.out r hr)); obtain ⟨A7, p7, rfl, hs7, hf7⟩ := hv7.slice; clear hs7 hf7 hv7 hg7 hb7))
      all_goals
        go_wp2_with fail
        go_roundw
        case rel => exact ⟨0 + 1, X ++ [(⟨#[67, 79, 76, 79, 82]⟩, z)], rfl, by omega, by have := HX.out; rw [List.length_append, List.length_singleton]; omega, A7, p7, by simp, by simpa using V7.out, pkOk_app XO.out ⟨show (⟨#[67, 79, 76, 79, 82]⟩ : ByteArray).size ≤ 8 from by decide, hz⟩, by have h := C7.out; repeat' (first | (with_reducible assumption) | refine Cur.alloc ?_ _ | refine Cur.drewN ?_ _ | refine Cur.drew ?_ | refine Cur.setCell ?_ ?_ ?_ _ | omega | (simp; done) | (simp; omega)), by have h := G7.out; repeat' (first | (with_reducible assumption) | (with_reducible exact World.grownBy.refl _ _) | refine grown_alloc ?_ _ | refine grown_drewN ?_ _ | refine grown_drew ?_ | omega | (simp; done) | (simp; omega))⟩
        case measure => simp [intOf]
    · go_wp2_with fail
      refine (l1Once_any B g _ 5 C.out (by omega) (by omega)).mono ?_
      rintro e w4 ⟨v, rfl, ⟨b, rfl⟩, c4, hg4⟩
      have O4 := Lib.hid (O.out.grown hg4 (.inr NG.out))
      have C4 := Lib.hid c4
      have G4 := Lib.hid (grown_trans G.out hg4)
      have l4 := hg4.size
      clear c4 hg4 O C G
      cases b
      case true =>
        go_wp2_with fail
        go_roundw
        case rel => exact ⟨1 + 1, X, rfl, by omega, by have := HX.out; omega, Ao, co, rfl, O4.out, XO.out, C4.out, G4.out⟩
        case measure => simp [intOf]
      go_wp2_with fail
      go_region_law (first
          | (go_simp
             go_at_call 77
             refine (l1Pick_any B g _ 3 3 _ (Short 8) ?c1 (by omega) (by omega) ?c4 ?c5 ?c6).mono ?_
             case c1 => (have h := C4.out; repeat' (first | (with_reducible assumption) | refine Cur.alloc ?_ _ | refine Cur.drewN ?_ _ | refine Cur.drew ?_ | refine Cur.setCell ?_ ?_ ?_ _ | omega | (simp; done) | (simp; omega)))
             case c4 => (simp; omega)
             case c5 => (first | (simp; done) | (simp; omega))
             case c6 => (intro j hj; rcases (by omega : j = 0 ∨ j = 1 ∨ j = 2) with rfl | rfl | rfl <;> exact ⟨_, by simp [go_sem]; rfl, _, rfl, by decide⟩)
             rintro e w5 ⟨vv, rfl, ⟨z, rfl, hz⟩, c5, hg5⟩
             have n5a := grown_name hg5 ⟨w4.heap.size, 1, none⟩ (.string ⟨#[83, 73, 90, 69]⟩) (by show w4.heap.size ≠ g; omega)
             try simp [go_sem] at n5a
             have n5b := grown_name hg5 ⟨w4.heap.size + 1, 1, none⟩ (.string ⟨#[83, 73, 90, 69]⟩) (by show w4.heap.size + 1 ≠ g; omega)
             try simp [go_sem] at n5b
             have l5 : w4.heap.size ≤ w5.heap.size := (by have := hg5.size; simp at this; omega)
             have O5 := Lib.hid (OwnV.grown (B := w.heap.size) (T := 52) (s := 2) (v := .slice Ao X.length co) (n := X.length) (F := pkC X) (by have h := O4.out; repeat' (first | (with_reducible assumption) | refine OwnV.alloc ?_ _ | refine OwnV.drewN ?_ _ | refine OwnV.drew ?_)) hg5 (.inr NG.out))
             have G5 := Lib.hid (grown_trans (a := w) (by have h := G4.out; repeat' (first | (with_reducible assumption) | (with_reducible exact World.grownBy.refl _ _) | refine grown_alloc ?_ _ | refine grown_drewN ?_ _ | refine grown_drew ?_ | omega | (simp; done) | (simp; omega))) hg5)
             have C5 := Lib.hid c5
             clear c5 hg5)
          | (refine step_appS w5 rfl _ _ 38 rfl (B := w.heap.size) (i := i0) (z := .agg #[.string ByteArray.empty, .string ByteArray.empty]) (s := 2) (bytes := 32) (F := pkC (X ++ [(⟨#[83, 73, 90, 69]⟩, z)])) (v := .slice Ao X.length co) (n := X.length) (xs := #[.string ⟨#[83, 73, 90, 69]⟩, .string z]) Try.underlying38 hi0 hz0 hs0 hb0 rfl (by decide) rfl (OwnV.congr (F := pkC X) (by have h := O5.out; repeat' (first | (with_reducible assumption) | refine OwnV.alloc ?_ _ | refine OwnV.drewN ?_ _ | refine OwnV.drew ?_)) (fun a b ha hb => pkC_app X [(⟨#[83, 73, 90, 69]⟩, z)] ha)) (by first | omega | (simp; omega)) ⟨rfl, rfl, rfl, rfl⟩ rfl (fun q hq => by rw [pkC_last]; rcases (by omega : q = 0 ∨ q = 1) with rfl | rfl <;> rfl) (fun q hq => pkC_one _ _ _) (by have := HX.out; omega) (by decide) ?_; intro v7 w7 hv7 hg7 hb7; have V7 := Lib.hid hv7; have C7 := Lib.hid (Cur.own (B := B) (g := g) (by have h := C5.out; repeat' (first | (with_reducible assumption) | refine Cur.alloc ?_ _ | refine Cur.drewN ?_ _ | refine Cur.drew ?_ | refine Cur.setCell ?_ ?_ ?_ _ | omega | (simp; done) | (simp; omega))) hg7 (fun r hr => by have := VLO.out r hr; exact ⟨by omega, by omega⟩)); have G7 := Lib.hid (grown_own (a := w) (g := g) (by have h := G5.out; repeat' (first | (with_reducible assumption) | (with_reducible exact World.grownBy.refl _ _) | refine grown_alloc ?_ _ | refine grown_drewN ?_ _ | refine grown_drew ?_ | omega | (simp; done) | (simp; omega))) hg7 (fun r hr => VLO.out r hr)); obtain ⟨A7, p7, rfl, hs7, hf7⟩ := hv7.slice; clear hs7 hf7 hv7 hg7 hb7)
          | (refine step_appS (w5.alloc (.cells #[.string ⟨#[67, 79, 76, 79, 82]⟩, .string ⟨#[83, 73, 90, 69]⟩, .string ⟨#[76, 73, 68]⟩] 9)) rfl _ _ 38 rfl (B := w.heap.size) (i := i0) (z := .agg #[.string ByteArray.empty, .string ByteArray.empty]) (s := 2) (bytes := 32) (F := pkC (X ++ [(⟨#[83, 73, 90, 69]⟩, z)])) (v := .slice Ao X.length co) (n := X.length) (xs := #[.string ⟨#[83, 73, 90, 69]⟩, .string z]) Try.underlying38 hi0 hz0 hs0 hb0 rfl (by decide) rfl (OwnV.congr (F := pkC X) (by have h := O5.out; repeat' (first | (with_reducible assumption) | refine OwnV.alloc ?_ _ | refine OwnV.drewN ?_ _ | refine OwnV.drew ?_)) (fun a b ha hb => pkC_app X [(⟨#[83, 73, 90, 69]⟩, z)] ha)) (by first | omega | (simp; omega)) ⟨rfl, rfl, rfl, rfl⟩ (by show Value.slice (some ⟨w5.heap.size + 1, 0, none⟩) 1 1 = _; simp) (fun q hq => by rw [pkC_last]; rcases (by omega : q = 0 ∨ q = 1) with rfl | rfl <;> rfl) (fun q hq => pkC_one _ _ _) (by have := HX.out; omega) (by decide) ?_; intro v7 w7 hv7 hg7 hb7; have V7 := Lib.hid hv7; have C7 := Lib.hid (Cur.own (B := B) (g := g) (by have h := C5.out; repeat' (first | (with_reducible assumption) | refine Cur.alloc ?_ _ | refine Cur.drewN ?_ _ | refine Cur.drew ?_ | refine Cur.setCell ?_ ?_ ?_ _ | omega | (simp; done) | (simp; omega))) hg7 (fun r hr => by have := VLO.out r hr; exact ⟨by omega, by omega⟩)); have G7 := Lib.hid (grown_own (a := w) (g := g) (by have h := G5.out; repeat' (first | (with_reducible assumption) | (with_reducible exact World.grownBy.refl _ _) | refine grown_alloc ?_ _ | refine grown_drewN ?_ _ | refine grown_drew ?_ | omega | (simp; done) | (simp; omega))) hg7 (fun r hr => VLO.out r hr)); obtain ⟨A7, p7, rfl, hs7, hf7⟩ := hv7.slice; clear hs7 hf7 hv7 hg7 hb7))
      all_goals
        go_wp2_with fail
        go_roundw
        case rel => exact ⟨1 + 1, X ++ [(⟨#[83, 73, 90, 69]⟩, z)], rfl, by omega, by have := HX.out; rw [List.length_append, List.length_singleton]; omega, A7, p7, by simp, by simpa using V7.out, pkOk_app XO.out ⟨show (⟨#[83, 73, 90, 69]⟩ : ByteArray).size ≤ 8 from by decide, hz⟩, by have h := C7.out; repeat' (first | (with_reducible assumption) | refine Cur.alloc ?_ _ | refine Cur.drewN ?_ _ | refine Cur.drew ?_ | refine Cur.setCell ?_ ?_ ?_ _ | omega | (simp; done) | (simp; omega)), by have h := G7.out; repeat' (first | (with_reducible assumption) | (with_reducible exact World.grownBy.refl _ _) | refine grown_alloc ?_ _ | refine grown_drewN ?_ _ | refine grown_drew ?_ | omega | (simp; done) | (simp; omega))⟩
        case measure => simp [intOf]
    · go_wp2_with fail
      refine (l1Once_any B g _ 5 C.out (by omega) (by omega)).mono ?_
      rintro e w4 ⟨v, rfl, ⟨b, rfl⟩, c4, hg4⟩
      have O4 := Lib.hid (O.out.grown hg4 (.inr NG.out))
      have C4 := Lib.hid c4
      have G4 := Lib.hid (grown_trans G.out hg4)
      have l4 := hg4.size
      clear c4 hg4 O C G
      cases b
      case true =>
        go_wp2_with fail
        go_roundw
        case rel => exact ⟨2 + 1, X, rfl, by omega, by have := HX.out; omega, Ao, co, rfl, O4.out, XO.out, C4.out, G4.out⟩
        case measure => simp [intOf]
      go_wp2_with fail
      go_region_law (first
          | (go_simp
             go_at_call 77
             refine (l1Pick_any B g _ 3 3 _ (Short 8) ?c1 (by omega) (by omega) ?c4 ?c5 ?c6).mono ?_
             case c1 => (have h := C4.out; repeat' (first | (with_reducible assumption) | refine Cur.alloc ?_ _ | refine Cur.drewN ?_ _ | refine Cur.drew ?_ | refine Cur.setCell ?_ ?_ ?_ _ | omega | (simp; done) | (simp; omega)))
             case c4 => (simp; omega)
             case c5 => (first | (simp; done) | (simp; omega))
             case c6 => (intro j hj; rcases (by omega : j = 0 ∨ j = 1 ∨ j = 2) with rfl | rfl | rfl <;> exact ⟨_, by simp [go_sem]; rfl, _, rfl, by decide⟩)
             rintro e w5 ⟨vv, rfl, ⟨z, rfl, hz⟩, c5, hg5⟩
             have n5a := grown_name hg5 ⟨w4.heap.size, 2, none⟩ (.string ⟨#[76, 73, 68]⟩) (by show w4.heap.size ≠ g; omega)
             try simp [go_sem] at n5a
             have n5b := grown_name hg5 ⟨w4.heap.size + 1, 2, none⟩ (.string ⟨#[76, 73, 68]⟩) (by show w4.heap.size + 1 ≠ g; omega)
             try simp [go_sem] at n5b
             have l5 : w4.heap.size ≤ w5.heap.size := (by have := hg5.size; simp at this; omega)
             have O5 := Lib.hid (OwnV.grown (B := w.heap.size) (T := 52) (s := 2) (v := .slice Ao X.length co) (n := X.length) (F := pkC X) (by have h := O4.out; repeat' (first | (with_reducible assumption) | refine OwnV.alloc ?_ _ | refine OwnV.drewN ?_ _ | refine OwnV.drew ?_)) hg5 (.inr NG.out))
             have G5 := Lib.hid (grown_trans (a := w) (by have h := G4.out; repeat' (first | (with_reducible assumption) | (with_reducible exact World.grownBy.refl _ _) | refine grown_alloc ?_ _ | refine grown_drewN ?_ _ | refine grown_drew ?_ | omega | (simp; done) | (simp; omega))) hg5)
             have C5 := Lib.hid c5
             clear c5 hg5)
          | (refine step_appS w5 rfl _ _ 38 rfl (B := w.heap.size) (i := i0) (z := .agg #[.string ByteArray.empty, .string ByteArray.empty]) (s := 2) (bytes := 32) (F := pkC (X ++ [(⟨#[76, 73, 68]⟩, z)])) (v := .slice Ao X.length co) (n := X.length) (xs := #[.string ⟨#[76, 73, 68]⟩, .string z]) Try.underlying38 hi0 hz0 hs0 hb0 rfl (by decide) rfl (OwnV.congr (F := pkC X) (by have h := O5.out; repeat' (first | (with_reducible assumption) | refine OwnV.alloc ?_ _ | refine OwnV.drewN ?_ _ | refine OwnV.drew ?_)) (fun a b ha hb => pkC_app X [(⟨#[76, 73, 68]⟩, z)] ha)) (by first | omega | (simp; omega)) ⟨rfl, rfl, rfl, rfl⟩ rfl (fun q hq => by rw [pkC_last]; rcases (by omega : q = 0 ∨ q = 1) with rfl | rfl <;> rfl) (fun q hq => pkC_one _ _ _) (by have := HX.out; omega) (by decide) ?_; intro v7 w7 hv7 hg7 hb7; have V7 := Lib.hid hv7; have C7 := Lib.hid (Cur.own (B := B) (g := g) (by have h := C5.out; repeat' (first | (with_reducible assumption) | refine Cur.alloc ?_ _ | refine Cur.drewN ?_ _ | refine Cur.drew ?_ | refine Cur.setCell ?_ ?_ ?_ _ | omega | (simp; done) | (simp; omega))) hg7 (fun r hr => by have := VLO.out r hr; exact ⟨by omega, by omega⟩)); have G7 := Lib.hid (grown_own (a := w) (g := g) (by have h := G5.out; repeat' (first | (with_reducible assumption) | (with_reducible exact World.grownBy.refl _ _) | refine grown_alloc ?_ _ | refine grown_drewN ?_ _ | refine grown_drew ?_ | omega | (simp; done) | (simp; omega))) hg7 (fun r hr => VLO.out r hr)); obtain ⟨A7, p7, rfl, hs7, hf7⟩ := hv7.slice; clear hs7 hf7 hv7 hg7 hb7)
          | (refine step_appS (w5.alloc (.cells #[.string ⟨#[67, 79, 76, 79, 82]⟩, .string ⟨#[83, 73, 90, 69]⟩, .string ⟨#[76, 73, 68]⟩] 9)) rfl _ _ 38 rfl (B := w.heap.size) (i := i0) (z := .agg #[.string ByteArray.empty, .string ByteArray.empty]) (s := 2) (bytes := 32) (F := pkC (X ++ [(⟨#[76, 73, 68]⟩, z)])) (v := .slice Ao X.length co) (n := X.length) (xs := #[.string ⟨#[76, 73, 68]⟩, .string z]) Try.underlying38 hi0 hz0 hs0 hb0 rfl (by decide) rfl (OwnV.congr (F := pkC X) (by have h := O5.out; repeat' (first | (with_reducible assumption) | refine OwnV.alloc ?_ _ | refine OwnV.drewN ?_ _ | refine OwnV.drew ?_)) (fun a b ha hb => pkC_app X [(⟨#[76, 73, 68]⟩, z)] ha)) (by first | omega | (simp; omega)) ⟨rfl, rfl, rfl, rfl⟩ (by show Value.slice (some ⟨w5.heap.size + 1, 0, none⟩) 1 1 = _; simp) (fun q hq => by rw [pkC_last]; rcases (by omega : q = 0 ∨ q = 1) with rfl | rfl <;> rfl) (fun q hq => pkC_one _ _ _) (by have := HX.out; omega) (by decide) ?_; intro v7 w7 hv7 hg7 hb7; have V7 := Lib.hid hv7; have C7 := Lib.hid (Cur.own (B := B) (g := g) (by have h := C5.out; repeat' (first | (with_reducible assumption) | refine Cur.alloc ?_ _ | refine Cur.drewN ?_ _ | refine Cur.drew ?_ | refine Cur.setCell ?_ ?_ ?_ _ | omega | (simp; done) | (simp; omega))) hg7 (fun r hr => by have := VLO.out r hr; exact ⟨by omega, by omega⟩)); have G7 := Lib.hid (grown_own (a := w) (g := g) (by have h := G5.out; repeat' (first | (with_reducible assumption) | (with_reducible exact World.grownBy.refl _ _) | refine grown_alloc ?_ _ | refine grown_drewN ?_ _ | refine grown_drew ?_ | omega | (simp; done) | (simp; omega))) hg7 (fun r hr => VLO.out r hr)); obtain ⟨A7, p7, rfl, hs7, hf7⟩ := hv7.slice; clear hs7 hf7 hv7 hg7 hb7))
      all_goals
        go_wp2_with fail
        go_roundw
        case rel => exact ⟨2 + 1, X ++ [(⟨#[76, 73, 68]⟩, z)], rfl, by omega, by have := HX.out; rw [List.length_append, List.length_singleton]; omega, A7, p7, by simp, by simpa using V7.out, pkOk_app XO.out ⟨show (⟨#[76, 73, 68]⟩ : ByteArray).size ≤ 8 from by decide, hz⟩, by have h := C7.out; repeat' (first | (with_reducible assumption) | refine Cur.alloc ?_ _ | refine Cur.drewN ?_ _ | refine Cur.drew ?_ | refine Cur.setCell ?_ ?_ ?_ _ | omega | (simp; done) | (simp; omega)), by have h := G7.out; repeat' (first | (with_reducible assumption) | (with_reducible exact World.grownBy.refl _ _) | refine grown_alloc ?_ _ | refine grown_drewN ?_ _ | refine grown_drew ?_ | omega | (simp; done) | (simp; omega))⟩
        case measure => simp [intOf]
    · go_wp2_with fail
      go_ret
      exact ⟨Ao, co, X, rfl, O.out, XO.out, HX.out, C.out, G.out⟩

def DrawH (w : World) (e : Ending) (w' : World) : Prop := ∃ (A : Option Addr) (c : Nat) (L : List Nd) (A2 : Option Addr) (c2 : Nat) (X : List Pk), e = .returned (.tuple #[.slice A L.length c, .slice A2 X.length c2]) ∧ CondNodeF w' A L.length c (ndK L) (ndO L) (ndV L) ∧ L.length ≤ 15 ∧ PickF w' A2 X.length c2 (pkO X) (pkV X) ∧ PkOk X ∧ X.length ≤ 3 ∧ Below w.heap.size w w'
set_option maxHeartbeats 1000000 in
theorem DrawHolds_any (w : World) (A : Option Addr) (len cap : Nat) (hb : Bytes w A len) :
    Calls Try.prog 37 #[.slice A len cap] w (DrawH w) := by
  go_enter Try.func37, Try.ntmps37
  go_wp2_with fail
  refine (l1New_any _ _ _ _ hb).mono ?_
  rintro e w1 ⟨g, rfl, c1, b1⟩
  have hg0 := c1.base
  have C1 := Lib.hid c1
  have B1 := Lib.hid b1
  clear c1 b1
  go_wp2_with fail
  refine (l6Any_any _ g _ C1.out).mono ?_
  rintro e w2 ⟨A1, c1', L, rfl, o2, nL, n1, n2, c2, g2⟩
  have C2 := Lib.hid c2
  have B2 := Lib.hid (B1.out.trans (grown_below g2 hg0 B1.out.size))
  have NL := Lib.hid nL
  have O2 := Lib.hid o2
  have NG := Lib.hid (show (Value.slice A1 L.length c1').ownBlock ≠ some g from fun e => by have := (o2.lt e).1; have := C1.out.lt; omega)
  clear c2 g2 nL o2
  go_wp2_with fail
  refine (l6Choice_any _ g _ C2.out).mono ?_
  rintro e w3 ⟨A2, c2', X, rfl, o3, xo, x3, c3, g3⟩
  have B3 := Lib.hid (B2.out.trans (grown_below g3 hg0 B2.out.size))
  have O3 := Lib.hid (O2.out.grown g3 (.inr NG.out))
  have X3 := Lib.hid o3
  have XO := Lib.hid xo
  clear c3 g3 o3 xo
  go_wp2_with fail
  go_ret2
  exact ⟨A1, c1', L, A2, c2', X, rfl, nd_condF O3.out NL.out, n2, pk_pickF X3.out XO.out, XO.out, x3, B3.out⟩
end Go.Proofs.Ytkkhaamklbolmaa
