/-
  Contracts of the functions that draw conditions. (Printed by gen/drawcond.py.)
-/
import Derived.Test.YtkkhaamklbolmaaNegNum
import Derived.Test.YtkkhaamklbolmaaOnce2
import Derived.Test.YtkkhaamklbolmaaPick
namespace Go.Proofs.Ytkkhaamklbolmaa
open Go.RowKit Go.Sort
set_option linter.unusedVariables false
set_option linter.unusedSimpArgs false

def NdP (x : Nd) : Prop := (-1 ≤ x.1 ∧ x.1 ≤ 5) ∧ x.2.1.size ≤ 8 ∧ x.2.2.size ≤ 8
def LeafV (v : Value) : Prop := ∃ x : Nd, v = .agg #[.int .i64 x.1, .string x.2.1, .string x.2.2] ∧ NdP x
def NdOk (L : List Nd) : Prop := ∀ x, x ∈ L → NdP x
theorem ndOk_at {L : List Nd} (h : NdOk L) {i : Nat} (hi : i < L.length) : NdP (ndAt L i) := by
  have e : ndAt L i = L[i] := by simp [ndAt, List.getD_eq_getElem?_getD, hi]
  rw [e]; exact h _ (List.getElem_mem hi)
theorem ndP_op (k : Int) (h : -1 ≤ k ∧ k ≤ 5) : NdP (k, mt, mt) := ⟨h, by show mt.size ≤ 8; decide, by show mt.size ≤ 8; decide⟩
def leafZ (i : Nat) : Value := if i = 0 then .int .i64 0 else .string ByteArray.empty
def mx : Nat → Nat
  | 0 => 1
  | d + 1 => 2 * mx d + 1
theorem mx_le {d : Nat} (h : d ≤ 3) : mx d ≤ 15 := by
  rcases (by omega : d = 0 ∨ d = 1 ∨ d = 2 ∨ d = 3) with rfl | rfl | rfl | rfl <;> decide
theorem mx_pos (d : Nat) : 1 ≤ mx d := by cases d <;> simp [mx]
/-- a list of nodes was drawn from the cursor at block g -/
def DrawnL (B g : Nat) (w : World) (m : Nat) (e : Ending) (w' : World) : Prop := ∃ (A : Option Addr) (c : Nat) (L : List Nd), e = .returned (.slice A L.length c) ∧ OwnV w.heap.size w' 54 3 (.slice A L.length c) L.length (ndC L) ∧ NdOk L ∧ 1 ≤ L.length ∧ L.length ≤ m ∧ Cur B w' g ∧ w.grownBy w' (some g)
theorem nd_condF {w : World} {A : Option Addr} {c B : Nat} {L : List Nd} (h : OwnV B w 54 3 (.slice A L.length c) L.length (ndC L)) (k : NdOk L) : CondNodeF w A L.length c (ndK L) (ndO L) (ndV L) := by
  obtain ⟨A2, c2, e, hS, _⟩ := h.slice
  injection e with e1 e2 e3
  subst e1; subst e3
  exact ⟨hS, fun i hi => by have := (ndOk_at k hi).1; show _ ≤ (ndAt L i).1 ∧ (ndAt L i).1 ≤ _; omega, fun i hi => by have := (ndOk_at k hi).2.1; show (ndAt L i).2.1.size ≤ _; omega, fun i hi => by have := (ndOk_at k hi).2.2; show (ndAt L i).2.2.size ≤ _; omega⟩
theorem ndC_set (L : List Nd) (i : Nat) (hi : i < L.length) (u : Int) {j q : Nat} (hj : j < L.length) (hq : q < 3) : (if j = i ∧ q = 0 then Value.int .i64 u else ndC L j q) = ndC (L.set i (u, (ndAt L i).2.1, (ndAt L i).2.2)) j q := by
  have e : ndAt (L.set i (u, (ndAt L i).2.1, (ndAt L i).2.2)) j = if j = i then (u, (ndAt L i).2.1, (ndAt L i).2.2) else ndAt L j := by
    by_cases h : j = i
    · subst h; rw [if_pos rfl]; simp [ndAt, List.getD_eq_getElem?_getD, hi]
    · rw [if_neg h]; simp [ndAt, List.getD_eq_getElem?_getD, List.getElem?_set_ne (fun e => h e.symm)]
  have e1 : ndC (L.set i (u, (ndAt L i).2.1, (ndAt L i).2.2)) j q = if q = 0 then .int .i64 (ndAt (L.set i (u, (ndAt L i).2.1, (ndAt L i).2.2)) j).1 else if q = 1 then .string (ndAt (L.set i (u, (ndAt L i).2.1, (ndAt L i).2.2)) j).2.1 else .string (ndAt (L.set i (u, (ndAt L i).2.1, (ndAt L i).2.2)) j).2.2 := rfl
  have e2 : ndC L j q = if q = 0 then .int .i64 (ndAt L j).1 else if q = 1 then .string (ndAt L j).2.1 else .string (ndAt L j).2.2 := rfl
  rw [e1, e2, e]
  by_cases h : j = i
  · subst h
    simp only [if_true, true_and]
    split <;> rfl
  · simp [h]
theorem ndOk_set {L : List Nd} (h : NdOk L) {i : Nat} (hi : i < L.length) {u : Int} (hu : -1 ≤ u ∧ u ≤ 5) : NdOk (L.set i (u, (ndAt L i).2.1, (ndAt L i).2.2)) := by
  intro x hx
  rcases List.mem_or_eq_of_mem_set hx with k | k
  · exact h x k
  · rw [k]; have := ndOk_at h hi; exact ⟨hu, this.2.1, this.2.2⟩

set_option maxHeartbeats 1000000 in
theorem l6Leaf_any (B g : Nat) (w : World) (c : Cur B w g) : Calls Try.prog 98 #[.pointer (some ⟨g, 0, none⟩)] w (Drawn B g w LeafV) := by
  have hlt := c.lt
  have hB := c.base
  go_enter Try.func98, Try.ntmps98
  go_wp2_with fail
  refine (l1Once_any B g _ 9 (c.alloc _) (by omega) (by omega)).mono ?_
  rintro e w1 ⟨v, rfl, ⟨b, rfl⟩, c1, hg1⟩
  have R1 := Lib.hid ((row_lit w #[.int .i64 0, .string ByteArray.empty, .string ByteArray.empty] 54 3 leafZ (by simp) (fun i hi => by unfold leafZ; rcases (by omega : i = 0 ∨ i = 1 ∨ i = 2) with rfl | rfl | rfl <;> rfl)).grown hg1 (by omega))
  have G1 := Lib.hid (grown_trans (grown_alloc (World.grownBy.refl w (some g)) (.cells #[.int .i64 0, .string ByteArray.empty, .string ByteArray.empty] 54)) hg1)
  have C1 := Lib.hid c1
  have l1 : w.heap.size + 1 ≤ w1.heap.size := by have := hg1.size; simpa using this
  clear hg1 c1
  cases b
  case true =>
    have k0 : w1.cell? ⟨w.heap.size, 0, none⟩ = some (.int .i64 0) := R1.out.cell (i := 0) (by omega)
    have k1 : w1.cell? ⟨w.heap.size, 1, none⟩ = some (.string ByteArray.empty) := R1.out.cell (i := 1) (by omega)
    have k2 : w1.cell? ⟨w.heap.size, 2, none⟩ = some (.string ByteArray.empty) := R1.out.cell (i := 2) (by omega)
    have z0 := R1.out.frozen 0
    have z1 := R1.out.frozen 1
    have z2 := R1.out.frozen 2
    have ll : w.heap.size < w1.heap.size := R1.out.lt
    go_wp2_with fail
    refine bodyPost_ret (by simp [results, Try.results98, go_sem, k0, k1, k2, z0, z1, z2, ll]; try rfl) rfl ?_
    exact ⟨_, rfl, ⟨(0, mt, mt), rfl, ndP_op 0 ⟨by omega, by omega⟩⟩, by have h := C1.out; repeat' (first | (with_reducible assumption) | refine Cur.alloc ?_ _ | refine Cur.drewN ?_ _ | refine Cur.drew ?_ | refine Cur.setCell ?_ ?_ ?_ _ | omega | (simp; done) | (simp; omega)), by have h := G1.out; repeat' (first | (with_reducible assumption) | (with_reducible exact World.grownBy.refl _ _) | refine grown_alloc ?_ _ | refine grown_drewN ?_ _ | refine grown_drew ?_ | refine grown_setCell ?_ ?_ _ | exact .inr (by first | omega | (simp; done) | (simp; omega)) | omega | (simp; done) | (simp; omega))⟩
  case false =>
    go_wp2_with fail
    refine (l1Pick_any B g w1.heap.size 3 3 _ (Short 8) ?c1 ?c2 ?c3 ?c4 ?c5 ?c6).mono ?_
    case c1 => exact C1.out.alloc _
    case c2 => omega
    case c3 => omega
    case c4 => omega
    case c5 => simp
    case c6 =>
      refine pick_str (P := Short 8) rfl ?_
      intro v hv
      simp at hv
      rcases hv with rfl | rfl | rfl <;> exact ⟨_, rfl, _, rfl, by decide⟩
    rintro e w2 ⟨v, rfl, ⟨z2, rfl, hz2⟩, c2, hg2⟩
    have R2 := Lib.hid ((R1.out.alloc (.cells #[.string ⟨#[67, 79, 76, 79, 82]⟩, .string ⟨#[83, 73, 90, 69]⟩, .string ⟨#[76, 73, 68]⟩] 9)).grown hg2 (by omega))
    have G2 := Lib.hid (grown_trans (grown_alloc G1.out (.cells #[.string ⟨#[67, 79, 76, 79, 82]⟩, .string ⟨#[83, 73, 90, 69]⟩, .string ⟨#[76, 73, 68]⟩] 9)) hg2)
    have C2 := Lib.hid c2
    have l2 : w1.heap.size + 1 ≤ w2.heap.size := by have := hg2.size; simpa using this
    clear c2 hg2 R1 G1 C1
    go_wp2_with fail
    refine (l1Pick_any B g w2.heap.size 3 3 _ (Short 8) ?c1 ?c2 ?c3 ?c4 ?c5 ?c6).mono ?_
    case c1 => exact C2.out.alloc _
    case c2 => omega
    case c3 => omega
    case c4 => omega
    case c5 => simp
    case c6 =>
      refine pick_str (P := Short 8) rfl ?_
      intro v hv
      simp at hv
      rcases hv with rfl | rfl | rfl <;> exact ⟨_, rfl, _, rfl, by decide⟩
    rintro e w3 ⟨v, rfl, ⟨z3, rfl, hz3⟩, c3, hg3⟩
    have R3 := Lib.hid ((R2.out.alloc (.cells #[.string ⟨#[88]⟩, .string ⟨#[89]⟩, .string ⟨#[90]⟩] 9)).grown hg3 (by omega))
    have G3 := Lib.hid (grown_trans (grown_alloc G2.out (.cells #[.string ⟨#[88]⟩, .string ⟨#[89]⟩, .string ⟨#[90]⟩] 9)) hg3)
    have C3 := Lib.hid c3
    clear c3 hg3 R2 G2 C2
    have k0 : w3.cell? ⟨w.heap.size, 0, none⟩ = some (.int .i64 0) := R3.out.cell (i := 0) (by omega)
    have k1 : w3.cell? ⟨w.heap.size, 1, none⟩ = some (.string ByteArray.empty) := R3.out.cell (i := 1) (by omega)
    have k2 : w3.cell? ⟨w.heap.size, 2, none⟩ = some (.string ByteArray.empty) := R3.out.cell (i := 2) (by omega)
    have z0 := R3.out.frozen 0
    have z1 := R3.out.frozen 1
    have z2' := R3.out.frozen 2
    have ll : w.heap.size < w3.heap.size := R3.out.lt
    go_wp2_with fail
    refine bodyPost_ret (by simp [results, Try.results98, go_sem, k0, k1, k2, z0, z1, z2', ll]; try rfl) rfl ?_
    exact ⟨_, rfl, ⟨(1, z2, z3), rfl, ⟨by simp, hz2, hz3⟩⟩, by have h := C3.out; repeat' (first | (with_reducible assumption) | refine Cur.alloc ?_ _ | refine Cur.drewN ?_ _ | refine Cur.drew ?_ | refine Cur.setCell ?_ ?_ ?_ _ | omega | (simp; done) | (simp; omega)), by have h := G3.out; repeat' (first | (with_reducible assumption) | (with_reducible exact World.grownBy.refl _ _) | refine grown_alloc ?_ _ | refine grown_drewN ?_ _ | refine grown_drew ?_ | refine grown_setCell ?_ ?_ _ | exact .inr (by first | omega | (simp; done) | (simp; omega)) | omega | (simp; done) | (simp; omega))⟩
set_option maxRecDepth 20000 in
set_option maxHeartbeats 4000000 in
theorem l6Draw_any (d : Nat) : ∀ (k : Int), k = (d : Int) → d ≤ 3 → ∀ (B g : Nat) (w : World), Cur B w g →
    Calls Try.prog 74 #[.pointer (some ⟨g, 0, none⟩), .int .i64 k] w (DrawnL B g w (mx d)) := by
  obtain ⟨i0, hi0, hz0, hs0, hb0⟩ := info_parts condNode_info
  induction d with
  | zero =>
    intro k hk hd B g w c
    obtain rfl : k = 0 := by omega
    clear hk hd
    have hlt := c.lt
    have hB := c.base
    go_enter Try.func74, Try.ntmps74
    go_wp2_with fail
    refine (l6Leaf_any B g _ c).mono ?_
    rintro e w2 ⟨v, rfl, ⟨⟨a0, a1, a2⟩, rfl, hp⟩, c2, hg2⟩
    have C2 := Lib.hid c2
    have G2 := Lib.hid (hg2)
    have l2 := G2.out.size
    have O2 := Lib.hid (OwnV.lit w2 (B := w.heap.size) (by omega) 54 3 1 #[.int .i64 a0, .string a1, .string a2] (ndC [(a0, a1, a2)]) (by rw [flat_one []]) (by omega))
    clear c2 hg2
    go_wp2_with fail
    go_ret
    exact ⟨_, _, [(a0, a1, a2)], rfl, O2.out, fun x hx => by simp at hx; rw [hx]; exact hp, by simp, by simp [mx]; try omega, C2.out.alloc _, grown_alloc G2.out _⟩
  | succ d ih =>
    intro k hk hd B g w c
    have hk1 : 1 ≤ k := by omega
    have hk2 : k ≤ 3 := by omega
    have hk3 : ¬ k ≤ 0 := by omega
    have m15 := mx_le (show d ≤ 3 by omega)
    have u1 : IntKind.i64.wrap (k - 1) = k - 1 := IntWalk.i64_in _ ⟨by omega, by omega⟩
    have hlt := c.lt
    have hB := c.base
    have IH := Lib.hid (fun (W : World) (cw : Cur B W g) => ih (k - 1) (by omega) (by omega) B g W cw)
    clear ih hk hd
    go_enter Try.func74, Try.ntmps74
    go_wp2_with fail
    refine (l1Once_any B g _ 3 c (by omega) (by omega)).mono ?_
    rintro e w1 ⟨v, rfl, ⟨b, rfl⟩, c1, hg1⟩
    have C1 := Lib.hid c1
    have G1 := Lib.hid hg1
    have l1 := hg1.size
    clear c1 hg1
    cases b
    case true =>
      go_wp2_with fail
      refine (l6Leaf_any B g _ C1.out).mono ?_
      rintro e w2 ⟨v, rfl, ⟨⟨a0, a1, a2⟩, rfl, hp⟩, c2, hg2⟩
      have C2 := Lib.hid c2
      have G2 := Lib.hid (grown_trans G1.out hg2)
      have l2 := G2.out.size
      have O2 := Lib.hid (OwnV.lit w2 (B := w.heap.size) (by omega) 54 3 1 #[.int .i64 a0, .string a1, .string a2] (ndC [(a0, a1, a2)]) (by rw [flat_one []]) (by omega))
      clear c2 hg2
      go_wp2_with fail
      go_ret
      exact ⟨_, _, [(a0, a1, a2)], rfl, O2.out, fun x hx => by simp at hx; rw [hx]; exact hp, by simp, by simp [mx]; try omega, C2.out.alloc _, grown_alloc G2.out _⟩
    go_wp2_with fail
    refine (IH.out _ C1.out).mono ?_
    rintro e w3 ⟨A1, c1', U, rfl, o3, nu, u1', u2', c3, hg3⟩
    obtain ⟨g1, cc1, hsl1⟩ := o3.formN (by omega)
    injection hsl1 with q1 q2 q3
    subst q1; subst q3
    have O3 := Lib.hid (o3.base (B' := w.heap.size) (by omega))
    have C3 := Lib.hid c3
    have G3 := Lib.hid (grown_trans G1.out hg3)
    have lt3 := o3.lt (k := g1) rfl
    have lw3 := hg3.size
    clear o3 c3 hg3 C1 G1
    go_wp2_with fail
    refine (l1Below_any B g _ 3 C3.out (by omega) (by omega)).mono ?_
    rintro e w4 ⟨v, rfl, ⟨x, rfl, x0, x1⟩, c4, hg4⟩
    have O4 := Lib.hid (O3.out.grown hg4 (.inr (by simp [Value.ownBlock]; omega)))
    have C4 := Lib.hid c4
    have G4 := Lib.hid (grown_trans G3.out hg4)
    have lw4 := hg4.size
    clear c4 hg4 O3 C3 G3
    have EL1 : ∀ y : Nd, (U ++ [y]).length = U.length + 1 := fun y => by simp
    rcases (by omega : x = 0 ∨ x = 1 ∨ x = 2) with rfl | rfl | rfl
    · go_wp2_with (at_builtin; refine appS w4 rfl _ _ 25 rfl (B := w.heap.size) (i := i0) (z := .agg #[.int .i64 0, .string ByteArray.empty, .string ByteArray.empty]) (s := 3) (bytes := 40) (F := ndC (U ++ [(2, mt, mt)])) (v := .slice (some ⟨g1, 0, none⟩) (U.length) c1') (n := U.length) (xs := #[.int .i64 2, .string mt, .string mt]) Try.underlying25 hi0 hz0 hs0 hb0 rfl (by decide) rfl (O4.out.congr (fun x y hx hy => ndC_app (U) [(2, mt, mt)] (by simpa using hx))) (by have := G4.out.size; omega) rfl (fun q hq => by rw [ndC_last]; rcases (by omega : q = 0 ∨ q = 1 ∨ q = 2) with rfl | rfl | rfl <;> rfl) (fun q hq => ndC_one _ _ _) (by omega) (by decide) ?_)
      intro v7 w7 hv7 hg7 hb7
      obtain ⟨g7, cc7, rfl⟩ := hv7.formN (by omega)
      have C7 := Lib.hid (C4.out.own hg7 (fun r hr => by simp [Value.ownBlock] at hr; omega))
      have G7 := Lib.hid (grown_own G4.out hg7 (fun r hr => by simp [Value.ownBlock] at hr; omega))
      have V7 := Lib.hid hv7
      clear hv7 hg7 hb7
      go_wp2_with fail
      go_ret
      exact ⟨some ⟨g7, 0, none⟩, cc7, U ++ [(2, mt, mt)], by rw [EL1 (2, mt, mt)]; rfl, by rw [EL1 (2, mt, mt)]; exact V7.out, fun x hx => by rw [List.mem_append] at hx; rcases hx with hx | hx; exact nu x hx; simp at hx; rw [hx]; exact ndP_op _ ⟨by omega, by omega⟩, by simp, by simp [mx]; omega, C7.out, G7.out⟩
    · -- x = 1
      go_wp2_with fail
      refine (IH.out _ C4.out).mono ?_
      rintro e w5 ⟨A2, c2', V, rfl, o5, nv, v1, v2, c5, hg5⟩
      obtain ⟨g2, cc2, hsl2⟩ := o5.formN (by omega)
      injection hsl2 with q1 q2 q3
      subst q1; subst q3
      have EL : ∀ y : Nd, (U ++ V ++ [y]).length = U.length + V.length + 1 := fun y => by simp [Nat.add_assoc]
      have O5 := Lib.hid o5
      have F5 := Lib.hid ((O4.out.grown hg5 (.inr (by simp [Value.ownBlock]; omega))).congr (F' := ndC (U ++ V)) (fun x y hx hy => ndC_app U V hx))
      have C5 := Lib.hid c5
      have G5 := Lib.hid (grown_trans G4.out hg5)
      have lt5 := o5.lt (k := g2) rfl
      have lw5 := hg5.size
      clear o5 c5 hg5 O4 C4 G4
      have CC := Lib.hid (fun (x y : Nat) (hx : x < V.length) (hy : y < 3) => (O5.out.cell (g := g2) rfl hx hy).trans (congrArg some (ndC_behind U V (j := x) (q := y)).symm))
      go_wp2_with (at_builtin; refine appM w5 rfl _ _ 25 rfl (B := w.heap.size) (i := i0) (z := .agg #[.int .i64 0, .string ByteArray.empty, .string ByteArray.empty]) (s := 3) (bytes := 40) (F := ndC (U ++ V)) (v := .slice (some ⟨g1, 0, none⟩) U.length c1') (n := U.length) Try.underlying25 hi0 hz0 hs0 hb0 rfl (by decide) rfl F5.out (by have := G5.out.size; omega) ⟨g2, 0, none⟩ V.length c2' rfl (fun x y hx hy => by rw [WideShapes.add_plain, Nat.zero_add]; exact CC.out x y hx hy) (fun x y hx hy => ndC_one _ _ _) (by omega) (by decide) ?_)
      intro v6 w6 hv6 hg6 hb6
      obtain ⟨g6, cc6, rfl⟩ := hv6.formN (by omega)
      have C6 := Lib.hid (C5.out.own hg6 (fun r hr => by simp [Value.ownBlock] at hr; omega))
      have G6 := Lib.hid (grown_own G5.out hg6 (fun r hr => by simp [Value.ownBlock] at hr; omega))
      have V6 := Lib.hid hv6
      have lt6 := hv6.lt (k := g6) rfl
      clear hv6 hg6 hb6 CC
      go_wp2_with (at_builtin; refine appS w6 rfl _ _ 25 rfl (B := w.heap.size) (i := i0) (z := .agg #[.int .i64 0, .string ByteArray.empty, .string ByteArray.empty]) (s := 3) (bytes := 40) (F := ndC (U ++ V ++ [(3, mt, mt)])) (v := .slice (some ⟨g6, 0, none⟩) (U.length + V.length) cc6) (n := U.length + V.length) (xs := #[.int .i64 3, .string mt, .string mt]) Try.underlying25 hi0 hz0 hs0 hb0 rfl (by decide) rfl (V6.out.congr (fun x y hx hy => ndC_app (U ++ V) [(3, mt, mt)] (by simpa using hx))) (by have := G6.out.size; omega) rfl (fun q hq => by rw [← List.length_append, ndC_last]; rcases (by omega : q = 0 ∨ q = 1 ∨ q = 2) with rfl | rfl | rfl <;> rfl) (fun q hq => ndC_one _ _ _) (by omega) (by decide) ?_)
      intro v7 w7 hv7 hg7 hb7
      obtain ⟨g7, cc7, rfl⟩ := hv7.formN (by omega)
      have C7 := Lib.hid (C6.out.own hg7 (fun r hr => by simp [Value.ownBlock] at hr; omega))
      have G7 := Lib.hid (grown_own G6.out hg7 (fun r hr => by simp [Value.ownBlock] at hr; omega))
      have V7 := Lib.hid hv7
      clear hv7 hg7 hb7
      go_wp2_with fail
      go_ret
      exact ⟨some ⟨g7, 0, none⟩, cc7, U ++ V ++ [(3, mt, mt)], by rw [EL (3, mt, mt)]; rfl, by rw [EL (3, mt, mt)]; first | exact V7.out | (rw [List.append_assoc]; exact V7.out), fun x hx => by rw [List.mem_append, List.mem_append] at hx; rcases hx with (hx | hx) | hx; exact nu x hx; exact nv x hx; simp at hx; rw [hx]; exact ndP_op _ ⟨by omega, by omega⟩, by rw [EL]; omega, by rw [EL]; simp only [mx]; omega, C7.out, G7.out⟩
    · -- x = 2
      go_wp2_with fail
      refine (IH.out _ C4.out).mono ?_
      rintro e w5 ⟨A2, c2', V, rfl, o5, nv, v1, v2, c5, hg5⟩
      obtain ⟨g2, cc2, hsl2⟩ := o5.formN (by omega)
      injection hsl2 with q1 q2 q3
      subst q1; subst q3
      have EL : ∀ y : Nd, (U ++ V ++ [y]).length = U.length + V.length + 1 := fun y => by simp [Nat.add_assoc]
      have O5 := Lib.hid o5
      have F5 := Lib.hid ((O4.out.grown hg5 (.inr (by simp [Value.ownBlock]; omega))).congr (F' := ndC (U ++ V)) (fun x y hx hy => ndC_app U V hx))
      have C5 := Lib.hid c5
      have G5 := Lib.hid (grown_trans G4.out hg5)
      have lt5 := o5.lt (k := g2) rfl
      have lw5 := hg5.size
      clear o5 c5 hg5 O4 C4 G4
      have CC := Lib.hid (fun (x y : Nat) (hx : x < V.length) (hy : y < 3) => (O5.out.cell (g := g2) rfl hx hy).trans (congrArg some (ndC_behind U V (j := x) (q := y)).symm))
      go_wp2_with (at_builtin; refine appM w5 rfl _ _ 25 rfl (B := w.heap.size) (i := i0) (z := .agg #[.int .i64 0, .string ByteArray.empty, .string ByteArray.empty]) (s := 3) (bytes := 40) (F := ndC (U ++ V)) (v := .slice (some ⟨g1, 0, none⟩) U.length c1') (n := U.length) Try.underlying25 hi0 hz0 hs0 hb0 rfl (by decide) rfl F5.out (by have := G5.out.size; omega) ⟨g2, 0, none⟩ V.length c2' rfl (fun x y hx hy => by rw [WideShapes.add_plain, Nat.zero_add]; exact CC.out x y hx hy) (fun x y hx hy => ndC_one _ _ _) (by omega) (by decide) ?_)
      intro v6 w6 hv6 hg6 hb6
      obtain ⟨g6, cc6, rfl⟩ := hv6.formN (by omega)
      have C6 := Lib.hid (C5.out.own hg6 (fun r hr => by simp [Value.ownBlock] at hr; omega))
      have G6 := Lib.hid (grown_own G5.out hg6 (fun r hr => by simp [Value.ownBlock] at hr; omega))
      have V6 := Lib.hid hv6
      have lt6 := hv6.lt (k := g6) rfl
      clear hv6 hg6 hb6 CC
      go_wp2_with (at_builtin; refine appS w6 rfl _ _ 25 rfl (B := w.heap.size) (i := i0) (z := .agg #[.int .i64 0, .string ByteArray.empty, .string ByteArray.empty]) (s := 3) (bytes := 40) (F := ndC (U ++ V ++ [(4, mt, mt)])) (v := .slice (some ⟨g6, 0, none⟩) (U.length + V.length) cc6) (n := U.length + V.length) (xs := #[.int .i64 4, .string mt, .string mt]) Try.underlying25 hi0 hz0 hs0 hb0 rfl (by decide) rfl (V6.out.congr (fun x y hx hy => ndC_app (U ++ V) [(4, mt, mt)] (by simpa using hx))) (by have := G6.out.size; omega) rfl (fun q hq => by rw [← List.length_append, ndC_last]; rcases (by omega : q = 0 ∨ q = 1 ∨ q = 2) with rfl | rfl | rfl <;> rfl) (fun q hq => ndC_one _ _ _) (by omega) (by decide) ?_)
      intro v7 w7 hv7 hg7 hb7
      obtain ⟨g7, cc7, rfl⟩ := hv7.formN (by omega)
      have C7 := Lib.hid (C6.out.own hg7 (fun r hr => by simp [Value.ownBlock] at hr; omega))
      have G7 := Lib.hid (grown_own G6.out hg7 (fun r hr => by simp [Value.ownBlock] at hr; omega))
      have V7 := Lib.hid hv7
      clear hv7 hg7 hb7
      go_wp2_with fail
      go_ret
      exact ⟨some ⟨g7, 0, none⟩, cc7, U ++ V ++ [(4, mt, mt)], by rw [EL (4, mt, mt)]; rfl, by rw [EL (4, mt, mt)]; first | exact V7.out | (rw [List.append_assoc]; exact V7.out), fun x hx => by rw [List.mem_append, List.mem_append] at hx; rcases hx with (hx | hx) | hx; exact nu x hx; exact nv x hx; simp at hx; rw [hx]; exact ndP_op _ ⟨by omega, by omega⟩, by rw [EL]; omega, by rw [EL]; simp only [mx]; omega, C7.out, G7.out⟩
set_option maxRecDepth 20000 in
set_option maxHeartbeats 4000000 in
theorem l6Any_any (B g : Nat) (w : World) (c : Cur B w g) : Calls Try.prog 72 #[.pointer (some ⟨g, 0, none⟩)] w (DrawnL B g w 15) := by
  have hlt := c.lt
  have hB := c.base
  go_enter Try.func72, Try.ntmps72
  go_wp2_with fail
  refine (l6Draw_any 3 3 rfl (by omega) B g _ c).mono ?_
  rintro e w1 ⟨A1, c1', L, rfl, o1, nL, n1, n2, c1, hg1⟩
  have n2' : L.length ≤ 15 := n2
  clear n2
  obtain ⟨gl, cl, hsl⟩ := o1.formN (by omega)
  injection hsl with q1 q2 q3
  subst q1; subst q3
  have lt1 := o1.lt (k := gl) rfl
  have O1 := Lib.hid o1
  have C1 := Lib.hid c1
  have G1 := Lib.hid hg1
  have NL := Lib.hid nL
  have l1 := hg1.size
  clear o1 c1 hg1 nL
  go_wp2_with fail
  refine (l1Once_any B g _ 10 C1.out (by omega) (by omega)).mono ?_
  rintro e w2 ⟨v, rfl, ⟨b, rfl⟩, c2, hg2⟩
  have O2 := Lib.hid (O1.out.grown hg2 (.inr (by simp [Value.ownBlock]; omega)))
  have C2 := Lib.hid c2
  have G2 := Lib.hid (grown_trans G1.out hg2)
  have l2 := hg2.size
  clear c2 hg2 O1 C1 G1
  cases b
  · go_wp2_with fail
    go_ret
    exact ⟨_, _, L, rfl, O2.out, NL.out, n1, n2', C2.out, G2.out⟩
  · go_wp2_with fail
    refine (l1Below_any B g _ _ C2.out (by omega) (by omega)).mono ?_
    rintro e w3 ⟨v, rfl, ⟨x, rfl, x0, x1⟩, c3, hg3⟩
    have O3 := Lib.hid (O2.out.grown hg3 (.inr (by simp [Value.ownBlock]; omega)))
    have C3 := Lib.hid c3
    have G3 := Lib.hid (grown_trans G2.out hg3)
    have l3 := hg3.size
    clear c3 hg3 O2 C2 G2
    obtain ⟨j, rfl⟩ : ∃ j : Nat, x = (j : Int) := ⟨x.toNat, by omega⟩
    have hj : j < L.length := by omega
    have hj' : (j : Int) < (L.length : Int) := by omega
    go_wp2_with fail
    refine (l1Below_any B g _ 7 C3.out (by omega) (by omega)).mono ?_
    rintro e w4 ⟨v, rfl, ⟨y, rfl, y0, y1⟩, c4, hg4⟩
    have O4 := Lib.hid (O3.out.grown hg4 (.inr (by simp [Value.ownBlock]; omega)))
    have C4 := Lib.hid c4
    have G4 := Lib.hid (grown_trans G3.out hg4)
    have l4 := hg4.size
    clear c4 hg4 O3 C3 G3
    have f0 := O4.out.cell (g := gl) rfl (j := j) (q := 0) hj (by omega)
    have h0 := O4.out.frozen (g := gl) rfl (j * 3)
    simp only [Nat.add_zero] at f0
    have u1 : IntKind.i64.wrap (y - 1) = y - 1 := IntWalk.i64_in _ ⟨by omega, by omega⟩
    have OS := Lib.hid ((O4.out.set (g := gl) rfl (j := j) (q := 0) hj (by omega) (.int .i64 (y - 1))).congr (fun a b ha hb => ndC_set L j hj (y - 1) ha hb))
    have NS := Lib.hid (ndOk_set NL.out hj (u := y - 1) ⟨by omega, by omega⟩)
    have el : (L.set j (y - 1, (ndAt L j).2.1, (ndAt L j).2.2)).length = L.length := by simp
    simp only [Nat.add_zero] at OS
    have CS := Lib.hid (C4.out.setCell (p := ⟨gl, j * 3, none⟩) (by show B ≤ gl; omega) (by show gl ≠ g; omega) (.int .i64 (y - 1)))
    have GS := Lib.hid (grown_setCell G4.out (p := ⟨gl, j * 3, none⟩) (.inr (by show w.heap.size ≤ gl; omega)) (.int .i64 (y - 1)))
    clear O4 C4 G4
    go_wp2_with fail
    go_ret
    exact ⟨_, _, L.set j (y - 1, (ndAt L j).2.1, (ndAt L j).2.2), by rw [el]; rfl, by rw [el]; exact OS.out, NS.out, by rw [el]; exact n1, by rw [el]; exact n2', CS.out, GS.out⟩
end Go.Proofs.Ytkkhaamklbolmaa
