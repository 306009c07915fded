/-
  Options and rules of a model: how they read; contracts of szOption, szOptionS, szCondNodeSS, szModel. (Printed by gen/model2.py.)
-/
import Derived.Test.YtkkhaamklbolmaaStrsTo
import Derived.Test.YtkkhaamklbolmaaCondNode
namespace Go.Proofs.Ytkkhaamklbolmaa
open Go.RowKit
set_option linter.unusedVariables false
set_option linter.unusedSimpArgs false

/-- options: names, and slices of values -/
structure OptD where
  nm : Nat → ByteArray
  n : Nat → Nat
  vs : Nat → Nat → ByteArray
/-- where the values lie -/
structure Loc where
  A : Nat → Option Addr
  c : Nat → Nat
def optC (D : OptD) (P : Loc) (j q : Nat) : Value := if q = 0 then .string (D.nm j) else .slice (P.A j) (D.n j) (P.c j)
structure OptsF (w : World) (A : Option Addr) (n cap : Nat) (D : OptD) (P : Loc) : Prop where
  sl : SliceF w A n cap 2 (optC D P)
  z : ∀ i, i < n → (D.nm i).size ≤ 9223372036854775807
  vals : ∀ i, i < n → StrsF w (P.A i) (D.n i) (P.c i) (D.vs i)
/-- rules: slices of conditions -/
structure RulD where
  n : Nat → Nat
  kd : Nat → Nat → Int
  op : Nat → Nat → ByteArray
  vl : Nat → Nat → ByteArray
def rulC (D : RulD) (P : Loc) (j q : Nat) : Value := .slice (P.A j) (D.n j) (P.c j)
structure RulsF (w : World) (A : Option Addr) (n cap : Nat) (D : RulD) (P : Loc) : Prop where
  sl : SliceF w A n cap 1 (rulC D P)
  conds : ∀ i, i < n → CondNodeF w (P.A i) (D.n i) (P.c i) (D.kd i) (D.op i) (D.vl i)
section
variable {w w' : World} {A : Option Addr} {n cap : Nat} {P : Loc}
theorem OptsF.call {D : OptD} (h : OptsF w A n cap D P) (hb : Below w.heap.size w w') : OptsF w' A n cap D P := ⟨h.sl.call hb, h.z, fun i hi => (h.vals i hi).call hb⟩
theorem OptsF.le {D : OptD} (h : OptsF w A n cap D P) : n ≤ 9223372036854775807 := by have := h.sl.max; have := h.sl.le; omega
theorem OptsF.cells {D : OptD} (h : OptsF w A n cap D P) {j : Nat} (hj : j < n) : ∃ b o, A = some ⟨b, o, none⟩ ∧ b < w.heap.size ∧ w.cell? ⟨b, o + j * 2, none⟩ = some (.string (D.nm j)) ∧ w.cell? ⟨b, o + j * 2 + 1, none⟩ = some (.slice (P.A j) (D.n j) (P.c j)) := by
  obtain ⟨b, o, e, hB, hc⟩ := h.sl.cell j hj
  exact ⟨b, o, e, hB, hc 0 (by omega), hc 1 (by omega)⟩
theorem RulsF.call {D : RulD} (h : RulsF w A n cap D P) (hb : Below w.heap.size w w') : RulsF w' A n cap D P := ⟨h.sl.call hb, fun i hi => (h.conds i hi).call hb⟩
theorem RulsF.le {D : RulD} (h : RulsF w A n cap D P) : n ≤ 9223372036854775807 := by have := h.sl.max; have := h.sl.le; omega
theorem RulsF.cell {D : RulD} (h : RulsF w A n cap D P) {j : Nat} (hj : j < n) : ∃ b o, A = some ⟨b, o, none⟩ ∧ b < w.heap.size ∧ w.cell? ⟨b, o + j, none⟩ = some (.slice (P.A j) (D.n j) (P.c j)) := by
  obtain ⟨b, o, e, hB, hc⟩ := h.sl.cell j hj
  have := hc 0 (by omega)
  simp only [Nat.mul_one, Nat.add_zero] at this
  exact ⟨b, o, e, hB, this⟩
end
/-- how much is left of k, if enough was there -/
def SzP (w : World) (k : Int) (ok : Prop) (e : Ending) (w' : World) : Prop := ∃ t : Int, e = .returned (.int .i64 t) ∧ -1 ≤ t ∧ t ≤ k ∧ (0 ≤ t → ok) ∧ Below w.heap.size w w'
theorem leftS_bd (f : Nat → ByteArray) (n : Nat) {k : Int} (hk : 0 ≤ k) : -1 ≤ leftS f n k ∧ leftS f n k ≤ k ∧ (0 ≤ leftS f n k → (n : Int) ≤ k) := by
  unfold leftS; split <;> omega
theorem condLeft_bd (op vl : Nat → ByteArray) (n : Nat) {k : Int} (hk : 0 ≤ k) : -1 ≤ condNodeLeft op vl n k ∧ condNodeLeft op vl n k ≤ k ∧ (0 ≤ condNodeLeft op vl n k → (n : Int) ≤ k) := by
  unfold condNodeLeft; split <;> omega

set_option maxHeartbeats 1000000 in
theorem szOption_any (w : World) (s : ByteArray) (A : Option Addr) (n c : Nat) (f : Nat → ByteArray) (k : Int) (hs : s.size ≤ 9223372036854775807) (h : StrsF w A n c f) (hk0 : 0 ≤ k) (hk : k ≤ 1048576) :
    Calls Try.prog 100 #[.agg #[.string s, .slice A n c], .int .i64 k] w (SzP w k (n ≤ 1048576)) := by
  have H := Lib.hid h
  clear h
  obtain ⟨z, hz⟩ : ∃ z : Int, z = k - (s.size : Int) := ⟨_, rfl⟩
  have hz' : k - (s.size : Int) = z := hz.symm
  have u1 : IntKind.i64.wrap z = z := IntWalk.i64_in _ ⟨by omega, by omega⟩
  by_cases h0 : z < 0
  · clear hz
    go_enter Try.func100, Try.ntmps100
    go_wp2_with fail
    go_ret
    exact ⟨-1, rfl, by omega, by omega, fun h => absurd h (by omega), (Below.refl _ _).alloc (Nat.le_refl _) _⟩
  · have z0 : 0 ≤ z := by omega
    have z1 : z ≤ k := by omega
    have hb := leftS_bd f n z0
    have SZ := Lib.hid (szStringS_any (w.alloc (.cells #[.string s, .slice A n c] 126)) A n c f z (H.out.call ((Below.refl _ _).alloc (Nat.le_refl _) _)) z0 (by omega))
    generalize leftS f n z = t at *
    obtain ⟨h1, h2, h3⟩ := hb
    have H3 := Lib.hid h3
    clear h3 hz
    by_cases ht : t < 0
    all_goals
      go_enter Try.func100, Try.ntmps100
      go_wp2_with fail
      refine SZ.out.mono ?_; rintro e w1 ⟨rfl, hw⟩; obtain rfl := hw.symm
      go_wp2_with fail
      go_ret
    · exact ⟨-1, rfl, by omega, by omega, fun h => absurd h (by omega), (Below.refl _ _).alloc (Nat.le_refl _) _⟩
    · exact ⟨t, rfl, by omega, by omega, fun h => by have := H3.out h; omega, (Below.refl _ _).alloc (Nat.le_refl _) _⟩

set_option maxHeartbeats 1000000 in
theorem szOptionS_any (w : World) (A : Option Addr) (n c : Nat) (D : OptD) (P : Loc) (k : Int) (h : OptsF w A n c D P) (hk0 : 0 ≤ k) (hk : k ≤ 1048576) :
    Calls Try.prog 78 #[.slice A n c, .int .i64 k] w (SzP w k (n ≤ 1048576 ∧ ∀ i, i < n → D.n i ≤ 1048576)) := by
  have hn := h.le
  have H := Lib.hid h
  clear h
  obtain ⟨z0, hz⟩ : ∃ z : Int, z = k - (n : Int) := ⟨_, rfl⟩
  have hz' : k - (n : Int) = z0 := hz.symm
  have u1 : IntKind.i64.wrap z0 = z0 := IntWalk.i64_in _ ⟨by omega, by omega⟩
  by_cases h0 : z0 < 0
  · clear hz
    go_enter Try.func78, Try.ntmps78
    go_wp2_with fail
    go_ret
    exact ⟨-1, rfl, by omega, by omega, fun h => absurd h (by omega), Below.refl _ _⟩
  have hz0 : 0 ≤ z0 := by omega
  have hz1 : z0 ≤ k := by omega
  have hnk : n ≤ 1048576 := by omega
  clear hz
  go_enter Try.func78, Try.ntmps78
  go_wp2_with fail
  go_loopw [1, 5] (fun l i wr => ∃ (j : Nat) (z : Int), i = .int .i64 (j : Int) ∧ j ≤ n ∧ l = .int .i64 z ∧ 0 ≤ z ∧ z ≤ k ∧ (∀ i, i < j → D.n i ≤ 1048576) ∧ Below w.heap.size w wr) (fun _ i _ => n - (intOf i).toNat)
  case atStart => exact ⟨0, z0, rfl, Nat.zero_le _, rfl, hz0, hz1, fun i hi => absurd hi (by omega), Below.refl _ _⟩
  case round =>
    obtain ⟨j, z, rfl, hj, rfl, hz2, hz3, hall, hbe⟩ := hrel
    have HA := Lib.hid hall
    have BE := Lib.hid hbe
    clear hall hbe h0 hz0 hz1 hz' u1
    by_cases hlt : j < n
    · have hlt' : (j : Int) < (n : Int) := by omega
      have HW := Lib.hid (H.out.call BE.out)
      obtain ⟨b, o, rfl, hB, k0, k1⟩ := HW.out.cells hlt
      have SZ := Lib.hid (szOption_any wr (D.nm j) (P.A j) (D.n j) (P.c j) (D.vs j) z (HW.out.z j hlt) (HW.out.vals j hlt) hz2 (by omega))
      go_wp2_with fail
      refine SZ.out.mono ?_; rintro e w2 ⟨t, rfl, t1, t2, t3, b2⟩
      have T3 := Lib.hid t3
      have B2 := Lib.hid (BE.out.trans (b2.mono BE.out.size))
      clear t3 b2 k0 k1 SZ
      by_cases ht : t < 0
      all_goals
        go_wp2_with fail
      · go_ret
        exact ⟨-1, rfl, by omega, by omega, fun h => absurd h (by omega), B2.out⟩
      · go_roundw
        case rel => exact ⟨j + 1, t, by go_num, by omega, rfl, by omega, by omega, fun i hi => by
          by_cases e : i = j
          · subst e; exact T3.out (by omega)
          · exact HA.out i (by omega), B2.out⟩
        case measure => simp [intOf]; omega
    · obtain rfl : j = n := by omega
      have hlt' : ¬ (j : Int) < (j : Int) := by omega
      go_wp2_with fail
      go_ret
      exact ⟨z, rfl, by omega, hz3, fun _ => by first | exact HA.out | exact ⟨hnk, HA.out⟩, BE.out⟩
set_option maxHeartbeats 1000000 in
theorem szCondNodeSS_any (w : World) (A : Option Addr) (n c : Nat) (D : RulD) (P : Loc) (k : Int) (h : RulsF w A n c D P) (hk0 : 0 ≤ k) (hk : k ≤ 1048576) :
    Calls Try.prog 79 #[.slice A n c, .int .i64 k] w (SzP w k (n ≤ 1048576 ∧ ∀ i, i < n → D.n i ≤ 1048576)) := by
  have hn := h.le
  have H := Lib.hid h
  clear h
  obtain ⟨z0, hz⟩ : ∃ z : Int, z = k - (n : Int) := ⟨_, rfl⟩
  have hz' : k - (n : Int) = z0 := hz.symm
  have u1 : IntKind.i64.wrap z0 = z0 := IntWalk.i64_in _ ⟨by omega, by omega⟩
  by_cases h0 : z0 < 0
  · clear hz
    go_enter Try.func79, Try.ntmps79
    go_wp2_with fail
    go_ret
    exact ⟨-1, rfl, by omega, by omega, fun h => absurd h (by omega), Below.refl _ _⟩
  have hz0 : 0 ≤ z0 := by omega
  have hz1 : z0 ≤ k := by omega
  have hnk : n ≤ 1048576 := by omega
  clear hz
  go_enter Try.func79, Try.ntmps79
  go_wp2_with fail
  go_loopw [1, 5] (fun l i wr => ∃ (j : Nat) (z : Int), i = .int .i64 (j : Int) ∧ j ≤ n ∧ l = .int .i64 z ∧ 0 ≤ z ∧ z ≤ k ∧ (∀ i, i < j → D.n i ≤ 1048576) ∧ Below w.heap.size w wr) (fun _ i _ => n - (intOf i).toNat)
  case atStart => exact ⟨0, z0, rfl, Nat.zero_le _, rfl, hz0, hz1, fun i hi => absurd hi (by omega), Below.refl _ _⟩
  case round =>
    obtain ⟨j, z, rfl, hj, rfl, hz2, hz3, hall, hbe⟩ := hrel
    have HA := Lib.hid hall
    have BE := Lib.hid hbe
    clear hall hbe h0 hz0 hz1 hz' u1
    by_cases hlt : j < n
    · have hlt' : (j : Int) < (n : Int) := by omega
      have HW := Lib.hid (H.out.call BE.out)
      obtain ⟨b, o, rfl, hB, k0⟩ := HW.out.cell hlt
      have SZ := Lib.hid (szCondNodeS_any wr (P.A j) (D.n j) (P.c j) (D.kd j) (D.op j) (D.vl j) z (HW.out.conds j hlt) hz2 (by omega))
      have hbd := condLeft_bd (D.op j) (D.vl j) (D.n j) hz2
      generalize condNodeLeft (D.op j) (D.vl j) (D.n j) z = t at *
      obtain ⟨t1, t2, t3⟩ := hbd
      have T3 := Lib.hid (show 0 ≤ t → D.n j ≤ 1048576 from fun h => by have := t3 h; omega)
      clear t3
      go_wp2_with fail
      refine SZ.out.mono ?_; rintro e w2 ⟨rfl, b2⟩
      have B2 := Lib.hid (BE.out.trans (b2.mono BE.out.size))
      clear b2 k0 SZ
      by_cases ht : t < 0
      all_goals
        go_wp2_with fail
      · go_ret
        exact ⟨-1, rfl, by omega, by omega, fun h => absurd h (by omega), B2.out⟩
      · go_roundw
        case rel => exact ⟨j + 1, t, by go_num, by omega, rfl, by omega, by omega, fun i hi => by
          by_cases e : i = j
          · subst e; exact T3.out (by omega)
          · exact HA.out i (by omega), B2.out⟩
        case measure => simp [intOf]; omega
    · obtain rfl : j = n := by omega
      have hlt' : ¬ (j : Int) < (j : Int) := by omega
      go_wp2_with fail
      go_ret
      exact ⟨z, rfl, by omega, hz3, fun _ => by first | exact HA.out | exact ⟨hnk, HA.out⟩, BE.out⟩
set_option maxHeartbeats 1000000 in
theorem szModel_any (w : World) (A : Option Addr) (n c : Nat) (D : OptD) (P : Loc) (A2 : Option Addr) (m c2 : Nat) (E : RulD) (Q : Loc) (k : Int) (h : OptsF w A n c D P) (h2 : RulsF w A2 m c2 E Q) (hk0 : 0 ≤ k) (hk : k ≤ 1048576) :
    Calls Try.prog 42 #[.agg #[.slice A n c, .slice A2 m c2], .int .i64 k] w (SzP w k ((n ≤ 1048576 ∧ ∀ i, i < n → D.n i ≤ 1048576) ∧ (m ≤ 1048576 ∧ ∀ i, i < m → E.n i ≤ 1048576))) := by
  have H := Lib.hid h
  have H2 := Lib.hid h2
  clear h h2
  have SZ := Lib.hid (szOptionS_any (w.alloc (.cells #[.slice A n c, .slice A2 m c2] 60)) A n c D P k (H.out.call ((Below.refl _ _).alloc (Nat.le_refl _) _)) hk0 hk)
  go_enter Try.func42, Try.ntmps42
  go_wp2_with fail
  refine SZ.out.mono ?_; rintro e w1 ⟨t, rfl, t1, t2, t3, b1⟩
  have T3 := Lib.hid t3
  have K2 := Lib.hid ((H2.out.call ((Below.refl _ _).alloc (Nat.le_refl _) (.cells #[.slice A n c, .slice A2 m c2] 60))).call b1)
  have B1 := Lib.hid (((Below.refl _ _).alloc (Nat.le_refl _) (.cells #[.slice A n c, .slice A2 m c2] 60)).trans (b1.mono (by simp)))
  have R1 := Lib.hid ((row_lit w #[.slice A n c, .slice A2 m c2] 60 2 (fun i => if i = 0 then .slice A n c else .slice A2 m c2) (by simp) (fun i hi => by rcases (by omega : i = 0 ∨ i = 1) with rfl | rfl <;> rfl)).call b1)
  have k1 : w1.cell? ⟨w.heap.size, 1, none⟩ = some (.slice A2 m c2) := R1.out.cell (i := 1) (by omega)
  clear t3 b1 SZ
  by_cases ht : t < 0
  · go_wp2_with fail
    go_ret
    exact ⟨-1, rfl, by omega, by omega, fun h => absurd h (by omega), B1.out⟩
  have SR := Lib.hid (szCondNodeSS_any w1 A2 m c2 E Q t K2.out (by omega) (by omega))
  go_wp2_with fail
  refine SR.out.mono ?_; rintro e w2 ⟨s, rfl, s1, s2, s3, b2⟩
  have S3 := Lib.hid s3
  have B2 := Lib.hid (B1.out.trans (b2.mono B1.out.size))
  clear s3 b2 k1
  by_cases hs : s < 0
  · go_wp2_with fail
    go_ret
    exact ⟨-1, rfl, by omega, by omega, fun h => absurd h (by omega), B2.out⟩
  · go_wp2_with fail
    go_ret
    exact ⟨s, rfl, by omega, by omega, fun h => ⟨T3.out (by omega), S3.out h⟩, B2.out⟩
end Go.Proofs.Ytkkhaamklbolmaa
