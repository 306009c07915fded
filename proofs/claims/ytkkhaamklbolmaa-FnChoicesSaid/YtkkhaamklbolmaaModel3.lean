/-
  Copies of a model: toOption, toOptionS, toCondNodeSS, toModel. (Printed by gen/model3.py.)
-/
import Derived.Test.YtkkhaamklbolmaaModel2
namespace Go.Proofs.Ytkkhaamklbolmaa
open Go.RowKit
set_option linter.unusedVariables false
set_option linter.unusedSimpArgs false

set_option maxHeartbeats 1000000 in
theorem toOption_any (s : ByteArray) (A : Option Addr) (n c : Nat) (f : Nat → ByteArray) (w : World) (h : StrsF w A n c f) (hn : n ≤ 1048576) :
    Calls Try.prog 101 #[.agg #[.string s, .slice A n c]] w fun e w' => ∃ x, e = .returned (.agg #[.string s, .slice (some ⟨x, 0, none⟩) n n]) ∧ w.heap.size ≤ x ∧ Row w' x 9 n (fun i => .string (f i)) ∧ Below w.heap.size w w' := by
  have H := Lib.hid h
  clear h
  go_enter Try.func101, Try.ntmps101
  go_wp2_with fail
  refine (toStringS_any _ A n c f (H.out.call (by repeat' (first | (with_reducible exact Below.refl _ _) | assumption | (with_reducible refine below_then (by assumption) ?_ ?_) | (with_reducible refine Below.alloc ?_ ?_ _) | (with_reducible refine below_drewN ?_ _) | (with_reducible refine Below.drew ?_) | (with_reducible refine Below.setCell ?_ ?_ _) | omega | (simp; done) | (simp; omega)))) hn).mono ?_; rintro e w1 ⟨rfl, hr, hb1⟩
  have R := Lib.hid hr
  clear hr
  have hz_w1 : w.heap.size + 3 ≤ w1.heap.size := by have := hb1.size; first | omega | (simp at this; omega)
  have l_w1_0 : w.heap.size < w1.heap.size := by omega
  have c_w1_0_0 : w1.cell? ⟨w.heap.size, 0, none⟩ = some (.string s) := by rw [hb1.cell (p := ⟨w.heap.size, 0, none⟩) (by go_size)]; first | assumption | (simp [go_sem]; done) | (simp [go_sem, *]; done)
  have f_w1_0_0 : w1.frozen? ⟨w.heap.size, 0, none⟩ = false := by rw [hb1.frozen (p := ⟨w.heap.size, 0, none⟩) (by go_size)]; first | assumption | (simp [go_sem]; done) | (simp [go_sem, *]; done)
  have c_w1_0_1 : w1.cell? ⟨w.heap.size, 1, none⟩ = some (.slice A n c) := by rw [hb1.cell (p := ⟨w.heap.size, 1, none⟩) (by go_size)]; first | assumption | (simp [go_sem]; done) | (simp [go_sem, *]; done)
  have f_w1_0_1 : w1.frozen? ⟨w.heap.size, 1, none⟩ = false := by rw [hb1.frozen (p := ⟨w.heap.size, 1, none⟩) (by go_size)]; first | assumption | (simp [go_sem]; done) | (simp [go_sem, *]; done)
  have l_w1_1 : w.heap.size + 1 < w1.heap.size := by omega
  have c_w1_1_0 : w1.cell? ⟨w.heap.size + 1, 0, none⟩ = some (.string ⟨#[]⟩) := by rw [hb1.cell (p := ⟨w.heap.size + 1, 0, none⟩) (by go_size)]; first | assumption | (simp [go_sem]; done) | (simp [go_sem, *]; done)
  have f_w1_1_0 : w1.frozen? ⟨w.heap.size + 1, 0, none⟩ = false := by rw [hb1.frozen (p := ⟨w.heap.size + 1, 0, none⟩) (by go_size)]; first | assumption | (simp [go_sem]; done) | (simp [go_sem, *]; done)
  have c_w1_1_1 : w1.cell? ⟨w.heap.size + 1, 1, none⟩ = some (.slice none 0 0) := by rw [hb1.cell (p := ⟨w.heap.size + 1, 1, none⟩) (by go_size)]; first | assumption | (simp [go_sem]; done) | (simp [go_sem, *]; done)
  have f_w1_1_1 : w1.frozen? ⟨w.heap.size + 1, 1, none⟩ = false := by rw [hb1.frozen (p := ⟨w.heap.size + 1, 1, none⟩) (by go_size)]; first | assumption | (simp [go_sem]; done) | (simp [go_sem, *]; done)
  have l_w1_2 : w.heap.size + 1 + 1 < w1.heap.size := by omega
  have c_w1_2_0 : w1.cell? ⟨w.heap.size + 1 + 1, 0, none⟩ = some (.string s) := by rw [hb1.cell (p := ⟨w.heap.size + 1 + 1, 0, none⟩) (by go_size)]; first | assumption | (simp [go_sem]; done) | (simp [go_sem, *]; done)
  have f_w1_2_0 : w1.frozen? ⟨w.heap.size + 1 + 1, 0, none⟩ = false := by rw [hb1.frozen (p := ⟨w.heap.size + 1 + 1, 0, none⟩) (by go_size)]; first | assumption | (simp [go_sem]; done) | (simp [go_sem, *]; done)
  have c_w1_2_1 : w1.cell? ⟨w.heap.size + 1 + 1, 1, none⟩ = some (.slice none 0 0) := by rw [hb1.cell (p := ⟨w.heap.size + 1 + 1, 1, none⟩) (by go_size)]; first | assumption | (simp [go_sem]; done) | (simp [go_sem, *]; done)
  have f_w1_2_1 : w1.frozen? ⟨w.heap.size + 1 + 1, 1, none⟩ = false := by rw [hb1.frozen (p := ⟨w.heap.size + 1 + 1, 1, none⟩) (by go_size)]; first | assumption | (simp [go_sem]; done) | (simp [go_sem, *]; done)
  go_wp2_with fail
  refine bodyPost_ret (by simp [results, Try.results101, go_sem, *]; try rfl) rfl ?_
  refine ⟨_, rfl, by first | omega | (simp only [World.size_alloc]; omega), ?_, by repeat' (first | (with_reducible exact Below.refl _ _) | assumption | (with_reducible refine below_then (by assumption) ?_ ?_) | (with_reducible refine Below.alloc ?_ ?_ _) | (with_reducible refine below_drewN ?_ _) | (with_reducible refine Below.drew ?_) | (with_reducible refine Below.setCell ?_ ?_ _) | omega | (simp; done) | (simp; omega))⟩
  have h := R.out
  simp only [World.size_alloc] at h
  repeat' (first | (with_reducible assumption) | refine Row.alloc ?_ _ | refine Row.far ?_ ?_ _ | omega | (simp; done) | (simp; omega))

theorem option_info : (Try.prog.info? 108).map (fun i => (i.zero, i.size, i.bytes)) = some (some (.agg #[.string ByteArray.empty, .slice none 0 0]), 2, 40) := by kernel_rfl
def optZ (i : Nat) : Value := if i % 2 = 0 then Value.string ByteArray.empty else .slice none 0 0
theorem made_option {n : Nat} {T : TypeId} {w : World} {g base : Nat} (h : w.ownsRow base T 2 (.slice (some ⟨g, 0, none⟩) n n) n (madeCells #[Value.string ByteArray.empty, .slice none 0 0] (n * 2)).toList) : Row w g T (n * 2) optZ := by
  obtain ⟨cs, hh, hs, hn, ht⟩ := row_ownS h
  refine ⟨cs, hh, by omega, fun i hi => ?_⟩
  have h1 : (cs.toList.take (n * 2))[i]? = (madeCells #[Value.string ByteArray.empty, .slice none 0 0] (n * 2)).toList[i]? := by rw [ht]
  rw [List.getElem?_take, if_pos hi] at h1
  have h2 : (madeCells #[Value.string ByteArray.empty, .slice none 0 0] (n * 2))[i]? = some (optZ i) := by
    have hm : i % 2 < 2 := Nat.mod_lt _ (by omega)
    simp only [madeCells, optZ]
    have e : (#[Value.string ByteArray.empty, .slice none 0 0] : Array Value).size = 2 := rfl
    rcases (by omega : i % 2 = 0 ∨ i % 2 = 1) with h | h <;> simp [hi, h]
  simpa [h2] using h1
/-- the values' rows, apart from the row at g -/
def ValRows (w : World) (g k : Nat) (D : OptD) (P : Loc) : Prop := ∀ i, i < k → ∃ x, P.A i = some ⟨x, 0, none⟩ ∧ P.c i = D.n i ∧ g < x ∧ D.n i ≤ 1048576 ∧ Row w x 9 (D.n i) (fun q => .string (D.vs i q))
theorem ValRows.call {w w' : World} {g k : Nat} {D : OptD} {P : Loc} (h : ValRows w g k D P) (hb : Below w.heap.size w w') : ValRows w' g k D P := fun i hi => by
  obtain ⟨x, a, b, c, e, r⟩ := h i hi; exact ⟨x, a, b, c, e, r.call hb⟩
theorem ValRows.far {w : World} {g k : Nat} {D : OptD} {P : Loc} (h : ValRows w g k D P) (p : Addr) (hp : p.block = g) (v : Value) : ValRows (w.setCell p v) g k D P := fun i hi => by
  obtain ⟨x, a, b, c, e, r⟩ := h i hi; exact ⟨x, a, b, c, e, r.far (by omega) v⟩
def Loc.put (P : Loc) (k : Nat) (x n : Nat) : Loc := ⟨fun i => if i = k then some ⟨x, 0, none⟩ else P.A i, fun i => if i = k then n else P.c i⟩
theorem ValRows.more {w : World} {g k x : Nat} {D : OptD} {P : Loc} (h : ValRows w g k D P) (hx : g < x) (hn : D.n k ≤ 1048576) (r : Row w x 9 (D.n k) (fun q => .string (D.vs k q))) : ValRows w g (k + 1) D (P.put k x (D.n k)) := fun i hi => by
  by_cases e : i = k
  · subst e; exact ⟨x, by simp [Loc.put], by simp [Loc.put], hx, hn, r⟩
  · obtain ⟨y, a, b, c, d, r⟩ := h i (by omega)
    exact ⟨y, by simp [Loc.put, e, a], by simp [Loc.put, e, b], c, d, r⟩
theorem optC_put (D : OptD) (P : Loc) (k x m : Nat) {j q : Nat} (h : j ≠ k) : optC D (P.put k x m) j q = optC D P j q := by
  unfold optC Loc.put; simp [h]
theorem optC_new0 (D : OptD) (P : Loc) (k x m : Nat) : optC D (P.put k x m) k 0 = .string (D.nm k) := rfl
theorem optC_new1 (D : OptD) (P : Loc) (k x : Nat) : optC D (P.put k x (D.n k)) k 1 = .slice (some ⟨x, 0, none⟩) (D.n k) (D.n k) := by
  unfold optC Loc.put; simp
/-- a new slice of options -/
def NewOpts (w : World) (n : Nat) (D : OptD) (e : Ending) (w' : World) : Prop := ∃ P, e = .returned (.slice (some ⟨w.heap.size, 0, none⟩) n n) ∧ OptsF w' (some ⟨w.heap.size, 0, none⟩) n n D P ∧ (∀ i, i < n → ∀ b u, P.A i = some ⟨b, u, none⟩ → w.heap.size ≤ b) ∧ Below w.heap.size w w'
set_option maxHeartbeats 1000000 in
theorem toOptionS_any (w : World) (A : Option Addr) (n c : Nat) (D : OptD) (P : Loc) (h : OptsF w A n c D P) (hn : n ≤ 1048576) (hv : ∀ i, i < n → D.n i ≤ 1048576) :
    Calls Try.prog 81 #[.slice A n c] w (NewOpts w n D) := by
  have H := Lib.hid h
  have HV := Lib.hid hv
  clear h hv
  obtain ⟨i0, hi, hz0, hz1, hz2⟩ := info_parts option_info
  go_enter Try.func81, Try.ntmps81
  go_wp2_with (refine wpList_make_full _ rfl _ _ 63 rfl w.heap.size 108 i0 (.agg #[.string ByteArray.empty, .slice none 0 0]) 2 Try.underlying63 hi hz0 hz1 .i64 .i64 _ _ n rfl rfl rfl rfl (by rw [hz2]; omega) (by unfold maxLen; omega) (Nat.le_refl _) ?_)
  intro w1 hown hgrow
  have hrow := made_option hown
  have hb1 : Below w.heap.size w w1 := ⟨hgrow.os, hgrow.tape, hgrow.output, hgrow.size, fun i hi => hgrow.block i hi (by simp)⟩
  clear hown hgrow
  go_wp2_with fail
  go_loopw [4] (fun i wr => ∃ (k : Nat) (R : Loc), k ≤ n ∧ i = .int .i64 (k : Int) ∧ Row wr w.heap.size 108 (n * 2) (fun j => if j < k * 2 then optC D R (j / 2) (j % 2) else optZ j) ∧ ValRows wr w.heap.size k D R ∧ Below w.heap.size w wr) (fun i _ => n - (intOf i).toNat)
  case atStart => exact ⟨0, P, Nat.zero_le _, rfl, hrow.congr (fun i _ => by simp), fun i hi => absurd hi (by omega), hb1⟩
  case round =>
    clear hrow hb1
    obtain ⟨k, R, hk, rfl, hrow, hval, hbel⟩ := hrel
    have RR := Lib.hid hrow
    have VR := Lib.hid hval
    have BE := Lib.hid hbel
    have lg := hrow.lt
    clear hrow hval hbel
    by_cases hlt : k < n
    · have hlt' : (k : Int) < (n : Int) := by omega
      have HW := Lib.hid (H.out.call BE.out)
      obtain ⟨b, o, rfl, hB, c0, c1⟩ := HW.out.cells hlt
      go_wp2_with fail
      refine (toOption_any (D.nm k) (P.A k) (D.n k) (P.c k) (D.vs k) _ (HW.out.vals k hlt) (HV.out k hlt)).mono ?_; rintro e w2 ⟨x, rfl, hx, rx, hb2⟩
      have RX := Lib.hid rx
      have R2 := Lib.hid (RR.out.call hb2)
      have V2 := Lib.hid (VR.out.call hb2)
      have BE2 := Lib.hid (BE.out.trans (hb2.mono BE.out.size))
      clear hb2 c0 c1 rx
      have g0 : w2.cell? ⟨w.heap.size, k * 2, none⟩ = some (.string ByteArray.empty) := (R2.out.cell (by omega)).trans (by rw [if_neg (by omega)]; unfold optZ; rw [if_pos (by omega)])
      have f0 := R2.out.frozen (k * 2)
      have g1 : w2.cell? ⟨w.heap.size, k * 2 + 1, none⟩ = some (.slice none 0 0) := (R2.out.cell (by omega)).trans (by rw [if_neg (by omega)]; unfold optZ; rw [if_neg (by omega)])
      have f1 := R2.out.frozen (k * 2 + 1)
      go_wp2_with fail
      go_roundw
      case rel =>
        refine ⟨k + 1, R.put k x (D.n k), by omega, by go_num, ((R2.out.set (k * 2) _).set (k * 2 + 1) _).congr (fun j hj => ?_), ((V2.out.more (by omega) (HV.out k hlt) RX.out).far _ rfl _).far _ rfl _, (Below.setCell (Below.setCell BE2.out (Nat.le_refl _) _) (Nat.le_refl _) _)⟩
        by_cases e1 : j = k * 2 + 1
        · subst e1
          have d1 : (k * 2 + 1) / 2 = k := by omega
          have d2 : (k * 2 + 1) % 2 = 1 := by omega
          rw [if_pos rfl, if_pos (by omega), d1, d2, optC_new1]
        rw [if_neg e1]
        by_cases e0 : j = k * 2
        · subst e0
          have d1 : (k * 2) / 2 = k := by omega
          have d2 : (k * 2) % 2 = 0 := by omega
          rw [if_pos rfl, if_pos (by omega), d1, d2, optC_new0]
        rw [if_neg e0]
        by_cases e9 : j < k * 2
        · rw [if_pos e9, if_pos (by omega), optC_put _ _ _ _ _ (by omega)]
        · rw [if_neg e9, if_neg (by omega)]
      case measure => simp [intOf]; omega
    · obtain rfl : k = n := by omega
      have hlt' : ¬ (k : Int) < (k : Int) := by omega
      go_wp2_with fail
      go_ret
      have hr := RR.out.congr (f' := fun i => optC D R (i / 2) (i % 2)) (fun j hj => by rw [if_pos hj])
      refine ⟨R, rfl, ⟨SliceF.of_row hr (by omega) (Nat.le_refl _) (fun j q hj hq => ?_), H.out.z, fun i hi => ?_⟩, fun i hi b u e => ?_, BE.out⟩
      · have d1 : (j * 2 + q) / 2 = j := by omega
        have d2 : (j * 2 + q) % 2 = q := by omega
        rw [d1, d2]
      · obtain ⟨x, a, b, _, m, r⟩ := VR.out i hi
        rw [a, b]
        exact StrsF.of_row r (by omega) (H.out.vals i hi).size
      · obtain ⟨x, a, _, l, _⟩ := VR.out i hi
        rw [a] at e; injection e with e; injection e with e1 _; omega

theorem conds_info : (Try.prog.info? 25).map (fun i => (i.zero, i.size, i.bytes)) = some (some (.slice none 0 0), 1, 24) := by kernel_rfl
/-- the conditions' rows, apart from the row at g -/
def CondRows (w : World) (g k : Nat) (D : RulD) (P : Loc) : Prop := ∀ i, i < k → ∃ x, P.A i = some ⟨x, 0, none⟩ ∧ P.c i = D.n i ∧ g < x ∧ D.n i ≤ 1048576 ∧ Row w x 54 (D.n i * 3) (fun q => condNodeC (D.kd i) (D.op i) (D.vl i) (q / 3) (q % 3))
theorem CondRows.call {w w' : World} {g k : Nat} {D : RulD} {P : Loc} (h : CondRows w g k D P) (hb : Below w.heap.size w w') : CondRows w' g k D P := fun i hi => by
  obtain ⟨x, a, b, c, e, r⟩ := h i hi; exact ⟨x, a, b, c, e, r.call hb⟩
theorem CondRows.far {w : World} {g k : Nat} {D : RulD} {P : Loc} (h : CondRows w g k D P) (p : Addr) (hp : p.block = g) (v : Value) : CondRows (w.setCell p v) g k D P := fun i hi => by
  obtain ⟨x, a, b, c, e, r⟩ := h i hi; exact ⟨x, a, b, c, e, r.far (by omega) v⟩
theorem CondRows.more {w : World} {g k x : Nat} {D : RulD} {P : Loc} (h : CondRows w g k D P) (hx : g < x) (hn : D.n k ≤ 1048576) (r : Row w x 54 (D.n k * 3) (fun q => condNodeC (D.kd k) (D.op k) (D.vl k) (q / 3) (q % 3))) : CondRows w g (k + 1) D (P.put k x (D.n k)) := fun i hi => by
  by_cases e : i = k
  · subst e; exact ⟨x, by simp [Loc.put], by simp [Loc.put], hx, hn, r⟩
  · obtain ⟨y, a, b, c, d, r⟩ := h i (by omega)
    exact ⟨y, by simp [Loc.put, e, a], by simp [Loc.put, e, b], c, d, r⟩
theorem rulC_put (D : RulD) (P : Loc) (k x m : Nat) {j q : Nat} (h : j ≠ k) : rulC D (P.put k x m) j q = rulC D P j q := by
  unfold rulC Loc.put; simp [h]
theorem rulC_new (D : RulD) (P : Loc) (k x q : Nat) : rulC D (P.put k x (D.n k)) k q = .slice (some ⟨x, 0, none⟩) (D.n k) (D.n k) := by
  unfold rulC Loc.put; simp
/-- a new slice of rules -/
def NewRuls (w : World) (n : Nat) (D : RulD) (e : Ending) (w' : World) : Prop := ∃ P, e = .returned (.slice (some ⟨w.heap.size, 0, none⟩) n n) ∧ RulsF w' (some ⟨w.heap.size, 0, none⟩) n n D P ∧ (∀ i, i < n → ∀ b u, P.A i = some ⟨b, u, none⟩ → w.heap.size ≤ b) ∧ Below w.heap.size w w'
set_option maxHeartbeats 1000000 in
theorem toCondNodeSS_any (w : World) (A : Option Addr) (n c : Nat) (D : RulD) (P : Loc) (h : RulsF w A n c D P) (hn : n ≤ 1048576) (hv : ∀ i, i < n → D.n i ≤ 1048576) :
    Calls Try.prog 82 #[.slice A n c] w (NewRuls w n D) := by
  have hmk := run_make_row' (P := Try.prog) 64 25 (.slice none 0 0) 24 Try.underlying64 conds_info rfl .i64 .i64 n (by omega) (by omega)
  have H := Lib.hid h
  have HV := Lib.hid hv
  clear h hv
  go_enter Try.func82, Try.ntmps82
  go_wp2_with fail
  go_loopw [4] (fun i wr => ∃ (k : Nat) (R : Loc), k ≤ n ∧ i = .int .i64 (k : Int) ∧ Row wr w.heap.size 25 n (fun j => if j < k then rulC D R j 0 else .slice none 0 0) ∧ CondRows wr w.heap.size k D R ∧ Below w.heap.size w wr) (fun i _ => n - (intOf i).toNat)
  case atStart => exact ⟨0, P, Nat.zero_le _, rfl, (row_made w _ n _).congr (fun i _ => by simp), fun i hi => absurd hi (by omega), (Below.refl _ _).alloc (Nat.le_refl _) _⟩
  case round =>
    clear hmk
    obtain ⟨k, R, hk, rfl, hrow, hval, hbel⟩ := hrel
    have RR := Lib.hid hrow
    have VR := Lib.hid hval
    have BE := Lib.hid hbel
    have lg := hrow.lt
    clear hrow hval hbel
    by_cases hlt : k < n
    · have hlt' : (k : Int) < (n : Int) := by omega
      have HW := Lib.hid (H.out.call BE.out)
      obtain ⟨b, o, rfl, hB, c0⟩ := HW.out.cell hlt
      go_wp2_with fail
      refine (toCondNodeS_any _ (P.A k) (D.n k) (P.c k) (D.kd k) (D.op k) (D.vl k) (HW.out.conds k hlt) (HV.out k hlt)).mono ?_; rintro e w2 ⟨x, rfl, hx, _, rx, hb2⟩
      have RX := Lib.hid rx
      have R2 := Lib.hid (RR.out.call hb2)
      have V2 := Lib.hid (VR.out.call hb2)
      have BE2 := Lib.hid (BE.out.trans (hb2.mono BE.out.size))
      clear hb2 c0 rx
      have g0 : w2.cell? ⟨w.heap.size, k, none⟩ = some (.slice none 0 0) := (R2.out.cell hlt).trans (by rw [if_neg (by omega)])
      have f0 := R2.out.frozen k
      go_wp2_with fail
      go_roundw
      case rel =>
        refine ⟨k + 1, R.put k x (D.n k), by omega, by go_num, (R2.out.set k _).congr (fun j hj => ?_), (V2.out.more (by omega) (HV.out k hlt) RX.out).far _ rfl _, Below.setCell BE2.out (Nat.le_refl _) _⟩
        by_cases e0 : j = k
        · subst e0
          rw [if_pos rfl, if_pos (by omega), rulC_new]
        rw [if_neg e0]
        by_cases e9 : j < k
        · rw [if_pos e9, if_pos (by omega), rulC_put _ _ _ _ _ (by omega)]
        · rw [if_neg e9, if_neg (by omega)]
      case measure => simp [intOf]; omega
    · obtain rfl : k = n := by omega
      have hlt' : ¬ (k : Int) < (k : Int) := by omega
      go_wp2_with fail
      go_ret
      have hr := RR.out.congr (f' := fun i => rulC D R i 0) (fun j hj => by rw [if_pos hj])
      refine ⟨R, rfl, ⟨SliceF.of_row (by rw [Nat.mul_one]; exact hr) (by omega) (Nat.le_refl _) (fun j q hj hq => ?_), fun i hi => ?_⟩, fun i hi b u e => ?_, BE.out⟩
      · obtain rfl : q = 0 := by omega
        simp
      · obtain ⟨x, a, b, _, m, r⟩ := VR.out i hi
        rw [a, b]
        refine (H.out.conds i hi).of (SliceF.of_row r (by omega) (Nat.le_refl _) (fun j q hj hq => ?_))
        have d1 : (j * 3 + q) / 3 = j := by omega
        have d2 : (j * 3 + q) % 3 = q := by omega
        rw [d1, d2]
      · obtain ⟨x, a, _, l, _⟩ := VR.out i hi
        rw [a] at e; injection e with e; injection e with e1 _; omega

end Go.Proofs.Ytkkhaamklbolmaa
