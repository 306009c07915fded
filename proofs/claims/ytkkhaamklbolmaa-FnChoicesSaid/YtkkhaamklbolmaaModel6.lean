/-
  Whether a model is right: plain, and impl.IsModel. (Printed by gen/model6.py.)
-/
import Derived.Test.YtkkhaamklbolmaaModel1
import Derived.Test.YtkkhaamklbolmaaModel2
import Derived.Test.YtkkhaamklbolmaaOptions
namespace Go.Proofs.Ytkkhaamklbolmaa
open Go.RowKit Go.Sort
set_option linter.unusedVariables false
set_option linter.unusedSimpArgs false

def optOk (D : OptD) (i : Nat) : Bool := (decide ((1 : Int) ≤ (D.n i : Int)) && decide ((D.n i : Int) ≤ 4)) && diffB (D.vs i) (D.n i)
def rulOk (E : RulD) (i : Nat) : Bool := isCondB (E.kd i) (E.op i) (E.vl i) (E.n i)
def mdlB (n : Nat) (D : OptD) (m : Nat) (E : RulD) : Bool := decide (n ≤ 4) && decide (m ≤ 6) && (List.range n).all (optOk D) && (List.range m).all (rulOk E) && diffB D.nm n
theorem mdl_iff {n m : Nat} {D : OptD} {E : RulD} : mdlB n D m E = true ↔ n ≤ 4 ∧ m ≤ 6 ∧ (∀ i, i < n → optOk D i = true) ∧ (∀ i, i < m → rulOk E i = true) ∧ diffB D.nm n = true := by
  unfold mdlB
  simp only [Bool.and_eq_true, decide_eq_true_eq, List.all_eq_true, List.mem_range, and_assoc]
theorem mdl_no {n m : Nat} {D : OptD} {E : RulD} (h : ¬ (n ≤ 4 ∧ m ≤ 6 ∧ (∀ i, i < n → optOk D i = true) ∧ (∀ i, i < m → rulOk E i = true) ∧ diffB D.nm n = true)) : mdlB n D m E = false := by
  rw [← Bool.not_eq_true, mdl_iff]; exact h
theorem mdl_last {n m : Nat} {D : OptD} {E : RulD} (h1 : n ≤ 4) (h2 : m ≤ 6) (h3 : ∀ i, i < n → optOk D i = true) (h4 : ∀ i, i < m → rulOk E i = true) : mdlB n D m E = diffB D.nm n := by
  cases h : diffB D.nm n
  · exact mdl_no (fun q => by rw [h] at q; exact absurd q.2.2.2.2 (by simp))
  · exact mdl_iff.2 ⟨h1, h2, h3, h4, h⟩
def modelM (v v2 : Value) (i : Nat) : Value := if i = 0 then v else v2

set_option maxRecDepth 20000 in
set_option maxHeartbeats 4000000 in
theorem impl_IsModel (w : World) (A : Option Addr) (n c : Nat) (D : OptD) (P : Loc) (A2 : Option Addr) (m c2 : Nat) (E : RulD) (Q : Loc) (h : OptsF w A n c D P) (h2 : RulsF w A2 m c2 E Q) :
    Calls Try.prog 45 #[.agg #[.slice A n c, .slice A2 m c2]] w fun e w' => e = .returned (.bool (mdlB n D m E)) ∧ Below w.heap.size w w' := by
  obtain ⟨i0, hi0, hz0, hs0, hb0⟩ := str_type
  have hn := h.le
  have hm := h2.le
  have H := Lib.hid h
  have H2 := Lib.hid h2
  clear h h2
  have NO := Lib.hid (fun (q : ¬ (n ≤ 4 ∧ m ≤ 6 ∧ (∀ i, i < n → optOk D i = true) ∧ (∀ i, i < m → rulOk E i = true) ∧ diffB D.nm n = true)) => mdl_no q)
  have YES := Lib.hid (fun (h1 : n ≤ 4) (h2 : m ≤ 6) (h3 : ∀ i, i < n → optOk D i = true) (h4 : ∀ i, i < m → rulOk E i = true) => mdl_last (n := n) (m := m) (D := D) (E := E) h1 h2 h3 h4)
  generalize mdlB n D m E = R at *
  by_cases h4 : n ≤ 4
  case neg =>
    have e : R = false := NO.out (fun q => h4 q.1)
    have hd : (4 : Int) < (n : Int) := by omega
    subst e
    go_enter Try.func45, Try.ntmps45
    go_wp2_with fail
    go_ret
    exact ⟨rfl, (Below.refl _ _).alloc (Nat.le_refl _) _⟩
  by_cases h6 : m ≤ 6
  case neg =>
    have e : R = false := NO.out (fun q => h6 q.2.1)
    have hd : ¬ (4 : Int) < (n : Int) := by omega
    have hd2 : (6 : Int) < (m : Int) := by omega
    subst e
    go_enter Try.func45, Try.ntmps45
    go_wp2_with fail
    go_ret
    exact ⟨rfl, (Below.refl _ _).alloc (Nat.le_refl _) _⟩
  have hd : ¬ (4 : Int) < (n : Int) := by omega
  have hd2 : ¬ (6 : Int) < (m : Int) := by omega
  go_enter Try.func45, Try.ntmps45
  go_wp2_with fail
  have Y0 := Lib.hid (OwnV.lit (w.alloc (.cells #[.slice A n c, .slice A2 m c2] 66)) (B := w.heap.size + 1) (by simp) 9 1 0 #[] (strC D.nm) (by simp [flat]) (by omega))
  have R0 := Lib.hid ((row_lit w #[.slice A n c, .slice A2 m c2] 66 2 (modelM (.slice A n c) (.slice A2 m c2)) (by simp) (fun i hi => by unfold modelM; rcases (by omega : i = 0 ∨ i = 1) with rfl | rfl <;> rfl)).alloc (.cells #[] 9))
  have B0 := Lib.hid (((Below.refl w.heap.size w).alloc (Nat.le_refl _) (.cells #[.slice A n c, .slice A2 m c2] 66)).alloc (by simp) (.cells #[] 9))
  simp only [World.size_alloc] at Y0
  clear hd hd2
  go_loopw [3, 5, 22] (fun nv _ iv W => ∃ k : Nat, iv = .int .i64 (k : Int) ∧ k ≤ n ∧ OwnV (w.heap.size + 1) W 9 1 nv k (strC D.nm) ∧ (∀ i, i < k → optOk D i = true) ∧ Row W w.heap.size 66 2 (modelM (.slice A n c) (.slice A2 m c2)) ∧ Below w.heap.size w W) (fun _ _ iv _ => n - (intOf iv).toNat)
  case atStart => exact ⟨0, rfl, Nat.zero_le _, Y0.out, fun i hi => absurd hi (by omega), R0.out, B0.out⟩
  case round =>
    clear Y0 R0 B0
    obtain ⟨k, rfl, hk, hown, hall, hrow, hbel⟩ := hrel
    obtain ⟨An, cn, rfl, hsn, hfn⟩ := hown.slice
    have O := Lib.hid hown
    have HA := Lib.hid hall
    have RW := Lib.hid hrow
    have BE := Lib.hid hbel
    have SN := Lib.hid hsn
    have VLO := Lib.hid (show ∀ r, (Value.slice An k cn).ownBlock = some r → w.heap.size + 1 ≤ r from fun r h => (hown.lt h).1)
    have lw := hrow.lt
    clear hown hall hrow hbel hsn hfn
    by_cases hlt : k < n
    case pos =>
      have hlt' : (k : Int) < (n : Int) := by omega
      have HW := Lib.hid (H.out.call BE.out)
      obtain ⟨b, o, rfl, hB, c0, c1⟩ := HW.out.cells hlt
      have VS := Lib.hid (HW.out.vals k hlt)
      have S1 := Lib.hid (show ∀ hf : optOk D k = false, R = false from fun hf => NO.out (fun q => by have := q.2.2.1 k hlt; rw [hf] at this; cases this))
      have S2 := Lib.hid (show ∀ hf : optOk D k = true, ∀ i, i < k + 1 → optOk D i = true from fun hf i hi => by
        by_cases e : i = k
        · subst e; exact hf
        · exact HA.out i (by omega))
      have D1 := Lib.hid (show optOk D k = ((decide ((1 : Int) ≤ (D.n k : Int)) && decide ((D.n k : Int) ≤ 4)) && diffB (D.vs k) (D.n k)) from rfl)
      obtain ⟨s, hs⟩ : ∃ s, s = D.nm k := ⟨_, rfl⟩
      rw [← hs] at c0
      have HS := Lib.hid hs
      clear hs
      go_wp2_with (at_builtin; refine appS (wr.alloc (.cells #[.string s, .slice (P.A k) (D.n k) (P.c k)] 108)) rfl _ _ 29 rfl (B := w.heap.size + 1) (i := i0) (z := .string ByteArray.empty) (s := 1) (bytes := 16) (F := strC D.nm) (v := .slice An k cn) (n := k) (xs := #[.string s]) Try.underlying29 hi0 hz0 hs0 hb0 rfl (by decide) rfl (O.out.alloc _) (by simp; omega) (by show Value.slice (some ⟨wr.heap.size + 1, 0, none⟩) 1 1 = _; simp) (fun q hq => by have e0 : q = 0 := (by omega); rw [e0, HS.out]; rfl) (fun q hq => rfl) (by omega) (by decide) ?_)
      intro v7 w7 hv7 hg7 hb7
      have RX := Lib.hid ((row_lit wr #[.string s, .slice (P.A k) (D.n k) (P.c k)] 108 2 (modelM (.string s) (.slice (P.A k) (D.n k) (P.c k))) (by simp) (fun i hi => by unfold modelM; rcases (by omega : i = 0 ∨ i = 1) with rfl | rfl <;> rfl)).own hg7 (fun e => by have := (O.out.lt e).2; omega))
      have RW7 := Lib.hid ((RW.out.alloc (.cells #[.string s, .slice (P.A k) (D.n k) (P.c k)] 108)).own hg7 (fun e => by have := VLO.out _ e; omega))
      have B7 := Lib.hid (below_own (BE.out.alloc BE.out.size (.cells #[.string s, .slice (P.A k) (D.n k) (P.c k)] 108)) hg7 (fun r hr => by have := VLO.out r hr; omega) (by have := BE.out.size; simp; omega))
      have V7 := Lib.hid hv7
      obtain ⟨A7, p7, rfl, hs7, hf7⟩ := hv7.slice
      have q1 : w7.cell? ⟨wr.heap.size, 1, none⟩ = some (.slice (P.A k) (D.n k) (P.c k)) := RX.out.cell (i := 1) (by omega)
      have DF := Lib.hid (different_any w7 (P.A k) (D.n k) (P.c k) (D.vs k) ((H.out.call B7.out).vals k hlt))
      have IN := Lib.hid (fun (W : World) => in_any (D.n k) 1 4 W)
      clear hs7 hf7 hv7 hg7 hb7 c0 c1 VS HW HS
      generalize (decide ((1 : Int) ≤ (D.n k : Int)) && decide ((D.n k : Int) ≤ 4)) = I at *
      generalize diffB (D.vs k) (D.n k) = J at *
      cases I
      case false =>
        have e : R = false := S1.out D1.out
        subst e
        go_wp2_with fail
        refine (IN.out _).mono ?_; rintro e w8 ⟨rfl, hw⟩; obtain rfl := hw.symm
        go_wp2_with fail
        go_ret
        exact ⟨rfl, B7.out⟩
      case true =>
        cases J
        case false =>
          have e : R = false := S1.out D1.out
          subst e
          go_wp2_with fail
          refine (IN.out _).mono ?_; rintro e w8 ⟨rfl, hw⟩; obtain rfl := hw.symm
          go_wp2_with fail
          refine DF.out.mono ?_; rintro e w8 ⟨rfl, hw⟩; obtain rfl := hw.symm
          go_wp2_with fail
          go_ret
          exact ⟨rfl, B7.out⟩
        case true =>
          have A7' := Lib.hid (S2.out D1.out)
          clear S1 S2 D1
          go_wp2_with fail
          refine (IN.out _).mono ?_; rintro e w8 ⟨rfl, hw⟩; obtain rfl := hw.symm
          go_wp2_with fail
          refine DF.out.mono ?_; rintro e w8 ⟨rfl, hw⟩; obtain rfl := hw.symm
          go_wp2_with fail
          go_roundw
          case rel => exact ⟨k + 1, by go_num, by omega, V7.out, A7'.out, RW7.out, B7.out⟩
          case measure => simp [intOf]; omega
    obtain rfl : k = n := by omega
    have hlt' : ¬ (k : Int) < (k : Int) := by omega
    have m1 : wr.cell? ⟨w.heap.size, 1, none⟩ = some (.slice A2 m c2) := RW.out.cell (i := 1) (by omega)
    have ST := Lib.hid (show StrsF wr An k cn D.nm from ⟨SN.out, H.out.z⟩)
    have lO := Lib.hid (show k ≤ cn from SN.out.le)
    clear VLO O SN
    go_wp2_with fail
    clear m1 hlt hlt'
    go_loopw [7, 46] (fun _ iv W => ∃ j : Nat, iv = .int .i64 (j : Int) ∧ j ≤ m ∧ (∀ i, i < j → rulOk E i = true) ∧ StrsF W An k cn D.nm ∧ Below w.heap.size w W) (fun _ iv _ => m - (intOf iv).toNat)
    case atStart => exact ⟨0, rfl, Nat.zero_le _, fun i hi => absurd hi (by omega), ST.out, BE.out⟩
    case round =>
      clear ST BE RW
      obtain ⟨j, rfl, hj, hal2, hst, hbe⟩ := hrel
      have RA := Lib.hid hal2
      have ST := Lib.hid hst
      have BE := Lib.hid hbe
      clear hal2 hst hbe
      by_cases hlt : j < m
      case pos =>
        have hlt' : (j : Int) < (m : Int) := by omega
        have HW := Lib.hid (H2.out.call BE.out)
        obtain ⟨b, o, rfl, hB, c0⟩ := HW.out.cell hlt
        have IC := Lib.hid (fun (W : World) (hW : CondNodeF W (Q.A j) (E.n j) (Q.c j) (E.kd j) (E.op j) (E.vl j)) => impl_IsCond W (Q.A j) (E.n j) (Q.c j) (E.kd j) (E.op j) (E.vl j) hW)
        have S1 := Lib.hid (show ∀ hf : rulOk E j = false, R = false from fun hf => NO.out (fun q => by have := q.2.2.2.1 j hlt; rw [hf] at this; cases this))
        have S2 := Lib.hid (show ∀ hf : rulOk E j = true, ∀ i, i < j + 1 → rulOk E i = true from fun hf i hi => by
          by_cases e : i = j
          · subst e; exact hf
          · exact RA.out i (by omega))
        have D1 := Lib.hid (show rulOk E j = isCondB (E.kd j) (E.op j) (E.vl j) (E.n j) from rfl)
        generalize isCondB (E.kd j) (E.op j) (E.vl j) (E.n j) = I at *
        cases I
        case false =>
          have e : R = false := S1.out D1.out
          subst e
          go_wp2_with fail
          refine (IC.out _ (HW.out.conds j hlt)).mono ?_; rintro e w8 ⟨rfl, b8⟩
          have B8 := Lib.hid (BE.out.trans (b8.mono BE.out.size))
          clear b8
          go_wp2_with fail
          go_ret
          exact ⟨rfl, B8.out⟩
        case true =>
          have A7' := Lib.hid (S2.out D1.out)
          clear S1 S2 D1
          go_wp2_with fail
          refine (IC.out _ (HW.out.conds j hlt)).mono ?_; rintro e w8 ⟨rfl, b8⟩
          have B8 := Lib.hid (BE.out.trans (b8.mono BE.out.size))
          have ST8 := Lib.hid (show StrsF w8 An k cn D.nm from ⟨ST.out.sl.call b8, ST.out.size⟩)
          clear b8
          go_wp2_with fail
          go_roundw
          case rel => exact ⟨j + 1, by go_num, by omega, A7'.out, ST8.out, B8.out⟩
          case measure => simp [intOf]; omega
      obtain rfl : j = m := by omega
      have hlt' : ¬ (j : Int) < (j : Int) := by omega
      have DF := Lib.hid (different_any wr An k cn D.nm ST.out)
      have e := YES.out h4 h6 HA.out RA.out
      rw [← e] at DF
      have EE := Lib.hid e
      clear e
      go_wp2_with fail
      refine DF.out.mono ?_; rintro e w8 ⟨rfl, hw⟩; obtain rfl := hw.symm
      go_wp2_with fail
      go_ret
      exact ⟨rfl, BE.out⟩

end Go.Proofs.Ytkkhaamklbolmaa
