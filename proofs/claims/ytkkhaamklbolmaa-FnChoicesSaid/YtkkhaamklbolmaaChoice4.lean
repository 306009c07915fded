/-
  The law's samePicks, the program's IsChoice.
-/
import Derived.Test.YtkkhaamklbolmaaChoice3
namespace Go.Proofs.Ytkkhaamklbolmaa
open Go.RowKit Go.Sort
set_option linter.unusedVariables false
set_option linter.unusedSimpArgs false

theorem samePicks_same (w : World) (A A' : Option Addr) (n c c' : Nat) (po pv : Nat → ByteArray) (h : PickF w A n c po pv) (h' : PickF w A' n c' po pv) :
    Calls Try.prog 51 #[.slice A n c, .slice A' n c'] w fun e w' => e = .returned (.bool true) ∧ Below w.heap.size w w' := by
  have H := Lib.hid h
  have H' := Lib.hid h'
  have hn := h.le
  clear h h'
  have hnn : ((n : Int) != (n : Int)) = false := by simp
  go_enter Try.func51, Try.ntmps51
  go_wp2_with fail
  go_loopw [5] (fun i wr => ∃ j : Nat, j ≤ n ∧ i = .int .i64 (j : Int) ∧ Below w.heap.size w wr) (fun i _ => n - (intOf i).toNat)
  case atStart => exact ⟨0, Nat.zero_le _, rfl, Below.refl _ _⟩
  case round =>
    obtain ⟨j, hj, rfl, hbe⟩ := hrel
    have BE := Lib.hid hbe
    by_cases hlt : j < n
    · have hlt' : (j : Int) < (n : Int) := by omega
      have Hw := Lib.hid (H.out.call hbe)
      have Hw' := Lib.hid (H'.out.call hbe)
      clear hbe
      obtain ⟨b, o, rfl, hB, k0, k1⟩ := Hw.out.cells hlt
      obtain ⟨b', o', rfl, hB', k0', k1'⟩ := Hw'.out.cells hlt
      go_wp2_with fail
      go_quiet (fail)
      go_wp2_with fail
      go_roundw
      case rel => exact ⟨j + 1, by omega, by go_num, below_drewN BE.out _⟩
      case measure => simp [intOf]; omega
    · obtain rfl : j = n := by omega
      go_wp2_with fail
      go_ret
      exact ⟨rfl, BE.out⟩
theorem pk_eta {X : List Pk} {i : Nat} (h : i < X.length) : X.getD i (mt, mt) = (pkO X i, pkV X i) := rfl
/-- the picks agree ahead of place i -/
def agreeN (X Y : List Pk) (i : Nat) : Prop := X.length = Y.length ∧ ∀ q, q < i → pkO X q = pkO Y q ∧ pkV X q = pkV Y q
theorem agree_eq {X Y : List Pk} (h : agreeN X Y X.length) : X = Y := by
  refine List.ext_getElem h.1 fun i h1 h2 => ?_
  obtain ⟨e1, e2⟩ := h.2 i h1
  unfold pkO at e1
  unfold pkV at e2
  simp only [List.getD_eq_getElem?_getD, List.getElem?_eq_getElem h1, List.getElem?_eq_getElem h2, Option.getD_some] at e1 e2
  exact Prod.ext e1 e2
theorem choice_small {D : OptD} {n : Nat} {E : RulD} {m : Nat} {X : List Pk} (hn : n ≤ 4) (hX : X ∈ goodL D n E m) : X.length ≤ 4 := by
  have h := (List.mem_filter.1 hX).1
  have := (allL_each h).1
  omega
/-- how far two lists of picks agree, as the loop has it -/
def SameR (Y X : List Pk) (wb : World) (sv iv : Value) (W : World) : Prop := ∃ (b : Bool) (i : Nat), sv = .bool b ∧ iv = .int .i64 (i : Int) ∧ i ≤ Y.length ∧ Hid (b = true → agreeN Y X i) ∧ Hid (b = false → Y ≠ X) ∧ Below wb.heap.size wb W
/-- whether X is among the choices -/
def IsCh (w : World) (D : OptD) (n : Nat) (E : RulD) (m : Nat) (X : List Pk) (e : Ending) (w' : World) : Prop := ∃ q : Bool, e = .returned (.bool q) ∧ (q = true ↔ X ∈ goodL D n E m) ∧ Below w.heap.size w w'
set_option maxRecDepth 20000 in
set_option maxHeartbeats 8000000 in
theorem isChoice_any (w : World) (A : Option Addr) (n c : Nat) (D : OptD) (P : Loc) (A2' : Option Addr) (m c2' : Nat) (E : RulD) (Q : Loc) (h : OptsF w A n c D P) (h2 : RulsF w A2' m c2' E Q) (hz : ∀ i, i < n → ∀ k, k < D.n i → (D.vs i k).size ≤ 9223372036854775807)
    (hmd : mdlB n D m E = true) (X : List Pk) (A3 : Option Addr) (c3 : Nat) (hX : PickF w A3 X.length c3 (pkO X) (pkV X)) :
    Calls Try.prog 50 #[.agg #[.slice A n c, .slice A2' m c2'], .slice A3 X.length c3] w (IsCh w D n E m X) := by
  obtain ⟨w0, hw0⟩ : ∃ w0, w0 = w.alloc (.cells #[.slice A n c, .slice A2' m c2'] 66) := ⟨_, rfl⟩
  have b0 : Below w.heap.size w w0 := by rw [hw0]; exact (Below.refl _ _).alloc (Nat.le_refl _) _
  have CH := Lib.hid (choices_any w0 A n c D P A2' m c2' E Q (h.call b0) (h2.call b0) hz)
  have X0 := Lib.hid (hX.call b0)
  have B0 := Lib.hid b0
  have W0 := Lib.hid hw0
  have sz0 : w0.heap.size = w.heap.size + 1 := by rw [hw0]; simp
  obtain ⟨hn, _⟩ := mdl_iff.1 hmd
  have HM := Lib.hid hmd
  clear h h2 hX b0 hw0 hz hmd
  go_enter Try.func50, Try.ntmps50
  go_wp2_with fail
  rw [← W0.out]
  refine CH.out.mono ?_; rintro e w1 ⟨v, rfl, hR, b1⟩
  rw [HM.out, if_pos rfl] at hR
  obtain ⟨R, hRe⟩ : ∃ R, R = goodL D n E m := ⟨_, rfl⟩
  rw [← hRe] at hR
  have HRE := Lib.hid hRe
  have RS := Lib.hid (show ∀ Y ∈ R, Y.length ≤ 4 from fun Y hY => choice_small hn (by rw [← hRe]; exact hY))
  have hRl : R.length ≤ 9223372036854775807 := by
    obtain ⟨V, ho, _⟩ := hR
    obtain ⟨_, _, _, hs, _⟩ := ho.slice
    have := hs.le; have := hs.max; omega
  obtain ⟨V, hown, hpk⟩ := hR
  obtain ⟨Ar, cr, rfl, hsl, hfr⟩ := hown.slice
  have FR := Lib.hid hfr
  have SL := Lib.hid hsl
  have PK := Lib.hid hpk
  have X1 := Lib.hid (X0.out.call b1)
  have B1 := Lib.hid (B0.out.trans (b1.mono (by omega)))
  have hw1 := b1.size
  clear hfr hsl hpk hown b1 CH hRe
  go_wp2_with fail
  go_loopw [12] (fun jv wr => ∃ j : Nat, j ≤ R.length ∧ jv = .int .i64 (j : Int) ∧ Hid (X ∉ R.take j) ∧ Below w1.heap.size w1 wr) (fun jv _ => R.length - (intOf jv).toNat)
  case atStart => exact ⟨0, Nat.zero_le _, rfl, Lib.hid (by simp), Below.refl _ _⟩
  case round =>
    obtain ⟨j, hj, rfl, hno, hbe⟩ := hrel
    have BE := Lib.hid hbe
    have esz := hbe.size
    by_cases hlt : j < R.length
    case neg =>
      obtain rfl : j = R.length := by omega
      have hlt' : ¬ (R.length : Int) < (R.length : Int) := by omega
      clear hbe
      go_wp2_with fail
      go_ret
      refine ⟨false, rfl, ?_, B1.out.trans (BE.out.mono (by omega))⟩
      have := hno.out
      rw [List.take_length, HRE.out] at this
      exact ⟨fun h => (by cases h), fun h => absurd h this⟩
    have hlt' : (j : Int) < (R.length : Int) := by omega
    obtain ⟨ar, ao, hAr, hrB, hrc⟩ := SL.out.cell j hlt
    subst hAr
    have hao := (FR.out ar ao rfl).1
    subst hao
    have hrc0 := hrc 0 (by omega)
    obtain ⟨Y, hY⟩ : ∃ Y, Y = R.getD j [] := ⟨_, rfl⟩
    have hYm : Y ∈ R := by rw [hY]; exact getD_mem hlt
    have hYl := RS.out Y hYm
    obtain ⟨gx, cx, hvx, hsx⟩ := (PK.out j hlt).slice
    rw [← hY] at hvx hsx
    have la3 : w1.cell? ⟨ar, j, none⟩ = some (.slice (some ⟨gx, 0, none⟩) Y.length cx) := by
      have := hrc0
      rw [Nat.mul_one, Nat.add_zero, Nat.zero_add] at this
      rw [this]; exact congrArg some hvx
    have ld3 := (hbe.cell (p := ⟨ar, j, none⟩) hrB).trans la3
    have SX := Lib.hid hsx
    have HY := Lib.hid hY
    have HYM := Lib.hid hYm
    have NXT := Lib.hid (show Y ≠ X → X ∉ R.take (j + 1) from fun hne hm => by
      have e : R.take (j + 1) = R.take j ++ [R.getD j []] := by rw [List.take_add_one, List.getD_eq_getElem?_getD, List.getElem?_eq_getElem hlt]; rfl
      rw [e, ← hY, List.mem_append, List.mem_singleton] at hm
      rcases hm with hm | hm
      · exact hno.out hm
      · exact hne hm.symm)
    clear hbe hrc hrc0 hvx hsx hY hYm la3
    obtain ⟨wb, rfl⟩ : ∃ wb, wb = wr := ⟨_, rfl⟩
    obtain ⟨b, hb⟩ : ∃ b : Bool, b = ((Y.length : Int) == (X.length : Int)) := ⟨_, rfl⟩
    have hb' : ((Y.length : Int) == (X.length : Int)) = b := hb.symm
    have I1 := Lib.hid (show b = true → agreeN Y X 0 from fun e => ⟨by rw [e] at hb; simp at hb; omega, fun q hq => absurd hq (by omega)⟩)
    have I2 := Lib.hid (show b = false → Y ≠ X from fun e h => by rw [e, h] at hb; simp at hb)
    clear hb
    go_wp2_with fail
    go_loopw [7, 8] (fun sv iv W => SameR Y X wb sv iv W) (fun _ iv _ => Y.length - (intOf iv).toNat)
    case atStart => exact ⟨b, 0, by simp, rfl, Nat.zero_le _, I1, I2, Below.refl _ _⟩
    case round =>
      clear I1 I2
      obtain ⟨b, i, rfl, rfl, hi, I1, I2, hbw⟩ := hrel
      have BW := Lib.hid hbw
      cases b
      · clear hbw
        go_wp2_with fail
        go_roundw
        case rel => exact ⟨j + 1, by omega, by go_num, Lib.hid (NXT.out (I2.out rfl)), BE.out.trans (BW.out.mono (by omega))⟩
        case measure => simp [intOf]; omega
      by_cases hlt2 : i < Y.length
      case neg =>
        obtain rfl : i = Y.length := by omega
        have hlt2' : ¬ (Y.length : Int) < (Y.length : Int) := by omega
        clear hbw
        go_wp2_with fail
        go_ret
        have e := agree_eq (I1.out (by simp))
        exact ⟨true, rfl, ⟨fun _ => by rw [← HRE.out, ← e]; exact HYM.out, fun _ => rfl⟩, B1.out.trans ((BE.out.trans (BW.out.mono (by omega))).mono (by omega))⟩
      have hlt2' : (i : Int) < (Y.length : Int) := by omega
      have hll := (I1.out (by simp)).1
      have hi2 : i < X.length := by omega
      have hi2' : (i : Int) < (X.length : Int) := by omega
      obtain ⟨bx, ox, rfl, hBx, x0, x1⟩ := X1.out.cells hi2
      obtain ⟨by', oy, hyA, hBy, hyc⟩ := SX.out.cell i hlt2
      injection hyA with hyA
      injection hyA with e1 e2 _
      subst e1; subst e2
      have y0 : wr.cell? ⟨gx, i * 2, none⟩ = some (.string (pkO Y i)) := by
        have := (hbw.cell (p := ⟨gx, 0 + i * 2 + 0, none⟩) (by show gx < _; have : gx < w1.heap.size := hBy; omega)).trans ((BE.out.cell (p := ⟨gx, 0 + i * 2 + 0, none⟩) hBy).trans (hyc 0 (by omega)))
        rw [Nat.add_zero, Nat.zero_add] at this
        exact this
      have y1 : wr.cell? ⟨gx, i * 2 + 1, none⟩ = some (.string (pkV Y i)) := by
        have := (hbw.cell (p := ⟨gx, 0 + i * 2 + 1, none⟩) (by show gx < _; have : gx < w1.heap.size := hBy; omega)).trans ((BE.out.cell (p := ⟨gx, 0 + i * 2 + 1, none⟩) hBy).trans (hyc 1 (by omega)))
        rw [Nat.zero_add] at this
        exact this
      have z0 : wr.cell? ⟨bx, ox + i * 2, none⟩ = some (.string (pkO X i)) := (hbw.cell (p := ⟨bx, ox + i * 2, none⟩) (by show bx < _; omega)).trans ((BE.out.cell (p := ⟨bx, ox + i * 2, none⟩) hBx).trans x0)
      have z1 : wr.cell? ⟨bx, ox + i * 2 + 1, none⟩ = some (.string (pkV X i)) := (hbw.cell (p := ⟨bx, ox + i * 2 + 1, none⟩) (by show bx < _; omega)).trans ((BE.out.cell (p := ⟨bx, ox + i * 2 + 1, none⟩) hBx).trans x1)
      have NE := Lib.hid (show ¬ (pkO Y i = pkO X i ∧ pkV Y i = pkV X i) → Y ≠ X from fun h e => h (by rw [e]; exact ⟨rfl, rfl⟩))
      have EQ := Lib.hid (show pkO Y i = pkO X i ∧ pkV Y i = pkV X i → agreeN Y X (i + 1) from fun h => ⟨hll, fun q hq => by
        by_cases e : q = i
        · subst e; exact h
        · exact (I1.out (by simp)).2 q (by omega)⟩)
      clear hbw hyc x0 x1 I1 I2 hll
      obtain ⟨yo, hyo⟩ : ∃ x, x = pkO Y i := ⟨_, rfl⟩
      obtain ⟨yv, hyv⟩ : ∃ x, x = pkV Y i := ⟨_, rfl⟩
      obtain ⟨xo, hxo⟩ : ∃ x, x = pkO X i := ⟨_, rfl⟩
      obtain ⟨xv, hxv⟩ : ∃ x, x = pkV X i := ⟨_, rfl⟩
      rw [← hyo] at y0 NE EQ
      rw [← hyv] at y1 NE EQ
      rw [← hxo] at z0 NE EQ
      rw [← hxv] at z1 NE EQ
      clear hyo hyv hxo hxv
      by_cases e1 : yo = xo
      · by_cases e2 : yv = xv
        · subst e1; subst e2
          have q1 := txt_same yo
          have q2 := txt_same yv
          go_wp2_with fail
          go_quiet (fail)
          go_wp2_with fail
          go_roundw
          case rel => exact ⟨true, i + 1, by simp, by go_num, by omega, Lib.hid (fun _ => EQ.out (by simp)), Lib.hid (fun e => by cases e), below_drewN BW.out _⟩
          case measure => simp [intOf]; omega
        · have q1 := txt_other e2
          have E2 := Lib.hid e2
          clear e2
          subst e1
          go_wp2_with fail
          go_quiet (fail)
          go_wp2_with fail
          go_roundw
          case rel => exact ⟨false, i + 1, by simp [q1], by go_num, by omega, Lib.hid (fun e => by cases e), Lib.hid (fun _ => NE.out (fun h => E2.out h.2)), below_drewN BW.out _⟩
          case measure => simp [intOf]; omega
      · have q1 := txt_other e1
        have E1 := Lib.hid e1
        clear e1
        go_wp2_with fail
        go_quiet (fail)
        go_wp2_with fail
        go_roundw
        case rel => exact ⟨false, i + 1, by simp [q1], by go_num, by omega, Lib.hid (fun e => by cases e), Lib.hid (fun _ => NE.out (fun h => E1.out h.1)), below_drewN BW.out _⟩
        case measure => simp [intOf]; omega
end Go.Proofs.Ytkkhaamklbolmaa
