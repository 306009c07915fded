/-
  Contract of the program's Holds. (Printed by gen/holds.py.)
-/
import Derived.Test.YtkkhaamklbolmaaEval
namespace Go.Proofs.Ytkkhaamklbolmaa
open Go.RowKit
set_option linter.unusedVariables false
set_option linter.unusedSimpArgs false

theorem boolC_front (l : List Bool) (m : Nat) (hl : m ≤ l.length) (v : Bool) {j q : Nat} (hj : j < m) : boolC l j q = boolC (l.take m ++ [v]) j q := by
  have ht : (l.take m).length = m := by rw [List.length_take]; omega
  simp [boolC, List.getD_eq_getElem?_getD, List.getElem?_append_left (show j < (l.take m).length by omega), List.getElem?_take, hj]
theorem boolC_top (l : List Bool) (m : Nat) (hl : m ≤ l.length) (v : Bool) (q : Nat) : boolC (l.take m ++ [v]) m q = .bool v := by
  have ht : (l.take m).length = m := by rw [List.length_take]; omega
  simp [boolC, List.getD_eq_getElem?_getD, List.getElem?_append_right, ht]
set_option maxRecDepth 20000 in
set_option maxHeartbeats 4000000 in
theorem impl_Holds (w : World) (A : Option Addr) (n c : Nat) (kd : Nat → Int) (op vl : Nat → ByteArray) (h : CondNodeF w A n c kd op vl) (A2 : Option Addr) (m c2 : Nat) (po pv : Nat → ByteArray) (h2 : PickF w A2 m c2 po pv) :
    Calls Try.prog 29 #[.slice A n c, .slice A2 m c2] w fun e w' => e = .returned (.bool (holdsB kd op vl po pv n m)) ∧ Below w.heap.size w w' := by
  have hm := h.le
  have hm2 := h2.le
  have H := Lib.hid h
  have H2 := Lib.hid h2
  clear h h2
  cases hC : isCondB kd op vl n with
  | false =>
    have e : holdsB kd op vl po pv n m = false := by unfold holdsB; rw [hC]; rfl
    rw [e]
    clear e
    go_enter Try.func29, Try.ntmps29
    go_wp2_with fail
    refine (impl_IsCond _ A n c kd op vl H.out).mono ?_; rintro e w2 ⟨rfl, b2⟩
    rw [hC]
    go_wp2_with fail
    go_ret
    exact ⟨rfl, b2⟩
  | true =>
    have e : holdsB kd op vl po pv n m = (stkS kd op vl po pv m n).getD 0 false := by unfold holdsB; rw [hC]; rfl
    rw [e]
    clear e
    obtain ⟨R, hR⟩ : ∃ R, R = (stkS kd op vl po pv m n).getD 0 false := ⟨_, rfl⟩
    rw [← hR]
    have HR := Lib.hid hR
    have HC := Lib.hid hC
    have hn30 := isCondB_le hC
    clear hR
    obtain ⟨i0, hi, hz0, hz1, hz2⟩ := info_parts bool_info
    go_enter Try.func29, Try.ntmps29
    go_wp2_with fail
    refine (impl_IsCond _ A n c kd op vl H.out).mono ?_; rintro e w2 ⟨rfl, b2⟩
    rw [hC]
    clear hC
    have o1 : OwnV w.heap.size (w2.alloc (.cells #[] 4)) 4 1 (.slice (some ⟨w2.heap.size, 0, none⟩) 0 0) 0 (boolC []) := OwnV.lit w2 b2.size _ 1 0 #[] _ (by simp [flat]) (by omega)
    have b1 : Below w.heap.size w (w2.alloc (.cells #[] 4)) := b2.alloc b2.size _
    have O1 := Lib.hid o1
    have B1 := Lib.hid b1
    clear o1 b1 b2
    go_wp2_with fail
    go_loopw [5, 7, 8, 9, 11, 18] (fun ov _ _ _ _ iv wr => ∃ (k : Nat) (l : List Bool), iv = .int .i64 (k : Int) ∧ k ≤ n ∧ l = stkS kd op vl po pv m k ∧ OwnV w.heap.size wr 4 1 ov l.length (boolC l) ∧ Below w.heap.size w wr) (fun _ _ _ _ _ iv _ => n - (intOf iv).toNat)
    case atStart => exact ⟨0, [], rfl, Nat.zero_le _, rfl, O1.out, B1.out⟩
    case round =>
      clear O1 B1
      obtain ⟨k, l, rfl, hk, hl, hown, hbe⟩ := hrel
      obtain ⟨h, hr⟩ := runN_all HC.out hk
      have hlen := stkS_length (po := po) (pv := pv) (m := m) hr
      rw [← hl] at hlen
      have hhk := runN_le hr
      by_cases hlt : k < n
      case neg =>
        obtain rfl : k = n := by omega
        have hlt' : ¬ (k : Int) < (k : Int) := by omega
        have h1 : h = 1 := by
          have := isCondB_end hr hn30
          rw [HC.out] at this
          simp at this
          omega
        obtain ⟨g, co, rfl⟩ := hown.form (by omega)
        have hc := hown.cell (g := g) rfl (j := 0) (q := 0) (by omega) (by omega)
        simp only [boolC, Nat.zero_mul, Nat.add_zero] at hc
        rw [hlen, h1] at *
        rw [hl, ← HR.out] at hc
        have HL := Lib.hid hl
        have HB := Lib.hid hbe
        clear hl hbe hown hr
        go_wp2_with fail
        go_ret
        exact ⟨rfl, HB.out⟩
      obtain ⟨x, hx⟩ := runN_all HC.out (show k + 1 ≤ n by omega)
      have hkind := runN_kind hr hx
      have hlt' : (k : Int) < (n : Int) := by omega
      obtain ⟨b, o, rfl, hB, c0, c1, c3⟩ := (H.out.call hbe).cells hlt
      obtain ⟨a, ha⟩ : ∃ a, a = op k := ⟨_, rfl⟩
      obtain ⟨d, hd⟩ : ∃ d, d = vl k := ⟨_, rfl⟩
      obtain ⟨K, hK⟩ : ∃ K, K = kd k := ⟨_, rfl⟩
      rw [← hK] at c0 hkind
      rw [← ha] at c1
      rw [← hd] at c3
      have hnext : stkS kd op vl po pv m (k + 1) = stkN K (hasP po pv a d m) l := by rw [hl, ha, hd, hK]; rfl
      have NX := Lib.hid hnext
      have HO := Lib.hid hown
      have HB := Lib.hid hbe
      clear hnext hown hbe hl hr hx ha hd hK
      have hl30 : l.length ≤ 30 := by omega
      rcases hkind with ⟨e | e, hx2⟩ | ⟨e, h1, hx2⟩ | ⟨e | e, h1, hx2⟩
      · subst e
        clear hlen
        obtain ⟨Ao, co, rfl, _, _⟩ := HO.out.slice
        have HA4 := Lib.hid ((HO.out.alloc (.cells #[.int .i64 0, .string a, .string d] 54)).congr (fun x y hx hy => boolC_app l true hx))
        have HB4 := Lib.hid (show Below w.heap.size w (wr.alloc (.cells #[.int .i64 0, .string a, .string d] 54)) by have h := HB.out; repeat' (first | (with_reducible exact Below.refl _ _) | assumption | (with_reducible refine below_then (by assumption) ?_ ?_) | (with_reducible refine Below.alloc ?_ ?_ _) | (with_reducible refine below_drewN ?_ _) | (with_reducible refine Below.drew ?_) | (with_reducible refine Below.setCell ?_ ?_ _) | (have := h.size; simp at *; omega) | omega | (simp; done) | (simp; omega)))
        go_wp2_with (at_builtin; refine appS (wr.alloc (.cells #[.int .i64 0, .string a, .string d] 54)) rfl _ _ 86 rfl (B := w.heap.size) (i := i0) (z := .bool false) (s := 1) (bytes := 1) (F := boolC (l ++ [true])) (v := .slice Ao l.length co) (n := l.length) (xs := #[.bool true]) Try.underlying86 hi hz0 hz1 hz2 rfl (by decide) rfl HA4.out HB4.out.size (by show Value.slice (some ⟨wr.heap.size + 1, 0, none⟩) 1 1 = _; simp) (fun q hq => by obtain rfl : q = 0 := (by omega); simp [boolC_new]) (fun q hq => by rw [boolC_new]; rfl) (by omega) (by decide) ?_)
        intro v7 w7 hv7 hg7 hb7
        obtain ⟨A7, p7, rfl, _, _⟩ := hv7.slice
        have B7 := Lib.hid (below_own HB4.out hg7 (fun r hr => (HO.out.lt hr).1) HB4.out.size)
        have V7 := Lib.hid hv7
        clear hv7 hg7 hb7
        go_wp2_with fail
        go_roundw
        case rel => exact ⟨k + 1, _, by go_num, by omega, (NX.out.trans (show stkN 0 _ l = l ++ [true] from rfl)).symm, by rw [List.length_append]; exact V7.out, B7.out⟩
        case measure => simp [intOf]; omega
      · subst e
        clear hlen
        obtain ⟨Ao, co, rfl, _, _⟩ := HO.out.slice
        have PH := Lib.hid (H2.out.call HB.out)
        obtain ⟨wo, rfl⟩ : ∃ wo : World, wo = wr := ⟨_, rfl⟩
        obtain ⟨X, hX⟩ : ∃ X : World, X = (wo.alloc (.cells #[.int .i64 1, .string a, .string d] 54)) := ⟨_, rfl⟩
        have hc0 : (wo.alloc (.cells #[.int .i64 1, .string a, .string d] 54)).cell? ⟨wo.heap.size, 1, none⟩ = some (.string a) := by simp [World.cell?_alloc_new]
        have hc1 : (wo.alloc (.cells #[.int .i64 1, .string a, .string d] 54)).cell? ⟨wo.heap.size, 2, none⟩ = some (.string d) := by simp [World.cell?_alloc_new]
        have hXs : (wo.alloc (.cells #[.int .i64 1, .string a, .string d] 54)).heap.size = wo.heap.size + 1 := by simp
        have HX := Lib.hid hX
        have C0 := Lib.hid hc0
        have C1 := Lib.hid hc1
        have XS := Lib.hid hXs
        have PX := Lib.hid (PH.out.call (show Below wo.heap.size wo (wo.alloc (.cells #[.int .i64 1, .string a, .string d] 54)) from (Below.refl _ _).alloc (Nat.le_refl _) _))
        have HOX := Lib.hid (HO.out.alloc (.cells #[.int .i64 1, .string a, .string d] 54))
        have HBX := Lib.hid (show Below w.heap.size w (wo.alloc (.cells #[.int .i64 1, .string a, .string d] 54)) by have h := HB.out; repeat' (first | (with_reducible exact Below.refl _ _) | assumption | (with_reducible refine below_then (by assumption) ?_ ?_) | (with_reducible refine Below.alloc ?_ ?_ _) | (with_reducible refine below_drewN ?_ _) | (with_reducible refine Below.drew ?_) | (with_reducible refine Below.setCell ?_ ?_ _) | (have := h.size; simp at *; omega) | omega | (simp; done) | (simp; omega)))
        rw [← HX.out] at C0 C1 XS PX HOX HBX
        clear hc0 hc1 hXs hX PH
        go_wp2_with fail
        rw [← HX.out]
        clear HX
        go_loopw [9, 11, 35] (fun sv _ jv wr => ∃ j : Nat, jv = .int .i64 (j : Int) ∧ j ≤ m ∧ sv = .bool (hasP po pv a d j) ∧ Below X.heap.size X wr) (fun _ _ jv _ => m - (intOf jv).toNat)
        case atStart => exact ⟨0, rfl, Nat.zero_le _, rfl, Below.refl _ _⟩
        case round =>
          obtain ⟨j, rfl, hj, rfl, hbx⟩ := hrel
          have c4 : wr.cell? ⟨wo.heap.size, 1, none⟩ = some (.string a) := (hbx.cell (p := ⟨wo.heap.size, 1, none⟩) (by rw [XS.out]; exact Nat.lt_succ_self _)).trans C0.out
          have c5 : wr.cell? ⟨wo.heap.size, 2, none⟩ = some (.string d) := (hbx.cell (p := ⟨wo.heap.size, 2, none⟩) (by rw [XS.out]; exact Nat.lt_succ_self _)).trans C1.out
          have hwo : wo.heap.size < wr.heap.size := by have := hbx.size; rw [XS.out] at this; omega
          have BX := Lib.hid hbx
          clear hbx
          by_cases hjm : j < m
          case pos =>
            have hjm' : (j : Int) < (m : Int) := by omega
            obtain ⟨b9, o9, rfl, hB9, p0, p1⟩ := (PX.out.call BX.out).cells hjm
            have hnx : hasP po pv a d (j + 1) = (hasP po pv a d j || (decide (po j = a) && decide (pv j = d))) := rfl
            obtain ⟨y, hy⟩ : ∃ y, y = po j := ⟨_, rfl⟩
            obtain ⟨z, hz⟩ : ∃ z, z = pv j := ⟨_, rfl⟩
            rw [← hy] at p0 hnx
            rw [← hz] at p1 hnx
            have NJ := Lib.hid hnx
            clear hnx hy hz
            generalize hasP po pv a d j = sj at *
            have c4' := fun o1 => (World.cell?_alloc_lt wr o1 ⟨wo.heap.size, 1, none⟩ hwo).trans c4
            have c5' := fun o1 => (World.cell?_alloc_lt wr o1 ⟨wo.heap.size, 2, none⟩ hwo).trans c5
            cases sj
            case true =>
              have E := Lib.hid (show hasP po pv a d (j + 1) = true by rw [NJ.out]; rfl)
              clear NJ
              go_wp2_with fail
              go_roundw
              case rel => exact ⟨j + 1, by go_num, by omega, by rw [E.out], by have h := BX.out; repeat' (first | (with_reducible exact Below.refl _ _) | assumption | (with_reducible refine below_then (by assumption) ?_ ?_) | (with_reducible refine Below.alloc ?_ ?_ _) | (with_reducible refine below_drewN ?_ _) | (with_reducible refine Below.drew ?_) | (with_reducible refine Below.setCell ?_ ?_ _) | (have := h.size; simp at *; omega) | omega | (simp; done) | (simp; omega))⟩
              case measure => simp [intOf]; omega
            case false =>
              by_cases e1 : y = a
              case pos =>
                subst e1
                have t1 := txt_same y
                by_cases e2 : z = d
                case pos =>
                  subst e2
                  have t2 := txt_same z
                  have E := Lib.hid (show hasP po pv y z (j + 1) = true by rw [NJ.out]; simp)
                  clear NJ
                  go_wp2_with fail
                  go_roundw
                  case rel => exact ⟨j + 1, by go_num, by omega, by rw [E.out], by have h := BX.out; repeat' (first | (with_reducible exact Below.refl _ _) | assumption | (with_reducible refine below_then (by assumption) ?_ ?_) | (with_reducible refine Below.alloc ?_ ?_ _) | (with_reducible refine below_drewN ?_ _) | (with_reducible refine Below.drew ?_) | (with_reducible refine Below.setCell ?_ ?_ _) | (have := h.size; simp at *; omega) | omega | (simp; done) | (simp; omega))⟩
                  case measure => simp [intOf]; omega
                case neg =>
                  have t2 := txt_other e2
                  have E := Lib.hid (show hasP po pv y d (j + 1) = false by rw [NJ.out]; simp [e2])
                  clear NJ e2
                  go_wp2_with fail
                  go_roundw
                  case rel => exact ⟨j + 1, by go_num, by omega, by rw [E.out], by have h := BX.out; repeat' (first | (with_reducible exact Below.refl _ _) | assumption | (with_reducible refine below_then (by assumption) ?_ ?_) | (with_reducible refine Below.alloc ?_ ?_ _) | (with_reducible refine below_drewN ?_ _) | (with_reducible refine Below.drew ?_) | (with_reducible refine Below.setCell ?_ ?_ _) | (have := h.size; simp at *; omega) | omega | (simp; done) | (simp; omega))⟩
                  case measure => simp [intOf]; omega
              case neg =>
                have t1 := txt_other e1
                have E := Lib.hid (show hasP po pv a d (j + 1) = false by rw [NJ.out]; simp [e1])
                clear NJ e1
                go_wp2_with fail
                go_roundw
                case rel => exact ⟨j + 1, by go_num, by omega, by rw [E.out], by have h := BX.out; repeat' (first | (with_reducible exact Below.refl _ _) | assumption | (with_reducible refine below_then (by assumption) ?_ ?_) | (with_reducible refine Below.alloc ?_ ?_ _) | (with_reducible refine below_drewN ?_ _) | (with_reducible refine Below.drew ?_) | (with_reducible refine Below.setCell ?_ ?_ _) | (have := h.size; simp at *; omega) | omega | (simp; done) | (simp; omega))⟩
                case measure => simp [intOf]; omega
          case neg =>
            obtain rfl : j = m := by omega
            have hjm' : ¬ (j : Int) < (j : Int) := by omega
            obtain ⟨hb, hhb⟩ : ∃ hb, hb = hasP po pv a d j := ⟨_, rfl⟩
            rw [← hhb]
            have NN := Lib.hid (NX.out.trans (show stkN 1 _ l = l ++ [hb] by rw [hhb]; rfl))
            have HA4 := Lib.hid ((HOX.out.call BX.out).congr (fun x y hx hy => boolC_app l hb hx))
            have HB4 := Lib.hid (HBX.out.trans (BX.out.mono HBX.out.size))
            clear hhb NX c4 c5 C0 C1
            go_wp2_with (at_builtin; refine appS wr rfl _ _ 86 rfl (B := w.heap.size) (i := i0) (z := .bool false) (s := 1) (bytes := 1) (F := boolC (l ++ [hb])) (v := .slice Ao l.length co) (n := l.length) (xs := #[.bool hb]) Try.underlying86 hi hz0 hz1 hz2 rfl (by decide) rfl HA4.out HB4.out.size rfl (fun q hq => by obtain rfl : q = 0 := (by omega); simp [boolC_new]) (fun q hq => by rw [boolC_new]; rfl) (by omega) (by decide) ?_)
            intro v7 w7 hv7 hg7 hb7
            obtain ⟨A7, p7, rfl, _, _⟩ := hv7.slice
            have B7 := Lib.hid (below_own HB4.out hg7 (fun r hr => (HO.out.lt hr).1) HB4.out.size)
            have V7 := Lib.hid hv7
            clear hv7 hg7 hb7
            go_wp2_with fail
            go_roundw
            case rel => exact ⟨k + 1, _, by go_num, by omega, NN.out.symm, by rw [List.length_append]; exact V7.out, B7.out⟩
            case measure => simp [intOf]; omega
      · subst e
        obtain ⟨j, rfl⟩ : ∃ j, h = j + 1 := ⟨h - 1, by omega⟩
        obtain ⟨g, co, rfl⟩ := HO.out.form (by omega)
        have gl := (HO.out.lt (k := g) rfl).2
        have OX := Lib.hid (HO.out.alloc (.cells #[.int .i64 2, .string a, .string d] 54))
        have cj := OX.out.cell (g := g) rfl (j := j) (q := 0) (by omega) (by omega)
        have fj := OX.out.frozen (g := g) rfl (j * 1 + 0)
        have own2 := ((HO.out.set (g := g) rfl (j := j) (q := 0) (by omega) (by omega) (.bool (!(l.getD j false)))).alloc (.cells #[.int .i64 2, .string a, .string d] 54))
        have OW := Lib.hid (own2.congr (fun a b ha hb => boolC_set l j hlen _ (by omega) hb))
        have BB := Lib.hid ((HB.out.setCell (p := ⟨g, j * 1 + 0, none⟩) (HO.out.lt rfl).1 (.bool (!(l.getD j false)))).alloc (by have := HB.out.size; simpa using this) (.cells #[.int .i64 2, .string a, .string d] 54))
        have N2 := Lib.hid (NX.out.trans (stk2 hlen _))
        simp only [Nat.mul_one, Nat.add_zero, boolC] at cj fj
        simp only [Nat.mul_one, Nat.add_zero] at OW BB
        have LT := Lib.hid (show ∀ x, (l.set j x).length = j + 1 from fun x => by rw [List.length_set]; exact hlen)
        generalize l.getD j false = bj at *
        rw [hlen] at OW ⊢
        clear own2 hlen OX
        go_wp2_with fail
        go_roundw
        case rel => exact ⟨k + 1, l.set j (!bj), by go_num, by omega, N2.out.symm, by rw [LT.out]; exact OW.out, BB.out⟩
        case measure => simp [intOf]; omega
      · subst e
        obtain ⟨j, rfl⟩ : ∃ j, h = j + 2 := ⟨h - 2, by omega⟩
        obtain ⟨g, co, rfl⟩ := HO.out.form (by omega)
        obtain ⟨X, hX⟩ : ∃ X : World, X = (wr.alloc (.cells #[.int .i64 3, .string a, .string d] 54)) := ⟨_, rfl⟩
        have HX := Lib.hid hX
        have OX := Lib.hid (show OwnV w.heap.size X 4 1 _ _ _ by rw [hX]; exact HO.out.alloc (.cells #[.int .i64 3, .string a, .string d] 54))
        have BX := Lib.hid (show Below w.heap.size w X by rw [hX]; have h := HB.out; repeat' (first | (with_reducible exact Below.refl _ _) | assumption | (with_reducible refine below_then (by assumption) ?_ ?_) | (with_reducible refine Below.alloc ?_ ?_ _) | (with_reducible refine below_drewN ?_ _) | (with_reducible refine Below.drew ?_) | (with_reducible refine Below.setCell ?_ ?_ _) | (have := h.size; simp at *; omega) | omega | (simp; done) | (simp; omega)))
        clear hX
        have cj := OX.out.cell (g := g) rfl (j := j) (q := 0) (by omega) (by omega)
        have cj1 := OX.out.cell (g := g) rfl (j := j + 1) (q := 0) (by omega) (by omega)
        have hco : j + 2 ≤ co := by have := HO.out.capLe; omega
        have hcj : ¬ co < j := by omega
        have wj : IntKind.i64.wrap (j : Int) = (j : Int) := IntWalk.i64_in _ ⟨by omega, by omega⟩
        have wj1 : IntKind.i64.wrap ((j + 1 : Nat) : Int) = ((j + 1 : Nat) : Int) := IntWalk.i64_in _ ⟨by omega, by omega⟩
        have N2 := Lib.hid (NX.out.trans (stk3 hlen _))
        simp only [Nat.mul_one, Nat.add_zero, boolC] at cj cj1
        have lt2 : (l.take j).length = j := by rw [List.length_take]; omega
        have LT := Lib.hid lt2
        have FR := Lib.hid (fun v => (OX.out.front (m := j) (by omega)).congr (fun a b ha hb => boolC_front l j (by omega) v ha))
        have TP := Lib.hid (fun v q => boolC_top l j (by omega) v q)
        generalize l.getD j false = bj at *
        generalize l.getD (j + 1) false = bk at *
        rw [hlen] at *
        clear hlen lt2 NX
        have q1 : ((j + 2 : Nat) : Int) - 2 = (j : Int) := by omega
        have q2 : ((j + 2 : Nat) : Int) - 1 = ((j + 1 : Nat) : Int) := by omega
        go_wp2_with fail
        rw [← HX.out]
        clear HX
        cases bj
        all_goals
          refine wp_region_quiet_tailM (C := fun w' => ∃ n, w' = X.drewN n) 4 16 (by kernel_rfl) (by kernel_rfl) (by kernel_rfl) (fun _ _ _ d _ h => by cases d <;> exact h) ⟨1, rfl⟩ ?_
          simp only [List.take_succ_cons, List.take_zero, List.drop_succ_cons, List.drop_zero]
          refine wpFree_step (.slice (some ⟨g, 0, none⟩) (j + 2) co) rfl (fun w => by go_simp) (fun K hK => ?_)
          go_simp
          refine hK _ ?_; clear hK K
          refine wpFree_step (.int .i64 ((j + 2 : Nat) : Int)) rfl (fun w => by go_simp) (fun K hK => ?_)
          go_simp
          refine hK _ ?_; clear hK K
          refine wpFree_step (.int .i64 (j : Int)) rfl (fun w => by go_simp) (fun K hK => ?_)
          go_simp
          refine hK _ ?_; clear hK K
          refine wpFree_step (.slice (some ⟨g, 0, none⟩) j co) rfl (fun w => by go_simp) (fun K hK => ?_)
          go_simp
          refine hK _ ?_; clear hK K
          refine wpFree_nil ?_
          repeat (first | go_big_quiet_step (fail) | quiet_step (fail))
          refine wpQuiet_nil ?_
          rintro w4 ⟨nq, hw4⟩
          have HA4 := Lib.hid (fun v => (show OwnV w.heap.size w4 4 1 (.slice (some ⟨g, 0, none⟩) j co) j (boolC (l.take j ++ [v])) by (rw [hw4]; exact (FR.out v).drewN nq)))
          have HB4 := Lib.hid (show Below w.heap.size w w4 by (rw [hw4]; exact below_drewN BX.out nq))
          clear hw4
        · go_wp2_with (at_builtin; refine appS w4 rfl _ _ 86 rfl (B := w.heap.size) (i := i0) (z := .bool false) (s := 1) (bytes := 1) (F := boolC (l.take j ++ [false])) (v := .slice (some ⟨g, 0, none⟩) j co) (n := j) (xs := #[.bool false]) Try.underlying86 hi hz0 hz1 hz2 rfl (by decide) rfl (HA4.out _) HB4.out.size rfl (fun q hq => by obtain rfl : q = 0 := (by omega); simp [TP.out]) (fun q hq => by rw [TP.out]; rfl) (by omega) (by decide) ?_)
          intro v7 w7 hv7 hg7 hb7
          obtain ⟨A7, p7, rfl, _, _⟩ := hv7.slice
          have B7 := Lib.hid (below_own HB4.out hg7 (fun r hr => ((HA4.out true).lt hr).1) HB4.out.size)
          have V7 := Lib.hid hv7
          clear hv7 hg7 hb7
          go_wp2_with fail
          go_roundw
          case rel => exact ⟨k + 1, _, by go_num, by omega, (N2.out.trans (by rfl)).symm, by rw [List.length_append, LT.out]; exact V7.out, B7.out⟩
          case measure => simp [intOf]; omega
        · go_wp2_with (at_builtin; refine appS w4 rfl _ _ 86 rfl (B := w.heap.size) (i := i0) (z := .bool false) (s := 1) (bytes := 1) (F := boolC (l.take j ++ [bk])) (v := .slice (some ⟨g, 0, none⟩) j co) (n := j) (xs := #[.bool bk]) Try.underlying86 hi hz0 hz1 hz2 rfl (by decide) rfl (HA4.out _) HB4.out.size rfl (fun q hq => by obtain rfl : q = 0 := (by omega); simp [TP.out]) (fun q hq => by rw [TP.out]; rfl) (by omega) (by decide) ?_)
          intro v7 w7 hv7 hg7 hb7
          obtain ⟨A7, p7, rfl, _, _⟩ := hv7.slice
          have B7 := Lib.hid (below_own HB4.out hg7 (fun r hr => ((HA4.out true).lt hr).1) HB4.out.size)
          have V7 := Lib.hid hv7
          clear hv7 hg7 hb7
          go_wp2_with fail
          go_roundw
          case rel => exact ⟨k + 1, _, by go_num, by omega, (N2.out.trans (by rfl)).symm, by rw [List.length_append, LT.out]; exact V7.out, B7.out⟩
          case measure => simp [intOf]; omega
      · subst e
        obtain ⟨j, rfl⟩ : ∃ j, h = j + 2 := ⟨h - 2, by omega⟩
        obtain ⟨g, co, rfl⟩ := HO.out.form (by omega)
        obtain ⟨X, hX⟩ : ∃ X : World, X = (wr.alloc (.cells #[.int .i64 4, .string a, .string d] 54)) := ⟨_, rfl⟩
        have HX := Lib.hid hX
        have OX := Lib.hid (show OwnV w.heap.size X 4 1 _ _ _ by rw [hX]; exact HO.out.alloc (.cells #[.int .i64 4, .string a, .string d] 54))
        have BX := Lib.hid (show Below w.heap.size w X by rw [hX]; have h := HB.out; repeat' (first | (with_reducible exact Below.refl _ _) | assumption | (with_reducible refine below_then (by assumption) ?_ ?_) | (with_reducible refine Below.alloc ?_ ?_ _) | (with_reducible refine below_drewN ?_ _) | (with_reducible refine Below.drew ?_) | (with_reducible refine Below.setCell ?_ ?_ _) | (have := h.size; simp at *; omega) | omega | (simp; done) | (simp; omega)))
        clear hX
        have cj := OX.out.cell (g := g) rfl (j := j) (q := 0) (by omega) (by omega)
        have cj1 := OX.out.cell (g := g) rfl (j := j + 1) (q := 0) (by omega) (by omega)
        have hco : j + 2 ≤ co := by have := HO.out.capLe; omega
        have hcj : ¬ co < j := by omega
        have wj : IntKind.i64.wrap (j : Int) = (j : Int) := IntWalk.i64_in _ ⟨by omega, by omega⟩
        have wj1 : IntKind.i64.wrap ((j + 1 : Nat) : Int) = ((j + 1 : Nat) : Int) := IntWalk.i64_in _ ⟨by omega, by omega⟩
        have N2 := Lib.hid (NX.out.trans (stk4 hlen _))
        simp only [Nat.mul_one, Nat.add_zero, boolC] at cj cj1
        have lt2 : (l.take j).length = j := by rw [List.length_take]; omega
        have LT := Lib.hid lt2
        have FR := Lib.hid (fun v => (OX.out.front (m := j) (by omega)).congr (fun a b ha hb => boolC_front l j (by omega) v ha))
        have TP := Lib.hid (fun v q => boolC_top l j (by omega) v q)
        generalize l.getD j false = bj at *
        generalize l.getD (j + 1) false = bk at *
        rw [hlen] at *
        clear hlen lt2 NX
        have q1 : ((j + 2 : Nat) : Int) - 2 = (j : Int) := by omega
        have q2 : ((j + 2 : Nat) : Int) - 1 = ((j + 1 : Nat) : Int) := by omega
        go_wp2_with fail
        rw [← HX.out]
        clear HX
        cases bj
        all_goals
          refine wp_region_quiet_tailM (C := fun w' => ∃ n, w' = X.drewN n) 4 16 (by kernel_rfl) (by kernel_rfl) (by kernel_rfl) (fun _ _ _ d _ h => by cases d <;> exact h) ⟨1, rfl⟩ ?_
          simp only [List.take_succ_cons, List.take_zero, List.drop_succ_cons, List.drop_zero]
          refine wpFree_step (.slice (some ⟨g, 0, none⟩) (j + 2) co) rfl (fun w => by go_simp) (fun K hK => ?_)
          go_simp
          refine hK _ ?_; clear hK K
          refine wpFree_step (.int .i64 ((j + 2 : Nat) : Int)) rfl (fun w => by go_simp) (fun K hK => ?_)
          go_simp
          refine hK _ ?_; clear hK K
          refine wpFree_step (.int .i64 (j : Int)) rfl (fun w => by go_simp) (fun K hK => ?_)
          go_simp
          refine hK _ ?_; clear hK K
          refine wpFree_step (.slice (some ⟨g, 0, none⟩) j co) rfl (fun w => by go_simp) (fun K hK => ?_)
          go_simp
          refine hK _ ?_; clear hK K
          refine wpFree_nil ?_
          repeat (first | go_big_quiet_step (fail) | quiet_step (fail))
          refine wpQuiet_nil ?_
          rintro w4 ⟨nq, hw4⟩
          have HA4 := Lib.hid (fun v => (show OwnV w.heap.size w4 4 1 (.slice (some ⟨g, 0, none⟩) j co) j (boolC (l.take j ++ [v])) by (rw [hw4]; exact (FR.out v).drewN nq)))
          have HB4 := Lib.hid (show Below w.heap.size w w4 by (rw [hw4]; exact below_drewN BX.out nq))
          clear hw4
        · go_wp2_with (at_builtin; refine appS w4 rfl _ _ 86 rfl (B := w.heap.size) (i := i0) (z := .bool false) (s := 1) (bytes := 1) (F := boolC (l.take j ++ [bk])) (v := .slice (some ⟨g, 0, none⟩) j co) (n := j) (xs := #[.bool bk]) Try.underlying86 hi hz0 hz1 hz2 rfl (by decide) rfl (HA4.out _) HB4.out.size rfl (fun q hq => by obtain rfl : q = 0 := (by omega); simp [TP.out]) (fun q hq => by rw [TP.out]; rfl) (by omega) (by decide) ?_)
          intro v7 w7 hv7 hg7 hb7
          obtain ⟨A7, p7, rfl, _, _⟩ := hv7.slice
          have B7 := Lib.hid (below_own HB4.out hg7 (fun r hr => ((HA4.out true).lt hr).1) HB4.out.size)
          have V7 := Lib.hid hv7
          clear hv7 hg7 hb7
          go_wp2_with fail
          go_roundw
          case rel => exact ⟨k + 1, _, by go_num, by omega, (N2.out.trans (by rfl)).symm, by rw [List.length_append, LT.out]; exact V7.out, B7.out⟩
          case measure => simp [intOf]; omega
        · go_wp2_with (at_builtin; refine appS w4 rfl _ _ 86 rfl (B := w.heap.size) (i := i0) (z := .bool false) (s := 1) (bytes := 1) (F := boolC (l.take j ++ [true])) (v := .slice (some ⟨g, 0, none⟩) j co) (n := j) (xs := #[.bool true]) Try.underlying86 hi hz0 hz1 hz2 rfl (by decide) rfl (HA4.out _) HB4.out.size rfl (fun q hq => by obtain rfl : q = 0 := (by omega); simp [TP.out]) (fun q hq => by rw [TP.out]; rfl) (by omega) (by decide) ?_)
          intro v7 w7 hv7 hg7 hb7
          obtain ⟨A7, p7, rfl, _, _⟩ := hv7.slice
          have B7 := Lib.hid (below_own HB4.out hg7 (fun r hr => ((HA4.out true).lt hr).1) HB4.out.size)
          have V7 := Lib.hid hv7
          clear hv7 hg7 hb7
          go_wp2_with fail
          go_roundw
          case rel => exact ⟨k + 1, _, by go_num, by omega, (N2.out.trans (by rfl)).symm, by rw [List.length_append, LT.out]; exact V7.out, B7.out⟩
          case measure => simp [intOf]; omega
end Go.Proofs.Ytkkhaamklbolmaa
