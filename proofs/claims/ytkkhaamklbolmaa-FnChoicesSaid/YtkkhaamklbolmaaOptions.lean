/-
  The options that a condition asks for; contracts of the reference's and the program's OptionsIn. (Printed by gen/options.py.)
-/
import Derived.Test.YtkkhaamklbolmaaIsCond
import Derived.Test.YtkkhaamklbolmaaFind
namespace Go.Proofs.Ytkkhaamklbolmaa
open Go.RowKit
set_option linter.unusedVariables false
set_option linter.unusedSimpArgs false

/-- what a list of texts holds in its cells -/
def lstC (l : List ByteArray) (j q : Nat) : Value := .string (l.getD j ByteArray.empty)
theorem lstC_app (l : List ByteArray) (x : ByteArray) {j q : Nat} (h : j < l.length) : lstC l j q = lstC (l ++ [x]) j q := by
  simp [lstC, List.getD_eq_getElem?_getD, List.getElem?_append_left h]
theorem lstC_new (l : List ByteArray) (x : ByteArray) (q : Nat) : lstC (l ++ [x]) l.length q = .string x := by
  simp [lstC, List.getD_eq_getElem?_getD]
def lstF (l : List ByteArray) (i : Nat) : ByteArray := l.getD i ByteArray.empty
theorem lst_strs {w : World} {A : Option Addr} {cap : Nat} {l : List ByteArray} (h : SliceF w A l.length cap 1 (lstC l)) (hz : ∀ x ∈ l, x.size ≤ 9223372036854775807) : StrsF w A l.length cap (lstF l) :=
  ⟨h.congr (fun _ _ _ _ => rfl), fun i hi => by
    unfold lstF
    rw [List.getD_eq_getElem?_getD, List.getElem?_eq_getElem hi]
    exact hz _ (List.getElem_mem hi)⟩
theorem str_type : ∃ i, Try.prog.info? 9 = some i ∧ i.zero = some (.string ByteArray.empty) ∧ i.size = 1 ∧ i.bytes = 16 := by
  have h := str_info
  obtain ⟨i, hi, h2⟩ := Option.map_eq_some_iff.1 h
  injection h2 with h2 h3
  injection h3 with h3 h4
  exact ⟨i, hi, h2, h3, h4⟩
/-- the options among the first nodes, each once -/
def optsL (kd : Nat → Int) (op : Nat → ByteArray) : Nat → List ByteArray
  | 0 => []
  | k + 1 => if kd k = 1 ∧ fndV (lstF (optsL kd op k)) (op k) (optsL kd op k).length < 0 then optsL kd op k ++ [op k] else optsL kd op k
def optsOf (kd : Nat → Int) (op vl : Nat → ByteArray) (n : Nat) : List ByteArray := if isCondB kd op vl n = true then optsL kd op n else []
theorem optsL_le (kd : Nat → Int) (op : Nat → ByteArray) : ∀ k, (optsL kd op k).length ≤ k
  | 0 => Nat.le_refl _
  | k + 1 => by
    have ih := optsL_le kd op k
    unfold optsL
    split
    · rw [List.length_append]; simp; omega
    · omega
theorem optsL_yes {kd : Nat → Int} {op : Nat → ByteArray} {k : Nat} (h : kd k = 1) (h2 : fndV (lstF (optsL kd op k)) (op k) (optsL kd op k).length < 0) : optsL kd op (k + 1) = optsL kd op k ++ [op k] := by
  conv => lhs; unfold optsL
  rw [if_pos ⟨h, h2⟩]
theorem optsL_no {kd : Nat → Int} {op : Nat → ByteArray} {k : Nat} (h : ¬ (kd k = 1 ∧ fndV (lstF (optsL kd op k)) (op k) (optsL kd op k).length < 0)) : optsL kd op (k + 1) = optsL kd op k := by
  conv => lhs; unfold optsL
  rw [if_neg h]
theorem isCondB_le {kd : Nat → Int} {op vl : Nat → ByteArray} {n : Nat} (h : isCondB kd op vl n = true) : n ≤ 30 := by
  unfold isCondB at h
  simp at h
  exact h.1
theorem isCondB_pos {kd : Nat → Int} {op vl : Nat → ByteArray} {n : Nat} (h : isCondB kd op vl n = true) : n ≠ 0 := by
  rintro rfl
  unfold isCondB runN at h
  simp at h
/-- what OptionsIn gives -/
def OptPost (w : World) (L : List ByteArray) (e : Ending) (w' : World) : Prop := ∃ v, e = .returned v ∧ OwnV w.heap.size w' 9 1 v L.length (lstC L) ∧ Below w.heap.size w w'

set_option maxRecDepth 20000 in
set_option maxHeartbeats 2000000 in
theorem spec_OptionsIn (w : World) (A : Option Addr) (n c : Nat) (kd : Nat → Int) (op vl : Nat → ByteArray) (h : CondNodeF w A n c kd op vl) :
    Calls Try.prog 18 #[.slice A n c] w (OptPost w (optsOf kd op vl n)) := by
  have hm := h.le
  have H := Lib.hid h
  clear h
  obtain ⟨i0, hi, hz0, hz1', hz2⟩ := str_type
  have o1 : OwnV w.heap.size (w.alloc (.cells #[] 9)) 9 1 (.slice (some ⟨w.heap.size, 0, none⟩) 0 0) 0 (lstC []) := OwnV.lit w (Nat.le_refl _) _ 1 0 #[] _ (by simp [flat]) (by omega)
  have b1 : Below w.heap.size w (w.alloc (.cells #[] 9)) := (Below.refl _ _).alloc (Nat.le_refl _) _
  cases hC : isCondB kd op vl n with
  | false =>
    have hL : optsOf kd op vl n = [] := by unfold optsOf; rw [hC]; rfl
    have O1 := Lib.hid o1
    have B1 := Lib.hid b1
    clear o1 b1
    rw [hL]
    clear hL
    go_enter Try.func18, Try.ntmps18
    go_wp2_with fail
    go_loopw [3, 4] (fun ov iv wr => ov = .slice (some ⟨w.heap.size, 0, none⟩) 0 0 ∧ iv = .int .i64 0 ∧ wr = w.alloc (.cells #[] 9)) (fun _ _ _ => 0)
    case atStart => exact ⟨rfl, rfl, rfl⟩
    case round =>
      obtain ⟨rfl, rfl, rfl⟩ := hrel
      by_cases h0 : 0 < n
      · have h0' : (0 : Int) < (n : Int) := by omega
        go_wp2_with fail
        refine (spec_IsCond _ A n c kd op vl (H.out.call B1.out)).mono ?_; rintro e w2 ⟨rfl, b2⟩
        rw [hC]
        have O2 := Lib.hid (O1.out.call b2)
        have B2 := Lib.hid (B1.out.trans (b2.mono B1.out.size))
        clear b2
        go_wp2_with fail
        go_ret
        exact ⟨_, rfl, O2.out, B2.out⟩
      · have h0' : ¬ (0 : Int) < (n : Int) := by omega
        go_wp2_with fail
        go_ret
        exact ⟨_, rfl, O1.out, B1.out⟩
  | true =>
    have hL : optsOf kd op vl n = optsL kd op n := by unfold optsOf; rw [hC]; rfl
    have hn30 := isCondB_le hC
    have O1 := Lib.hid o1
    have B1 := Lib.hid b1
    clear o1 b1
    rw [hL]
    clear hL
    go_enter Try.func18, Try.ntmps18
    go_wp2_with fail
    go_loopw [3, 4] (fun ov iv wr => ∃ k : Nat, iv = .int .i64 (k : Int) ∧ k ≤ n ∧ (∀ x ∈ optsL kd op k, x.size ≤ 9223372036854775807) ∧ OwnV w.heap.size wr 9 1 ov (optsL kd op k).length (lstC (optsL kd op k)) ∧ Below w.heap.size w wr) (fun _ iv _ => n - (intOf iv).toNat)
    case atStart => exact ⟨0, rfl, Nat.zero_le _, fun x h => by simp [optsL] at h, O1.out, B1.out⟩
    case round =>
      obtain ⟨k, rfl, hk, hsz, hown, hbe⟩ := hrel
      have hlen := optsL_le kd op k
      obtain ⟨Ao, co, rfl, hS, _⟩ := hown.slice
      have SZ := Lib.hid hsz
      have HO := Lib.hid hown
      have HB := Lib.hid hbe
      clear hsz hown hbe hS
      by_cases hlt : k < n
      case neg =>
        obtain rfl : k = n := by omega
        have hlt' : ¬ (k : Int) < (k : Int) := by omega
        go_wp2_with fail
        go_ret
        exact ⟨_, rfl, HO.out, HB.out⟩
      have hlt' : (k : Int) < (n : Int) := by omega
      go_wp2_with fail
      refine (spec_IsCond _ A n c kd op vl (H.out.call HB.out)).mono ?_; rintro e w3 ⟨rfl, b3⟩
      rw [hC]
      have O3 := Lib.hid (HO.out.call b3)
      have B3 := Lib.hid (HB.out.trans (b3.mono HB.out.size))
      clear b3 HO HB
      obtain ⟨b, o, rfl, hB, c0, c1, c2⟩ := (H.out.call B3.out).cells hlt
      have hz := H.out.z_op k hlt
      obtain ⟨a, ha⟩ : ∃ a, a = op k := ⟨_, rfl⟩
      rw [← ha] at c1 hz
      obtain ⟨K, hK⟩ : ∃ K, K = kd k := ⟨_, rfl⟩
      rw [← hK] at c0
      obtain ⟨L, hL⟩ : ∃ L, L = optsL kd op k := ⟨_, rfl⟩
      have hyes : K = 1 → fndV (lstF L) a L.length < 0 → optsL kd op (k + 1) = L ++ [a] := fun h1 h2 => by
        rw [hL, ha] at *; exact optsL_yes (hK ▸ h1) h2
      have hno : ¬ (K = 1 ∧ fndV (lstF L) a L.length < 0) → optsL kd op (k + 1) = L := fun h => by
        rw [hL, ha, hK] at *; exact optsL_no h
      have hszL : ∀ x ∈ L, x.size ≤ 9223372036854775807 := by rw [hL]; exact SZ.out
      have OL := Lib.hid (show OwnV w.heap.size w3 9 1 (.slice Ao L.length co) L.length (lstC L) by rw [hL]; exact O3.out)
      rw [← hL] at hlen ⊢
      have YES := Lib.hid hyes
      have NO := Lib.hid hno
      have ZL := Lib.hid hszL
      clear hyes hno hszL hL ha hK SZ O3
      have NEXT := Lib.hid (show ∀ x ∈ L ++ [a], x.size ≤ 9223372036854775807 from fun x hx => by
        rcases List.mem_append.1 hx with h | h
        · exact ZL.out x h
        · obtain rfl := List.mem_singleton.1 h; exact hz)
      by_cases hK1 : K = 1
      case neg =>
        have q1 : (K == 1) = false := by simp [hK1]
        have e := NO.out (fun h => hK1 h.1)
        have E := Lib.hid e
        clear e hK1
        go_wp2_with fail
        go_roundw
        case rel => exact ⟨k + 1, by go_num, by omega, by rw [E.out]; exact ZL.out, by rw [E.out]; have h := OL.out; repeat' (first | (with_reducible assumption) | (with_reducible refine OwnV.alloc ?_ _) | (with_reducible refine OwnV.far ?_ ?_ _) | omega | (simp; done) | (simp; omega)), by have h := B3.out; repeat' (first | (with_reducible exact Below.refl _ _) | assumption | (with_reducible refine below_then (by assumption) ?_ ?_) | (with_reducible refine Below.alloc ?_ ?_ _) | (with_reducible refine below_drewN ?_ _) | (with_reducible refine Below.drew ?_) | (with_reducible refine Below.setCell ?_ ?_ _) | (have := h.size; simp at *; omega) | omega | (simp; done) | (simp; omega))⟩
        case measure => simp [intOf]; omega
      subst hK1
      obtain ⟨z, hzz⟩ : ∃ z, z = fndV (lstF L) a L.length := ⟨_, rfl⟩
      have YES2 := Lib.hid (YES.out rfl)
      have NO2 := Lib.hid (show ¬ fndV (lstF L) a L.length < 0 → optsL kd op (k + 1) = L from fun h => NO.out (fun k => h k.2))
      have BD := fndV_bd (f := lstF L) (s := a) L.length
      have FND := Lib.hid (fun (W : World) (hS : StrsF W Ao L.length co (lstF L)) => l1Find_any W Ao L.length co (lstF L) a hS)
      rw [← hzz] at YES2 NO2 FND BD
      clear hzz YES NO
      have SF := Lib.hid (fun (W : World) (o : OwnV w.heap.size W 9 1 (.slice Ao L.length co) L.length (lstC L)) => (by
        obtain ⟨A2, c2, e2, hS2, _⟩ := o.slice
        injection e2 with e2 e3 e4
        subst e2; subst e4
        exact lst_strs hS2 ZL.out : StrsF W Ao L.length co (lstF L)))
      by_cases hz1 : z < 0
      case pos =>
        have e := YES2.out hz1
        have E := Lib.hid e
        clear e
        go_wp2_with fail
        refine (FND.out _ (SF.out _ (by have h := OL.out; repeat' (first | (with_reducible assumption) | (with_reducible refine OwnV.alloc ?_ _) | (with_reducible refine OwnV.far ?_ ?_ _) | omega | (simp; done) | (simp; omega))))).mono ?_; rintro e w4 ⟨rfl, hw4⟩; obtain rfl := hw4.symm
        go_wp2_with (at_builtin; refine appS w3 rfl _ _ 29 rfl (B := w.heap.size) (i := i0) (z := .string ByteArray.empty) (s := 1) (bytes := 16) (F := lstC (L ++ [a])) (v := .slice Ao L.length co) (n := L.length) (xs := #[.string a]) Try.underlying29 hi hz0 hz1' hz2 rfl (by decide) rfl (OL.out.congr (fun a b ha hb => lstC_app _ _ ha)) B3.out.size rfl (fun q hq => by obtain rfl : q = 0 := (by omega); simp [lstC_new]) (fun q hq => by rw [lstC_new]; rfl) (by omega) (by decide) ?_)
        intro v7 w7 hv7 hg7 hb7
        obtain ⟨A7, p7, rfl, _, _⟩ := hv7.slice
        have B7 := Lib.hid (below_own B3.out hg7 (fun r hr => (OL.out.lt hr).1) B3.out.size)
        have V7 := Lib.hid hv7
        clear hv7 hg7 hb7
        go_wp2_with fail
        go_roundw
        case rel => exact ⟨k + 1, by go_num, by omega, by rw [E.out]; exact NEXT.out, by rw [E.out, List.length_append]; exact V7.out, B7.out⟩
        case measure => simp [intOf]; omega
      case neg =>
        have e := NO2.out hz1
        have E := Lib.hid e
        clear e
        go_wp2_with fail
        refine (FND.out _ (SF.out _ (by have h := OL.out; repeat' (first | (with_reducible assumption) | (with_reducible refine OwnV.alloc ?_ _) | (with_reducible refine OwnV.far ?_ ?_ _) | omega | (simp; done) | (simp; omega))))).mono ?_; rintro e w4 ⟨rfl, hw4⟩; obtain rfl := hw4.symm
        go_wp2_with fail
        go_roundw
        case rel => exact ⟨k + 1, by go_num, by omega, by rw [E.out]; exact ZL.out, by rw [E.out]; have h := OL.out; repeat' (first | (with_reducible assumption) | (with_reducible refine OwnV.alloc ?_ _) | (with_reducible refine OwnV.far ?_ ?_ _) | omega | (simp; done) | (simp; omega)), by have h := B3.out; repeat' (first | (with_reducible exact Below.refl _ _) | assumption | (with_reducible refine below_then (by assumption) ?_ ?_) | (with_reducible refine Below.alloc ?_ ?_ _) | (with_reducible refine below_drewN ?_ _) | (with_reducible refine Below.drew ?_) | (with_reducible refine Below.setCell ?_ ?_ _) | (have := h.size; simp at *; omega) | omega | (simp; done) | (simp; omega))⟩
        case measure => simp [intOf]; omega
set_option maxRecDepth 20000 in
set_option maxHeartbeats 2000000 in
theorem impl_OptionsIn (w : World) (A : Option Addr) (n c : Nat) (kd : Nat → Int) (op vl : Nat → ByteArray) (h : CondNodeF w A n c kd op vl) :
    Calls Try.prog 19 #[.slice A n c] w (OptPost w (optsOf kd op vl n)) := by
  have hm := h.le
  have H := Lib.hid h
  clear h
  obtain ⟨i0, hi, hz0, hz1', hz2⟩ := str_type
  have o1 : OwnV w.heap.size (w.alloc (.cells #[] 9)) 9 1 (.slice (some ⟨w.heap.size, 0, none⟩) 0 0) 0 (lstC []) := OwnV.lit w (Nat.le_refl _) _ 1 0 #[] _ (by simp [flat]) (by omega)
  have b1 : Below w.heap.size w (w.alloc (.cells #[] 9)) := (Below.refl _ _).alloc (Nat.le_refl _) _
  cases hC : isCondB kd op vl n with
  | false =>
    have hL : optsOf kd op vl n = [] := by unfold optsOf; rw [hC]; rfl
    have O1 := Lib.hid o1
    have B1 := Lib.hid b1
    clear o1 b1
    rw [hL]
    clear hL
    go_enter Try.func19, Try.ntmps19
    go_wp2_with fail
    refine (impl_IsCond _ A n c kd op vl (H.out.call B1.out)).mono ?_; rintro e w2 ⟨rfl, b2⟩
    rw [hC]
    have O2 := Lib.hid (O1.out.call b2)
    have B2 := Lib.hid (B1.out.trans (b2.mono B1.out.size))
    clear b2
    go_wp2_with fail
    go_ret
    exact ⟨_, rfl, O2.out, B2.out⟩
  | true =>
    have hL : optsOf kd op vl n = optsL kd op n := by unfold optsOf; rw [hC]; rfl
    have hn30 := isCondB_le hC
    have O1 := Lib.hid o1
    have B1 := Lib.hid b1
    clear o1 b1
    rw [hL]
    clear hL
    go_enter Try.func19, Try.ntmps19
    go_wp2_with fail
    refine (impl_IsCond _ A n c kd op vl (H.out.call B1.out)).mono ?_; rintro e w2 ⟨rfl, b2⟩
    rw [hC]
    have O2 := Lib.hid (O1.out.call b2)
    have B2 := Lib.hid (B1.out.trans (b2.mono B1.out.size))
    clear b2 O1 B1
    go_wp2_with fail
    go_loopw [3, 5, 13] (fun ov _ iv wr => ∃ k : Nat, iv = .int .i64 (k : Int) ∧ k ≤ n ∧ (∀ x ∈ optsL kd op k, x.size ≤ 9223372036854775807) ∧ OwnV w.heap.size wr 9 1 ov (optsL kd op k).length (lstC (optsL kd op k)) ∧ Below w.heap.size w wr) (fun _ _ iv _ => n - (intOf iv).toNat)
    case atStart => exact ⟨0, rfl, Nat.zero_le _, fun x h => by simp [optsL] at h, O2.out, B2.out⟩
    case round =>
      obtain ⟨k, rfl, hk, hsz, hown, hbe⟩ := hrel
      have hlen := optsL_le kd op k
      obtain ⟨Ao, co, rfl, hS, _⟩ := hown.slice
      have SZ := Lib.hid hsz
      have HO := Lib.hid hown
      have HB := Lib.hid hbe
      clear hsz hown hbe hS
      by_cases hlt : k < n
      case neg =>
        obtain rfl : k = n := by omega
        have hlt' : ¬ (k : Int) < (k : Int) := by omega
        go_wp2_with fail
        go_ret
        exact ⟨_, rfl, HO.out, HB.out⟩
      have hlt' : (k : Int) < (n : Int) := by omega
      obtain ⟨b, o, rfl, hB, c0, c1, c2⟩ := (H.out.call HB.out).cells hlt

      have hz := H.out.z_op k hlt
      obtain ⟨a, ha⟩ : ∃ a, a = op k := ⟨_, rfl⟩
      rw [← ha] at c1 hz
      obtain ⟨K, hK⟩ : ∃ K, K = kd k := ⟨_, rfl⟩
      rw [← hK] at c0
      obtain ⟨L, hL⟩ : ∃ L, L = optsL kd op k := ⟨_, rfl⟩
      have hyes : K = 1 → fndV (lstF L) a L.length < 0 → optsL kd op (k + 1) = L ++ [a] := fun h1 h2 => by
        rw [hL, ha] at *; exact optsL_yes (hK ▸ h1) h2
      have hno : ¬ (K = 1 ∧ fndV (lstF L) a L.length < 0) → optsL kd op (k + 1) = L := fun h => by
        rw [hL, ha, hK] at *; exact optsL_no h
      have hszL : ∀ x ∈ L, x.size ≤ 9223372036854775807 := by rw [hL]; exact SZ.out
      have OL := Lib.hid (show OwnV w.heap.size wr 9 1 (.slice Ao L.length co) L.length (lstC L) by rw [hL]; exact HO.out)
      rw [← hL] at hlen ⊢
      have YES := Lib.hid hyes
      have NO := Lib.hid hno
      have ZL := Lib.hid hszL
      clear hyes hno hszL hL ha hK SZ HO
      have NEXT := Lib.hid (show ∀ x ∈ L ++ [a], x.size ≤ 9223372036854775807 from fun x hx => by
        rcases List.mem_append.1 hx with h | h
        · exact ZL.out x h
        · obtain rfl := List.mem_singleton.1 h; exact hz)
      by_cases hK1 : K = 1
      case neg =>
        have q1 : (K == 1) = false := by simp [hK1]
        have e := NO.out (fun h => hK1 h.1)
        have E := Lib.hid e
        clear e hK1
        go_wp2_with fail
        go_roundw
        case rel => exact ⟨k + 1, by go_num, by omega, by rw [E.out]; exact ZL.out, by rw [E.out]; have h := OL.out; repeat' (first | (with_reducible assumption) | (with_reducible refine OwnV.alloc ?_ _) | (with_reducible refine OwnV.far ?_ ?_ _) | omega | (simp; done) | (simp; omega)), by have h := HB.out; repeat' (first | (with_reducible exact Below.refl _ _) | assumption | (with_reducible refine below_then (by assumption) ?_ ?_) | (with_reducible refine Below.alloc ?_ ?_ _) | (with_reducible refine below_drewN ?_ _) | (with_reducible refine Below.drew ?_) | (with_reducible refine Below.setCell ?_ ?_ _) | (have := h.size; simp at *; omega) | omega | (simp; done) | (simp; omega))⟩
        case measure => simp [intOf]; omega
      subst hK1
      obtain ⟨z, hzz⟩ : ∃ z, z = fndV (lstF L) a L.length := ⟨_, rfl⟩
      have YES2 := Lib.hid (YES.out rfl)
      have NO2 := Lib.hid (show ¬ fndV (lstF L) a L.length < 0 → optsL kd op (k + 1) = L from fun h => NO.out (fun k => h k.2))
      have BD := fndV_bd (f := lstF L) (s := a) L.length
      have FND := Lib.hid (fun (W : World) (hS : StrsF W Ao L.length co (lstF L)) => indexOf_any W Ao L.length co (lstF L) a hS)
      rw [← hzz] at YES2 NO2 FND BD
      clear hzz YES NO
      have SF := Lib.hid (fun (W : World) (o : OwnV w.heap.size W 9 1 (.slice Ao L.length co) L.length (lstC L)) => (by
        obtain ⟨A2, c2, e2, hS2, _⟩ := o.slice
        injection e2 with e2 e3 e4
        subst e2; subst e4
        exact lst_strs hS2 ZL.out : StrsF W Ao L.length co (lstF L)))
      by_cases hz1 : z < 0
      case pos =>
        have e := YES2.out hz1
        have E := Lib.hid e
        clear e
        go_wp2_with fail
        refine (FND.out _ (SF.out _ (by have h := OL.out; repeat' (first | (with_reducible assumption) | (with_reducible refine OwnV.alloc ?_ _) | (with_reducible refine OwnV.far ?_ ?_ _) | omega | (simp; done) | (simp; omega))))).mono ?_; rintro e w4 ⟨rfl, hw4⟩; obtain rfl := hw4.symm
        go_wp2_with (at_builtin; refine appS (wr.alloc (.cells #[.int .i64 1, .string a, .string (vl k)] 54)) rfl _ _ 29 rfl (B := w.heap.size) (i := i0) (z := .string ByteArray.empty) (s := 1) (bytes := 16) (F := lstC (L ++ [a])) (v := .slice Ao L.length co) (n := L.length) (xs := #[.string a]) Try.underlying29 hi hz0 hz1' hz2 rfl (by decide) rfl ((OL.out.alloc _).congr (fun a b ha hb => lstC_app _ _ ha)) (by have h := HB.out.size; simp; omega) (by show Value.slice (some ⟨wr.heap.size + 1, 0, none⟩) 1 1 = _; simp) (fun q hq => by obtain rfl : q = 0 := (by omega); simp [lstC_new]) (fun q hq => by rw [lstC_new]; rfl) (by omega) (by decide) ?_)
        intro v7 w7 hv7 hg7 hb7
        obtain ⟨A7, p7, rfl, _, _⟩ := hv7.slice
        have B7 := Lib.hid (below_own (B := w.heap.size) (a := w) (HB.out.alloc HB.out.size _) hg7 (fun r hr => (OL.out.lt hr).1) (by have h := HB.out.size; simp; omega))
        have V7 := Lib.hid hv7
        clear hv7 hg7 hb7
        go_wp2_with fail
        go_roundw
        case rel => exact ⟨k + 1, by go_num, by omega, by rw [E.out]; exact NEXT.out, by rw [E.out, List.length_append]; exact V7.out, B7.out⟩
        case measure => simp [intOf]; omega
      case neg =>
        have e := NO2.out hz1
        have E := Lib.hid e
        clear e
        go_wp2_with fail
        refine (FND.out _ (SF.out _ (by have h := OL.out; repeat' (first | (with_reducible assumption) | (with_reducible refine OwnV.alloc ?_ _) | (with_reducible refine OwnV.far ?_ ?_ _) | omega | (simp; done) | (simp; omega))))).mono ?_; rintro e w4 ⟨rfl, hw4⟩; obtain rfl := hw4.symm
        go_wp2_with fail
        go_roundw
        case rel => exact ⟨k + 1, by go_num, by omega, by rw [E.out]; exact ZL.out, by rw [E.out]; have h := OL.out; repeat' (first | (with_reducible assumption) | (with_reducible refine OwnV.alloc ?_ _) | (with_reducible refine OwnV.far ?_ ?_ _) | omega | (simp; done) | (simp; omega)), by have h := HB.out; repeat' (first | (with_reducible exact Below.refl _ _) | assumption | (with_reducible refine below_then (by assumption) ?_ ?_) | (with_reducible refine Below.alloc ?_ ?_ _) | (with_reducible refine below_drewN ?_ _) | (with_reducible refine Below.drew ?_) | (with_reducible refine Below.setCell ?_ ?_ _) | (have := h.size; simp at *; omega) | omega | (simp; done) | (simp; omega))⟩
        case measure => simp [intOf]; omega
end Go.Proofs.Ytkkhaamklbolmaa
