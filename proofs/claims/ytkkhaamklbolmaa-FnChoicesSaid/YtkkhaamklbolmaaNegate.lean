/-
  Negations of conditions: the opposite's nodes; contracts of the program's opposite, the reference's l6Negate, and of NegateCond. (Printed by gen/negate.py.)
-/
import Derived.Test.YtkkhaamklbolmaaFormat
import Derived.Test.YtkkhaamklbolmaaOptions
namespace Go.Proofs.Ytkkhaamklbolmaa
open Go.RowKit Go.Sort
set_option linter.unusedVariables false
set_option linter.unusedSimpArgs false

abbrev Nd := Int × ByteArray × ByteArray
def mt : ByteArray := ⟨#[]⟩
/-- the opposite's nodes -/
def Cnd.neg : Cnd → Bool → List Nd
  | .tt, true => [(0, mt, mt), (2, mt, mt)]
  | .tt, false => [(0, mt, mt)]
  | .is o v, true => [(1, o, v), (2, mt, mt)]
  | .is o v, false => [(1, o, v)]
  | .no a, b => a.neg (!b)
  | .bin x a b, z => a.neg z ++ b.neg z ++ [((if (x != z) then 3 else 4), mt, mt)]
def ndK (L : List Nd) (j : Nat) : Int := (L.getD j (0, mt, mt)).1
def ndO (L : List Nd) (j : Nat) : ByteArray := (L.getD j (0, mt, mt)).2.1
def ndV (L : List Nd) (j : Nat) : ByteArray := (L.getD j (0, mt, mt)).2.2
def ndC (L : List Nd) (j q : Nat) : Value := condNodeC (ndK L) (ndO L) (ndV L) j q
theorem ndC_app (L M : List Nd) {j q : Nat} (h : j < L.length) : ndC L j q = ndC (L ++ M) j q := by
  unfold ndC condNodeC ndK ndO ndV
  simp only [List.getD_eq_getElem?_getD, List.getElem?_append_left h]
theorem ndC_behind (L M : List Nd) {j q : Nat} : ndC (L ++ M) (L.length + j) q = ndC M j q := by
  unfold ndC condNodeC ndK ndO ndV
  simp only [List.getD_eq_getElem?_getD, List.getElem?_append_right (show L.length ≤ L.length + j by omega), Nat.add_sub_cancel_left]
theorem ndC_last (L : List Nd) (x : Nd) (q : Nat) : ndC (L ++ [x]) L.length q = if q = 0 then .int .i64 x.1 else if q = 1 then .string x.2.1 else .string x.2.2 := by
  have := ndC_behind L [x] (j := 0) (q := q)
  simp only [Nat.add_zero] at this
  rw [this]; rfl
theorem ndC_one (L : List Nd) (j q : Nat) : (ndC L j q).oneCell' = true := by
  unfold ndC condNodeC
  split
  · rfl
  · split <;> rfl
theorem empty_of {s : ByteArray} (h : s.size = 0) : s = mt := by
  apply ByteArray.ext
  have : s.data.size = 0 := h
  exact Array.eq_empty_of_size_eq_zero this
theorem okN_empty {K : Int} {a b : ByteArray} (h : okN K a b = true) (hK : K ≠ 1) : a = mt ∧ b = mt := by
  unfold okN at h
  rw [if_neg hK] at h
  simp only [Bool.and_eq_true, decide_eq_true_eq] at h
  exact ⟨empty_of h.1, empty_of h.2⟩
theorem texts_of {kd : Nat → Int} {op vl : Nat → ByteArray} {n : Nat} (h : isCondB kd op vl n = true) : ∀ j, j < n → kd j ≠ 1 → op j = mt ∧ vl j = mt := by
  intro j hj hk
  obtain ⟨x, hx⟩ := runN_all h (show j + 1 ≤ n by omega)
  obtain ⟨y, _, ho, _⟩ := runN_step hx
  exact okN_empty ho hk
theorem Sub.negLen {kd : Nat → Int} {op vl : Nat → ByteArray} {s e : Nat} {t : Cnd} (h : Sub kd op vl s e t) (z : Bool) : 1 ≤ (t.neg z).length ∧ (t.neg z).length ≤ 2 * (e - s) := by
  induction h generalizing z with
  | tt h => cases z <;> simp [Cnd.neg]
  | is h ho hv => cases z <;> simp [Cnd.neg]
  | no r h ih => have := ih (!z); have := r.lt; simp only [Cnd.neg]; omega
  | bin r q h ih1 ih2 => have := ih1 z; have := ih2 z; have := r.lt; have := q.lt; simp only [Cnd.neg, List.length_append, List.length_singleton]; omega
theorem OwnV.formN {B s n : Nat} {T : TypeId} {v : Value} {w : World} {F : Nat → Nat → Value} (h : OwnV B w T s v n F) (hn : 0 < n) : ∃ g c, v = .slice (some ⟨g, 0, none⟩) n c := by
  obtain ⟨hl, ⟨hv, h0⟩ | ⟨g, cap, cur, hv, _⟩⟩ := h.own
  · omega
  · exact ⟨g, cap, hv⟩
def NegPost (w : World) (L : List Nd) (e : Ending) (w' : World) : Prop := ∃ v, e = .returned v ∧ OwnV w.heap.size w' 54 3 v L.length (ndC L) ∧ Below w.heap.size w w'
theorem flat_one (L : List Nd) (a : Int) (b c : ByteArray) : flat 3 (ndC [(a, b, c)]) 1 = [.int .i64 a, .string b, .string c] := by simp [flat, List.range_succ, ndC, condNodeC, ndK, ndO, ndV]
theorem flat_two (a a' : Int) (b c b' c' : ByteArray) : flat 3 (ndC [(a, b, c), (a', b', c')]) 2 = [.int .i64 a, .string b, .string c, .int .i64 a', .string b', .string c'] := by simp [flat, List.range_succ, ndC, condNodeC, ndK, ndO, ndV]
set_option maxRecDepth 20000 in
set_option maxHeartbeats 4000000 in
theorem impl_neg (A : Option Addr) (n c : Nat) (kd : Nat → Int) (op vl : Nat → ByteArray) (hn : n ≤ 30) (hall : ∀ j, j < n → kd j = 0 ∨ kd j = 1 ∨ kd j = 2 ∨ kd j = 3 ∨ kd j = 4) (hem : ∀ j, j < n → kd j ≠ 1 → op j = mt ∧ vl j = mt) (t : Cnd) : ∀ {s i : Nat}, Sub kd op vl s (i + 1) t → i < n → ∀ (z : Bool) (w : World), CondNodeF w A n c kd op vl →
    Calls Try.prog 68 #[.slice A n c, .int .i64 (i : Int), .bool z] w (NegPost w (t.neg z)) := by
  obtain ⟨i0, hi0, hz0, hs0, hb0⟩ := info_parts condNode_info
  induction t with
  | tt =>
    intro s i hs hi z w h
    have hk := hs.kind
    have hi' : (i : Int) < (n : Int) := by omega
    obtain ⟨b, o, rfl, hB, c0, c1, c2⟩ := h.cells hi
    rw [hk] at c0
    simp only [Cnd.kind] at c0
    have he := hem i hi (by rw [hk]; decide)
    rw [he.1] at c1
    rw [he.2] at c2
    obtain ⟨oo, hoo⟩ : ∃ oo, oo = mt := ⟨_, rfl⟩
    obtain ⟨vv, hvv⟩ : ∃ vv, vv = mt := ⟨_, rfl⟩
    rw [← hoo] at c1
    rw [← hvv] at c2
    have E1 : Cnd.tt.neg true = [(0, oo, vv), (2, mt, mt)] := by rw [hoo, hvv]; rfl
    have E2 : Cnd.tt.neg false = [(0, oo, vv)] := by rw [hoo, hvv]; rfl
    clear hk h hs he hoo hvv hall hem
    have o2 : OwnV w.heap.size ((w.alloc (.cells #[.int .i64 0, .string oo, .string vv] 54)).alloc (.cells #[.int .i64 0, .string oo, .string vv, .int .i64 2, .string mt, .string mt] 54)) 54 3 (.slice (some ⟨w.heap.size + 1, 0, none⟩) 2 2) 2 (ndC [(0, oo, vv), (2, mt, mt)]) := by
      have := OwnV.lit (w.alloc (.cells #[.int .i64 0, .string oo, .string vv] 54)) (B := w.heap.size) (by simp) 54 3 2 #[.int .i64 0, .string oo, .string vv, .int .i64 2, .string mt, .string mt] (ndC [(0, oo, vv), (2, mt, mt)]) (by rw [flat_two]) (by omega)
      simpa using this
    have o1 : OwnV w.heap.size ((w.alloc (.cells #[.int .i64 0, .string oo, .string vv] 54)).alloc (.cells #[.int .i64 0, .string oo, .string vv] 54)) 54 3 (.slice (some ⟨w.heap.size + 1, 0, none⟩) 1 1) 1 (ndC [(0, oo, vv)]) := by
      have := OwnV.lit (w.alloc (.cells #[.int .i64 0, .string oo, .string vv] 54)) (B := w.heap.size) (by simp) 54 3 1 #[.int .i64 0, .string oo, .string vv] (ndC [(0, oo, vv)]) (by rw [flat_one []]) (by omega)
      simpa using this
    have O1 := Lib.hid o1
    have O2 := Lib.hid o2
    clear o1 o2
    cases z
    · rw [E2]
      clear E1 E2
      go_enter Try.func68, Try.ntmps68
      go_wp2_with fail
      go_ret
      exact ⟨_, rfl, O1.out, by repeat' (first | (with_reducible exact Below.refl _ _) | assumption | (with_reducible refine below_then (by assumption) ?_ ?_) | (with_reducible refine Below.alloc ?_ ?_ _) | (with_reducible refine below_drewN ?_ _) | (with_reducible refine Below.drew ?_) | (with_reducible refine Below.setCell ?_ ?_ _) | (have := h.size; simp at *; omega) | omega | (simp; done) | (simp; omega))⟩
    · rw [E1]
      clear E1 E2
      go_enter Try.func68, Try.ntmps68
      go_wp2_with fail
      go_ret
      exact ⟨_, rfl, O2.out, by repeat' (first | (with_reducible exact Below.refl _ _) | assumption | (with_reducible refine below_then (by assumption) ?_ ?_) | (with_reducible refine Below.alloc ?_ ?_ _) | (with_reducible refine below_drewN ?_ _) | (with_reducible refine Below.drew ?_) | (with_reducible refine Below.setCell ?_ ?_ _) | (have := h.size; simp at *; omega) | omega | (simp; done) | (simp; omega))⟩
  | is oo vv =>
    intro s i hs hi z w h
    have hk := hs.kind
    have hi' : (i : Int) < (n : Int) := by omega
    obtain ⟨b, o, rfl, hB, c0, c1, c2⟩ := h.cells hi
    rw [hk] at c0
    simp only [Cnd.kind] at c0
    obtain ⟨e1, e2⟩ : op i = oo ∧ vl i = vv := by
      cases hs with
      | is h ho hv => exact ⟨rfl, rfl⟩
    rw [e1] at c1
    rw [e2] at c2
    have E1 : (Cnd.is oo vv).neg true = [(1, oo, vv), (2, mt, mt)] := rfl
    have E2 : (Cnd.is oo vv).neg false = [(1, oo, vv)] := rfl
    clear hk h hs e1 e2 hall hem
    have o2 : OwnV w.heap.size ((w.alloc (.cells #[.int .i64 1, .string oo, .string vv] 54)).alloc (.cells #[.int .i64 1, .string oo, .string vv, .int .i64 2, .string mt, .string mt] 54)) 54 3 (.slice (some ⟨w.heap.size + 1, 0, none⟩) 2 2) 2 (ndC [(1, oo, vv), (2, mt, mt)]) := by
      have := OwnV.lit (w.alloc (.cells #[.int .i64 1, .string oo, .string vv] 54)) (B := w.heap.size) (by simp) 54 3 2 #[.int .i64 1, .string oo, .string vv, .int .i64 2, .string mt, .string mt] (ndC [(1, oo, vv), (2, mt, mt)]) (by rw [flat_two]) (by omega)
      simpa using this
    have o1 : OwnV w.heap.size ((w.alloc (.cells #[.int .i64 1, .string oo, .string vv] 54)).alloc (.cells #[.int .i64 1, .string oo, .string vv] 54)) 54 3 (.slice (some ⟨w.heap.size + 1, 0, none⟩) 1 1) 1 (ndC [(1, oo, vv)]) := by
      have := OwnV.lit (w.alloc (.cells #[.int .i64 1, .string oo, .string vv] 54)) (B := w.heap.size) (by simp) 54 3 1 #[.int .i64 1, .string oo, .string vv] (ndC [(1, oo, vv)]) (by rw [flat_one []]) (by omega)
      simpa using this
    have O1 := Lib.hid o1
    have O2 := Lib.hid o2
    clear o1 o2
    cases z
    · rw [E2]
      clear E1 E2
      go_enter Try.func68, Try.ntmps68
      go_wp2_with fail
      go_ret
      exact ⟨_, rfl, O1.out, by repeat' (first | (with_reducible exact Below.refl _ _) | assumption | (with_reducible refine below_then (by assumption) ?_ ?_) | (with_reducible refine Below.alloc ?_ ?_ _) | (with_reducible refine below_drewN ?_ _) | (with_reducible refine Below.drew ?_) | (with_reducible refine Below.setCell ?_ ?_ _) | (have := h.size; simp at *; omega) | omega | (simp; done) | (simp; omega))⟩
    · rw [E1]
      clear E1 E2
      go_enter Try.func68, Try.ntmps68
      go_wp2_with fail
      go_ret
      exact ⟨_, rfl, O2.out, by repeat' (first | (with_reducible exact Below.refl _ _) | assumption | (with_reducible refine below_then (by assumption) ?_ ?_) | (with_reducible refine Below.alloc ?_ ?_ _) | (with_reducible refine below_drewN ?_ _) | (with_reducible refine Below.drew ?_) | (with_reducible refine Below.setCell ?_ ?_ _) | (have := h.size; simp at *; omega) | omega | (simp; done) | (simp; omega))⟩
  | no a ih =>
    intro s i hs hi z w h
    have hk := hs.kind
    have hi' : (i : Int) < (n : Int) := by omega
    obtain ⟨b, o, rfl, hB, c0, c1, c2⟩ := h.cells hi
    rw [hk] at c0
    simp only [Cnd.kind] at c0
    obtain ⟨j, rfl, ha⟩ : ∃ j, i = j + 1 ∧ Sub kd op vl s (j + 1) a := by
      cases hs with
      | no r h => have := r.lt; exact ⟨i - 1, by omega, by rw [show i - 1 + 1 = i by omega]; exact r⟩
    have IH := Lib.hid (fun (W : World) (hW : CondNodeF W (some ⟨b, o, none⟩) n c kd op vl) => ih ha (by omega) (!z) W hW)
    have hj1 : ((j + 1 : Nat) : Int) - 1 = (j : Int) := by omega
    have HX := Lib.hid (h.call (show Below w.heap.size w (w.alloc (.cells #[.int .i64 2, .string (op (j + 1)), .string (vl (j + 1))] 54)) from (Below.refl _ _).alloc (Nat.le_refl _) _))
    show Calls _ _ _ _ (NegPost w (a.neg (!z)))
    clear hk h hs ih ha hall hem
    go_enter Try.func68, Try.ntmps68
    go_wp2_with fail
    refine (IH.out _ HX.out).mono ?_; rintro e w1 ⟨v, rfl, o1, b1⟩
    have O1 := Lib.hid (o1.base (B' := w.heap.size) (by simp))
    have B1 := Lib.hid (show Below w.heap.size w w1 from ((Below.refl _ _).alloc (Nat.le_refl _) _).trans (b1.mono (by simp)))
    clear b1 o1
    go_wp2_with fail
    go_ret
    exact ⟨_, rfl, O1.out, B1.out⟩
  | bin x a b iha ihb =>
    intro s i hs hi z w h
    have hk := hs.kind
    have hi' : (i : Int) < (n : Int) := by omega
    obtain ⟨bb, o, rfl, hB, c0, c1, c2⟩ := h.cells hi
    have he := hem i hi (by rw [hk]; cases x <;> simp [Cnd.kind])
    rw [he.1] at c1
    rw [he.2] at c2
    rw [hk] at c0
    simp only [Cnd.kind] at c0
    obtain ⟨j, m, rfl, ha, hb⟩ : ∃ j m, i = j + 1 ∧ Sub kd op vl s (m + 1) a ∧ Sub kd op vl (m + 1) (j + 1) b := by
      cases hs with
      | bin r q h =>
        rename_i m
        have := r.lt; have := q.lt
        exact ⟨i - 1, m - 1, by omega, by rw [show m - 1 + 1 = m by omega]; exact r, by rw [show i - 1 + 1 = i by omega, show m - 1 + 1 = m by omega]; exact q⟩
    have lb := hb.lt
    have la := ha.lt
    have STA := Lib.hid (fun (W : World) (hW : CondNodeF W (some ⟨bb, o, none⟩) n c kd op vl) => startOf_any W (some ⟨bb, o, none⟩) n c kd op vl hW hn hb (by omega))
    have IHA := Lib.hid (fun (W : World) (hW : CondNodeF W (some ⟨bb, o, none⟩) n c kd op vl) => iha ha (by omega) z W hW)
    have IHB := Lib.hid (fun (W : World) (hW : CondNodeF W (some ⟨bb, o, none⟩) n c kd op vl) => ihb hb (by omega) z W hW)
    have za := ha.negLen z
    have zb := hb.negLen z
    obtain ⟨U, hU⟩ : ∃ U, U = a.neg z := ⟨_, rfl⟩
    obtain ⟨V, hV⟩ : ∃ V, V = b.neg z := ⟨_, rfl⟩
    obtain ⟨k, hkk⟩ : ∃ k : Int, k = if (x != z) then 3 else 4 := ⟨_, rfl⟩
    have eN : (Cnd.bin x a b).neg z = U ++ V ++ [(k, mt, mt)] := by rw [hU, hV, hkk]; rfl
    rw [eN]
    rw [← hU] at IHA za
    rw [← hV] at IHB zb
    have hj1 : ((j + 1 : Nat) : Int) - 1 = (j : Int) := by omega
    have hm1 : ((m + 1 : Nat) : Int) - 1 = (m : Int) := by omega
    have zal : U.length ≤ 60 := by omega
    have zbl : V.length ≤ 60 := by omega
    have KK := Lib.hid hkk
    clear hk hs iha ihb ha hb hU hV eN hall hem he hkk
    obtain ⟨K, hK⟩ : ∃ K : Int, K = if x then 3 else 4 := ⟨_, rfl⟩
    rw [← hK] at c0
    have HX := Lib.hid (h.call (show Below w.heap.size w (w.alloc (.cells #[.int .i64 K, .string mt, .string mt] 54)) from (Below.refl _ _).alloc (Nat.le_refl _) _))
    have HKK := Lib.hid hK
    have kbd : 3 ≤ K ∧ K ≤ 4 := by rw [hK]; cases x <;> simp
    have hK0 : (K == 0) = false := by simp; omega
    have hK1 : (K == 1) = false := by simp; omega
    have hK2 : (K == 2) = false := by simp; omega
    clear h hK
    cases z
    case false =>
      go_enter Try.func68, Try.ntmps68
      go_wp2_with fail
      refine (STA.out _ HX.out).mono ?_; rintro e w0 ⟨rfl, hw0⟩; obtain rfl := hw0.symm
      go_wp2_with fail
      refine (IHA.out _ HX.out).mono ?_; rintro e w1 ⟨v1, rfl, o1, b1⟩
      have O1 := Lib.hid (o1.base (B' := w.heap.size) (by simp))
      have B1 := Lib.hid (show Below w.heap.size w w1 from ((Below.refl _ _).alloc (Nat.le_refl _) _).trans (b1.mono (by simp)))
      have HX1 := Lib.hid (HX.out.call b1)
      obtain ⟨g1, cc1, rfl⟩ := o1.formN (by omega)
      clear b1 o1
      go_wp2_with fail
      refine (IHB.out _ HX1.out).mono ?_; rintro e w2 ⟨v2, rfl, o2, b2⟩
      have O1b := Lib.hid (O1.out.call b2)
      have B2 := Lib.hid (B1.out.trans (b2.mono B1.out.size))
      obtain ⟨g2, cc2, rfl⟩ := o2.formN (by omega)
      have O2 := Lib.hid o2
      have l2 := (o2.lt (k := g2) rfl)
      have l1 := (O1.out.lt (k := g1) rfl)
      clear b2 o2
      have F1 := Lib.hid (O1b.out.congr (F' := ndC (U ++ V)) (fun x y hx hy => ndC_app U V hx))
      have C2 := Lib.hid (fun (x y : Nat) (hx : x < V.length) (hy : y < 3) => (O2.out.cell (g := g2) rfl hx hy).trans (congrArg some (ndC_behind U V (j := x) (q := y)).symm))
      go_wp2_with (at_builtin; refine appM w2 rfl _ _ 25 rfl (B := w.heap.size) (i := i0) (z := .agg #[.int .i64 0, .string ByteArray.empty, .string ByteArray.empty]) (s := 3) (bytes := 40) (F := ndC (U ++ V)) (v := .slice (some ⟨g1, 0, none⟩) U.length cc1) (n := U.length) Try.underlying25 hi0 hz0 hs0 hb0 rfl (by decide) rfl F1.out B2.out.size ⟨g2, 0, none⟩ V.length cc2 rfl (fun x y hx hy => by rw [WideShapes.add_plain, Nat.zero_add]; exact C2.out x y hx hy) (fun x y hx hy => ndC_one _ _ _) (by omega) (by decide) ?_)
      intro v3 w3 hv3 hg3 hb3
      obtain ⟨g3, cc3, rfl⟩ := hv3.formN (by omega)
      have B3 := Lib.hid (below_own B2.out hg3 (fun r hr => by simp [Value.ownBlock] at hr; omega) B2.out.size)
      have V3 := Lib.hid hv3
      have hg3b : g3 = g1 ∨ w2.heap.size ≤ g3 := by
        rcases hb3 with h | h
        · left; simpa [Value.ownBlock] using h
        · right; simp [Value.ownBlock] at h; omega
      have ll3 := hg3.size
      clear hv3 hg3 hb3 C2
      have hkk : K = k := by rw [KK.out, HKK.out]; cases x <;> rfl
      subst hkk
      go_wp2_with (at_builtin; refine appS w3 rfl _ _ 25 rfl (B := w.heap.size) (i := i0) (z := .agg #[.int .i64 0, .string ByteArray.empty, .string ByteArray.empty]) (s := 3) (bytes := 40) (F := ndC (U ++ V ++ [(K, mt, mt)])) (v := .slice (some ⟨g3, 0, none⟩) (U.length + V.length) cc3) (n := U.length + V.length) (xs := #[.int .i64 K, .string mt, .string mt]) Try.underlying25 hi0 hz0 hs0 hb0 rfl (by decide) rfl (V3.out.congr (fun x y hx hy => ndC_app (U ++ V) [(K, mt, mt)] (by rw [List.length_append]; exact hx))) B3.out.size rfl (fun q hq => by rw [← List.length_append, ndC_last]; rcases (by omega : q = 0 ∨ q = 1 ∨ q = 2) with rfl | rfl | rfl <;> rfl) (fun q hq => ndC_one _ _ _) (by omega) (by decide) ?_)
      intro v4 w4 hv4 hg4 hb4
      obtain ⟨g4, cc4, rfl⟩ := hv4.formN (by omega)
      have B4 := Lib.hid (below_own B3.out hg4 (fun r hr => by simp [Value.ownBlock] at hr; omega) B3.out.size)
      have V4 := Lib.hid hv4
      clear hv4 hg4 hb4
      go_wp2_with fail
      go_ret
      exact ⟨_, rfl, by rw [List.length_append, List.length_append, List.append_assoc]; exact V4.out, B4.out⟩
    case true =>
      go_enter Try.func68, Try.ntmps68
      go_wp2_with fail
      refine (STA.out _ HX.out).mono ?_; rintro e w0 ⟨rfl, hw0⟩; obtain rfl := hw0.symm
      go_wp2_with fail
      refine (IHA.out _ HX.out).mono ?_; rintro e w1 ⟨v1, rfl, o1, b1⟩
      have O1 := Lib.hid (o1.base (B' := w.heap.size) (by simp))
      have B1 := Lib.hid (show Below w.heap.size w w1 from ((Below.refl _ _).alloc (Nat.le_refl _) _).trans (b1.mono (by simp)))
      have HX1 := Lib.hid (HX.out.call b1)
      obtain ⟨g1, cc1, rfl⟩ := o1.formN (by omega)
      clear b1 o1
      go_wp2_with fail
      refine (IHB.out _ HX1.out).mono ?_; rintro e w2 ⟨v2, rfl, o2, b2⟩
      have O1b := Lib.hid (O1.out.call b2)
      have B2 := Lib.hid (B1.out.trans (b2.mono B1.out.size))
      obtain ⟨g2, cc2, rfl⟩ := o2.formN (by omega)
      have O2 := Lib.hid o2
      have l2 := (o2.lt (k := g2) rfl)
      have l1 := (O1.out.lt (k := g1) rfl)
      clear b2 o2
      have F1 := Lib.hid (O1b.out.congr (F' := ndC (U ++ V)) (fun x y hx hy => ndC_app U V hx))
      have C2 := Lib.hid (fun (x y : Nat) (hx : x < V.length) (hy : y < 3) => (O2.out.cell (g := g2) rfl hx hy).trans (congrArg some (ndC_behind U V (j := x) (q := y)).symm))
      go_wp2_with (at_builtin; refine appM w2 rfl _ _ 25 rfl (B := w.heap.size) (i := i0) (z := .agg #[.int .i64 0, .string ByteArray.empty, .string ByteArray.empty]) (s := 3) (bytes := 40) (F := ndC (U ++ V)) (v := .slice (some ⟨g1, 0, none⟩) U.length cc1) (n := U.length) Try.underlying25 hi0 hz0 hs0 hb0 rfl (by decide) rfl F1.out B2.out.size ⟨g2, 0, none⟩ V.length cc2 rfl (fun x y hx hy => by rw [WideShapes.add_plain, Nat.zero_add]; exact C2.out x y hx hy) (fun x y hx hy => ndC_one _ _ _) (by omega) (by decide) ?_)
      intro v3 w3 hv3 hg3 hb3
      obtain ⟨g3, cc3, rfl⟩ := hv3.formN (by omega)
      have B3 := Lib.hid (below_own B2.out hg3 (fun r hr => by simp [Value.ownBlock] at hr; omega) B2.out.size)
      have V3 := Lib.hid hv3
      have hg3b : g3 = g1 ∨ w2.heap.size ≤ g3 := by
        rcases hb3 with h | h
        · left; simpa [Value.ownBlock] using h
        · right; simp [Value.ownBlock] at h; omega
      have ll3 := hg3.size
      clear hv3 hg3 hb3 C2
      have hkk : 7 - K = k := by rw [KK.out, HKK.out]; cases x <;> rfl
      go_wp2_with (at_builtin; refine appS w3 rfl _ _ 25 rfl (B := w.heap.size) (i := i0) (z := .agg #[.int .i64 0, .string ByteArray.empty, .string ByteArray.empty]) (s := 3) (bytes := 40) (F := ndC (U ++ V ++ [(k, mt, mt)])) (v := .slice (some ⟨g3, 0, none⟩) (U.length + V.length) cc3) (n := U.length + V.length) (xs := #[.int .i64 k, .string mt, .string mt]) Try.underlying25 hi0 hz0 hs0 hb0 rfl (by decide) rfl (V3.out.congr (fun x y hx hy => ndC_app (U ++ V) [(k, mt, mt)] (by rw [List.length_append]; exact hx))) B3.out.size rfl (fun q hq => by rw [← List.length_append, ndC_last]; rcases (by omega : q = 0 ∨ q = 1 ∨ q = 2) with rfl | rfl | rfl <;> rfl) (fun q hq => ndC_one _ _ _) (by omega) (by decide) ?_)
      intro v4 w4 hv4 hg4 hb4
      obtain ⟨g4, cc4, rfl⟩ := hv4.formN (by omega)
      have B4 := Lib.hid (below_own B3.out hg4 (fun r hr => by simp [Value.ownBlock] at hr; omega) B3.out.size)
      have V4 := Lib.hid hv4
      clear hv4 hg4 hb4
      go_wp2_with fail
      go_ret
      exact ⟨_, rfl, by rw [List.length_append, List.length_append, List.append_assoc]; exact V4.out, B4.out⟩
set_option maxRecDepth 20000 in
set_option maxHeartbeats 4000000 in
theorem spec_neg (A : Option Addr) (n c : Nat) (kd : Nat → Int) (op vl : Nat → ByteArray) (hn : n ≤ 30) (hall : ∀ j, j < n → kd j = 0 ∨ kd j = 1 ∨ kd j = 2 ∨ kd j = 3 ∨ kd j = 4) (hem : ∀ j, j < n → kd j ≠ 1 → op j = mt ∧ vl j = mt) (t : Cnd) : ∀ {s i : Nat}, Sub kd op vl s (i + 1) t → i < n → ∀ (z : Bool) (w : World), CondNodeF w A n c kd op vl →
    Calls Try.prog 67 #[.slice A n c, .int .i64 (i : Int), .bool z] w (NegPost w (t.neg z)) := by
  obtain ⟨i0, hi0, hz0, hs0, hb0⟩ := info_parts condNode_info
  induction t with
  | tt =>
    intro s i hs hi z w h
    have hk := hs.kind
    have hi' : (i : Int) < (n : Int) := by omega
    obtain ⟨b, o, rfl, hB, c0, c1, c2⟩ := h.cells hi
    rw [hk] at c0
    simp only [Cnd.kind] at c0
    have he := hem i hi (by rw [hk]; decide)
    rw [he.1] at c1
    rw [he.2] at c2
    obtain ⟨oo, hoo⟩ : ∃ oo, oo = mt := ⟨_, rfl⟩
    obtain ⟨vv, hvv⟩ : ∃ vv, vv = mt := ⟨_, rfl⟩
    rw [← hoo] at c1
    rw [← hvv] at c2
    have E1 : Cnd.tt.neg true = [(0, oo, vv), (2, mt, mt)] := by rw [hoo, hvv]; rfl
    have E2 : Cnd.tt.neg false = [(0, oo, vv)] := by rw [hoo, hvv]; rfl
    clear hk h hs he hoo hvv hall hem
    have o2 : OwnV w.heap.size ((w.alloc (.cells #[.int .i64 0, .string oo, .string vv] 54)).alloc (.cells #[.int .i64 0, .string oo, .string vv, .int .i64 2, .string mt, .string mt] 54)) 54 3 (.slice (some ⟨w.heap.size + 1, 0, none⟩) 2 2) 2 (ndC [(0, oo, vv), (2, mt, mt)]) := by
      have := OwnV.lit (w.alloc (.cells #[.int .i64 0, .string oo, .string vv] 54)) (B := w.heap.size) (by simp) 54 3 2 #[.int .i64 0, .string oo, .string vv, .int .i64 2, .string mt, .string mt] (ndC [(0, oo, vv), (2, mt, mt)]) (by rw [flat_two]) (by omega)
      simpa using this
    have o1 : OwnV w.heap.size ((w.alloc (.cells #[.int .i64 0, .string oo, .string vv] 54)).alloc (.cells #[.int .i64 0, .string oo, .string vv] 54)) 54 3 (.slice (some ⟨w.heap.size + 1, 0, none⟩) 1 1) 1 (ndC [(0, oo, vv)]) := by
      have := OwnV.lit (w.alloc (.cells #[.int .i64 0, .string oo, .string vv] 54)) (B := w.heap.size) (by simp) 54 3 1 #[.int .i64 0, .string oo, .string vv] (ndC [(0, oo, vv)]) (by rw [flat_one []]) (by omega)
      simpa using this
    have O1 := Lib.hid o1
    have O2 := Lib.hid o2
    clear o1 o2
    cases z
    · rw [E2]
      clear E1 E2
      go_enter Try.func67, Try.ntmps67
      go_wp2_with fail
      go_ret
      exact ⟨_, rfl, O1.out, by repeat' (first | (with_reducible exact Below.refl _ _) | assumption | (with_reducible refine below_then (by assumption) ?_ ?_) | (with_reducible refine Below.alloc ?_ ?_ _) | (with_reducible refine below_drewN ?_ _) | (with_reducible refine Below.drew ?_) | (with_reducible refine Below.setCell ?_ ?_ _) | (have := h.size; simp at *; omega) | omega | (simp; done) | (simp; omega))⟩
    · rw [E1]
      clear E1 E2
      go_enter Try.func67, Try.ntmps67
      go_wp2_with fail
      go_ret
      exact ⟨_, rfl, O2.out, by repeat' (first | (with_reducible exact Below.refl _ _) | assumption | (with_reducible refine below_then (by assumption) ?_ ?_) | (with_reducible refine Below.alloc ?_ ?_ _) | (with_reducible refine below_drewN ?_ _) | (with_reducible refine Below.drew ?_) | (with_reducible refine Below.setCell ?_ ?_ _) | (have := h.size; simp at *; omega) | omega | (simp; done) | (simp; omega))⟩
  | is oo vv =>
    intro s i hs hi z w h
    have hk := hs.kind
    have hi' : (i : Int) < (n : Int) := by omega
    obtain ⟨b, o, rfl, hB, c0, c1, c2⟩ := h.cells hi
    rw [hk] at c0
    simp only [Cnd.kind] at c0
    obtain ⟨e1, e2⟩ : op i = oo ∧ vl i = vv := by
      cases hs with
      | is h ho hv => exact ⟨rfl, rfl⟩
    rw [e1] at c1
    rw [e2] at c2
    have E1 : (Cnd.is oo vv).neg true = [(1, oo, vv), (2, mt, mt)] := rfl
    have E2 : (Cnd.is oo vv).neg false = [(1, oo, vv)] := rfl
    clear hk h hs e1 e2 hall hem
    have o2 : OwnV w.heap.size ((w.alloc (.cells #[.int .i64 1, .string oo, .string vv] 54)).alloc (.cells #[.int .i64 1, .string oo, .string vv, .int .i64 2, .string mt, .string mt] 54)) 54 3 (.slice (some ⟨w.heap.size + 1, 0, none⟩) 2 2) 2 (ndC [(1, oo, vv), (2, mt, mt)]) := by
      have := OwnV.lit (w.alloc (.cells #[.int .i64 1, .string oo, .string vv] 54)) (B := w.heap.size) (by simp) 54 3 2 #[.int .i64 1, .string oo, .string vv, .int .i64 2, .string mt, .string mt] (ndC [(1, oo, vv), (2, mt, mt)]) (by rw [flat_two]) (by omega)
      simpa using this
    have o1 : OwnV w.heap.size ((w.alloc (.cells #[.int .i64 1, .string oo, .string vv] 54)).alloc (.cells #[.int .i64 1, .string oo, .string vv] 54)) 54 3 (.slice (some ⟨w.heap.size + 1, 0, none⟩) 1 1) 1 (ndC [(1, oo, vv)]) := by
      have := OwnV.lit (w.alloc (.cells #[.int .i64 1, .string oo, .string vv] 54)) (B := w.heap.size) (by simp) 54 3 1 #[.int .i64 1, .string oo, .string vv] (ndC [(1, oo, vv)]) (by rw [flat_one []]) (by omega)
      simpa using this
    have O1 := Lib.hid o1
    have O2 := Lib.hid o2
    clear o1 o2
    cases z
    · rw [E2]
      clear E1 E2
      go_enter Try.func67, Try.ntmps67
      go_wp2_with fail
      go_ret
      exact ⟨_, rfl, O1.out, by repeat' (first | (with_reducible exact Below.refl _ _) | assumption | (with_reducible refine below_then (by assumption) ?_ ?_) | (with_reducible refine Below.alloc ?_ ?_ _) | (with_reducible refine below_drewN ?_ _) | (with_reducible refine Below.drew ?_) | (with_reducible refine Below.setCell ?_ ?_ _) | (have := h.size; simp at *; omega) | omega | (simp; done) | (simp; omega))⟩
    · rw [E1]
      clear E1 E2
      go_enter Try.func67, Try.ntmps67
      go_wp2_with fail
      go_ret
      exact ⟨_, rfl, O2.out, by repeat' (first | (with_reducible exact Below.refl _ _) | assumption | (with_reducible refine below_then (by assumption) ?_ ?_) | (with_reducible refine Below.alloc ?_ ?_ _) | (with_reducible refine below_drewN ?_ _) | (with_reducible refine Below.drew ?_) | (with_reducible refine Below.setCell ?_ ?_ _) | (have := h.size; simp at *; omega) | omega | (simp; done) | (simp; omega))⟩
  | no a ih =>
    intro s i hs hi z w h
    have hk := hs.kind
    have hi' : (i : Int) < (n : Int) := by omega
    obtain ⟨b, o, rfl, hB, c0, c1, c2⟩ := h.cells hi
    rw [hk] at c0
    simp only [Cnd.kind] at c0
    obtain ⟨j, rfl, ha⟩ : ∃ j, i = j + 1 ∧ Sub kd op vl s (j + 1) a := by
      cases hs with
      | no r h => have := r.lt; exact ⟨i - 1, by omega, by rw [show i - 1 + 1 = i by omega]; exact r⟩
    have IH := Lib.hid (fun (W : World) (hW : CondNodeF W (some ⟨b, o, none⟩) n c kd op vl) => ih ha (by omega) (!z) W hW)
    have hj1 : ((j + 1 : Nat) : Int) - 1 = (j : Int) := by omega
    have HX := Lib.hid (h.call (show Below w.heap.size w (w.alloc (.cells #[.int .i64 2, .string (op (j + 1)), .string (vl (j + 1))] 54)) from (Below.refl _ _).alloc (Nat.le_refl _) _))
    show Calls _ _ _ _ (NegPost w (a.neg (!z)))
    clear hk h hs ih ha hall hem
    go_enter Try.func67, Try.ntmps67
    go_wp2_with fail
    refine (IH.out _ HX.out).mono ?_; rintro e w1 ⟨v, rfl, o1, b1⟩
    have O1 := Lib.hid (o1.base (B' := w.heap.size) (by simp))
    have B1 := Lib.hid (show Below w.heap.size w w1 from ((Below.refl _ _).alloc (Nat.le_refl _) _).trans (b1.mono (by simp)))
    clear b1 o1
    go_wp2_with fail
    go_ret
    exact ⟨_, rfl, O1.out, B1.out⟩
  | bin x a b iha ihb =>
    intro s i hs hi z w h
    have hk := hs.kind
    have hi' : (i : Int) < (n : Int) := by omega
    obtain ⟨bb, o, rfl, hB, c0, c1, c2⟩ := h.cells hi
    have he := hem i hi (by rw [hk]; cases x <;> simp [Cnd.kind])
    rw [he.1] at c1
    rw [he.2] at c2
    rw [hk] at c0
    simp only [Cnd.kind] at c0
    obtain ⟨j, m, rfl, ha, hb⟩ : ∃ j m, i = j + 1 ∧ Sub kd op vl s (m + 1) a ∧ Sub kd op vl (m + 1) (j + 1) b := by
      cases hs with
      | bin r q h =>
        rename_i m
        have := r.lt; have := q.lt
        exact ⟨i - 1, m - 1, by omega, by rw [show m - 1 + 1 = m by omega]; exact r, by rw [show i - 1 + 1 = i by omega, show m - 1 + 1 = m by omega]; exact q⟩
    have lb := hb.lt
    have la := ha.lt
    have STA := Lib.hid (fun (W : World) (hW : CondNodeF W (some ⟨bb, o, none⟩) n c kd op vl) => l6Start_any W (some ⟨bb, o, none⟩) n c kd op vl hW hn hall hb (by omega))
    have IHA := Lib.hid (fun (W : World) (hW : CondNodeF W (some ⟨bb, o, none⟩) n c kd op vl) => iha ha (by omega) z W hW)
    have IHB := Lib.hid (fun (W : World) (hW : CondNodeF W (some ⟨bb, o, none⟩) n c kd op vl) => ihb hb (by omega) z W hW)
    have za := ha.negLen z
    have zb := hb.negLen z
    obtain ⟨U, hU⟩ : ∃ U, U = a.neg z := ⟨_, rfl⟩
    obtain ⟨V, hV⟩ : ∃ V, V = b.neg z := ⟨_, rfl⟩
    obtain ⟨k, hkk⟩ : ∃ k : Int, k = if (x != z) then 3 else 4 := ⟨_, rfl⟩
    have eN : (Cnd.bin x a b).neg z = U ++ V ++ [(k, mt, mt)] := by rw [hU, hV, hkk]; rfl
    rw [eN]
    rw [← hU] at IHA za
    rw [← hV] at IHB zb
    have hj1 : ((j + 1 : Nat) : Int) - 1 = (j : Int) := by omega
    have hm1 : ((m + 1 : Nat) : Int) - 1 = (m : Int) := by omega
    have zal : U.length ≤ 60 := by omega
    have zbl : V.length ≤ 60 := by omega
    have KK := Lib.hid hkk
    clear hk hs iha ihb ha hb hU hV eN hall hem he hkk
    obtain ⟨K, hK⟩ : ∃ K : Int, K = if x then 3 else 4 := ⟨_, rfl⟩
    rw [← hK] at c0
    have HX := Lib.hid (h.call (show Below w.heap.size w (w.alloc (.cells #[.int .i64 K, .string mt, .string mt] 54)) from (Below.refl _ _).alloc (Nat.le_refl _) _))
    have HKK := Lib.hid hK
    have kbd : 3 ≤ K ∧ K ≤ 4 := by rw [hK]; cases x <;> simp
    have hK0 : (K == 0) = false := by simp; omega
    have hK1 : (K == 1) = false := by simp; omega
    have hK2 : (K == 2) = false := by simp; omega
    clear h hK
    cases z
    case false =>
      go_enter Try.func67, Try.ntmps67
      go_wp2_with fail
      refine (STA.out _ HX.out).mono ?_; rintro e w0 ⟨rfl, hw0⟩; obtain rfl := hw0.symm
      go_wp2_with fail
      refine (IHA.out _ HX.out).mono ?_; rintro e w1 ⟨v1, rfl, o1, b1⟩
      have O1 := Lib.hid (o1.base (B' := w.heap.size) (by simp))
      have B1 := Lib.hid (show Below w.heap.size w w1 from ((Below.refl _ _).alloc (Nat.le_refl _) _).trans (b1.mono (by simp)))
      have HX1 := Lib.hid (HX.out.call b1)
      have r1 := (row_lit w #[.int .i64 K, .string mt, .string mt] 54 3 (fun q => if q = 0 then .int .i64 K else if q = 1 then .string mt else .string mt) (by simp) (fun i hi => by rcases (by omega : i = 0 ∨ i = 1 ∨ i = 2) with rfl | rfl | rfl <;> rfl)).call b1
      have R1 := Lib.hid r1
      obtain ⟨g1, cc1, rfl⟩ := o1.formN (by omega)
      have l1b := (o1.lt (k := g1) rfl).1
      have l1c : w.heap.size < g1 := by simp at l1b; omega
      clear b1 o1 r1 l1b
      go_wp2_with fail
      refine (IHB.out _ HX1.out).mono ?_; rintro e w2 ⟨v2, rfl, o2, b2⟩
      have O1b := Lib.hid (O1.out.call b2)
      have B2 := Lib.hid (B1.out.trans (b2.mono B1.out.size))
      have R2 := Lib.hid (R1.out.call b2)
      obtain ⟨g2, cc2, rfl⟩ := o2.formN (by omega)
      have O2 := Lib.hid o2
      have l2 := (o2.lt (k := g2) rfl)
      have l1 := (O1.out.lt (k := g1) rfl)
      clear b2 o2
      have F1 := Lib.hid (O1b.out.congr (F' := ndC (U ++ V)) (fun x y hx hy => ndC_app U V hx))
      have C2 := Lib.hid (fun (x y : Nat) (hx : x < V.length) (hy : y < 3) => (O2.out.cell (g := g2) rfl hx hy).trans (congrArg some (ndC_behind U V (j := x) (q := y)).symm))
      go_wp2_with (at_builtin; refine appM w2 rfl _ _ 25 rfl (B := w.heap.size) (i := i0) (z := .agg #[.int .i64 0, .string ByteArray.empty, .string ByteArray.empty]) (s := 3) (bytes := 40) (F := ndC (U ++ V)) (v := .slice (some ⟨g1, 0, none⟩) U.length cc1) (n := U.length) Try.underlying25 hi0 hz0 hs0 hb0 rfl (by decide) rfl F1.out B2.out.size ⟨g2, 0, none⟩ V.length cc2 rfl (fun x y hx hy => by rw [WideShapes.add_plain, Nat.zero_add]; exact C2.out x y hx hy) (fun x y hx hy => ndC_one _ _ _) (by omega) (by decide) ?_)
      intro v3 w3 hv3 hg3 hb3
      obtain ⟨g3, cc3, rfl⟩ := hv3.formN (by omega)
      have B3 := Lib.hid (below_own B2.out hg3 (fun r hr => by simp [Value.ownBlock] at hr; omega) B2.out.size)
      have V3 := Lib.hid hv3
      have hg3b : g3 = g1 ∨ w2.heap.size ≤ g3 := by
        rcases hb3 with h | h
        · left; simpa [Value.ownBlock] using h
        · right; simp [Value.ownBlock] at h; omega
      have ll3 := hg3.size
      have R3 := Lib.hid (R2.out.own hg3 (fun e => by simp [Value.ownBlock] at e; omega))
      have y0 : w3.cell? ⟨w.heap.size, 0, none⟩ = some (.int .i64 K) := R3.out.cell (i := 0) (by omega)
      have y1 : w3.cell? ⟨w.heap.size, 1, none⟩ = some (.string mt) := R3.out.cell (i := 1) (by omega)
      have y2 : w3.cell? ⟨w.heap.size, 2, none⟩ = some (.string mt) := R3.out.cell (i := 2) (by omega)
      have yf := R3.out.frozen 0
      clear hv3 hg3 hb3 C2
      have hkk : K = k := by rw [KK.out, HKK.out]; cases x <;> rfl
      subst hkk
      go_wp2_with (at_builtin; refine appS w3 rfl _ _ 25 rfl (B := w.heap.size) (i := i0) (z := .agg #[.int .i64 0, .string ByteArray.empty, .string ByteArray.empty]) (s := 3) (bytes := 40) (F := ndC (U ++ V ++ [(K, mt, mt)])) (v := .slice (some ⟨g3, 0, none⟩) (U.length + V.length) cc3) (n := U.length + V.length) (xs := #[.int .i64 K, .string mt, .string mt]) Try.underlying25 hi0 hz0 hs0 hb0 rfl (by decide) rfl (V3.out.congr (fun x y hx hy => ndC_app (U ++ V) [(K, mt, mt)] (by rw [List.length_append]; exact hx))) B3.out.size rfl (fun q hq => by rw [← List.length_append, ndC_last]; rcases (by omega : q = 0 ∨ q = 1 ∨ q = 2) with rfl | rfl | rfl <;> rfl) (fun q hq => ndC_one _ _ _) (by omega) (by decide) ?_)
      intro v4 w4 hv4 hg4 hb4
      obtain ⟨g4, cc4, rfl⟩ := hv4.formN (by omega)
      have B4 := Lib.hid (below_own B3.out hg4 (fun r hr => by simp [Value.ownBlock] at hr; omega) B3.out.size)
      have V4 := Lib.hid hv4
      clear hv4 hg4 hb4
      go_wp2_with fail
      go_ret
      exact ⟨_, rfl, by rw [List.length_append, List.length_append, List.append_assoc]; exact V4.out, B4.out⟩
    case true =>
      go_enter Try.func67, Try.ntmps67
      go_wp2_with fail
      refine (STA.out _ HX.out).mono ?_; rintro e w0 ⟨rfl, hw0⟩; obtain rfl := hw0.symm
      go_wp2_with fail
      refine (IHA.out _ HX.out).mono ?_; rintro e w1 ⟨v1, rfl, o1, b1⟩
      have O1 := Lib.hid (o1.base (B' := w.heap.size) (by simp))
      have B1 := Lib.hid (show Below w.heap.size w w1 from ((Below.refl _ _).alloc (Nat.le_refl _) _).trans (b1.mono (by simp)))
      have HX1 := Lib.hid (HX.out.call b1)
      have r1 := (row_lit w #[.int .i64 K, .string mt, .string mt] 54 3 (fun q => if q = 0 then .int .i64 K else if q = 1 then .string mt else .string mt) (by simp) (fun i hi => by rcases (by omega : i = 0 ∨ i = 1 ∨ i = 2) with rfl | rfl | rfl <;> rfl)).call b1
      have R1 := Lib.hid r1
      obtain ⟨g1, cc1, rfl⟩ := o1.formN (by omega)
      have l1b := (o1.lt (k := g1) rfl).1
      have l1c : w.heap.size < g1 := by simp at l1b; omega
      clear b1 o1 r1 l1b
      go_wp2_with fail
      refine (IHB.out _ HX1.out).mono ?_; rintro e w2 ⟨v2, rfl, o2, b2⟩
      have O1b := Lib.hid (O1.out.call b2)
      have B2 := Lib.hid (B1.out.trans (b2.mono B1.out.size))
      have R2 := Lib.hid (R1.out.call b2)
      obtain ⟨g2, cc2, rfl⟩ := o2.formN (by omega)
      have O2 := Lib.hid o2
      have l2 := (o2.lt (k := g2) rfl)
      have l1 := (O1.out.lt (k := g1) rfl)
      clear b2 o2
      have F1 := Lib.hid (O1b.out.congr (F' := ndC (U ++ V)) (fun x y hx hy => ndC_app U V hx))
      have C2 := Lib.hid (fun (x y : Nat) (hx : x < V.length) (hy : y < 3) => (O2.out.cell (g := g2) rfl hx hy).trans (congrArg some (ndC_behind U V (j := x) (q := y)).symm))
      go_wp2_with (at_builtin; refine appM w2 rfl _ _ 25 rfl (B := w.heap.size) (i := i0) (z := .agg #[.int .i64 0, .string ByteArray.empty, .string ByteArray.empty]) (s := 3) (bytes := 40) (F := ndC (U ++ V)) (v := .slice (some ⟨g1, 0, none⟩) U.length cc1) (n := U.length) Try.underlying25 hi0 hz0 hs0 hb0 rfl (by decide) rfl F1.out B2.out.size ⟨g2, 0, none⟩ V.length cc2 rfl (fun x y hx hy => by rw [WideShapes.add_plain, Nat.zero_add]; exact C2.out x y hx hy) (fun x y hx hy => ndC_one _ _ _) (by omega) (by decide) ?_)
      intro v3 w3 hv3 hg3 hb3
      obtain ⟨g3, cc3, rfl⟩ := hv3.formN (by omega)
      have B3 := Lib.hid (below_own B2.out hg3 (fun r hr => by simp [Value.ownBlock] at hr; omega) B2.out.size)
      have V3 := Lib.hid hv3
      have hg3b : g3 = g1 ∨ w2.heap.size ≤ g3 := by
        rcases hb3 with h | h
        · left; simpa [Value.ownBlock] using h
        · right; simp [Value.ownBlock] at h; omega
      have ll3 := hg3.size
      have R3 := Lib.hid (R2.out.own hg3 (fun e => by simp [Value.ownBlock] at e; omega))
      have y0 : w3.cell? ⟨w.heap.size, 0, none⟩ = some (.int .i64 K) := R3.out.cell (i := 0) (by omega)
      have y1 : w3.cell? ⟨w.heap.size, 1, none⟩ = some (.string mt) := R3.out.cell (i := 1) (by omega)
      have y2 : w3.cell? ⟨w.heap.size, 2, none⟩ = some (.string mt) := R3.out.cell (i := 2) (by omega)
      have yf := R3.out.frozen 0
      clear hv3 hg3 hb3 C2
      have V3s := Lib.hid (V3.out.far (p := ⟨w.heap.size, 0, none⟩) (by simp [Value.ownBlock]; omega) (.int .i64 k))
      have B3s := Lib.hid (B3.out.setCell (p := ⟨w.heap.size, 0, none⟩) (Nat.le_refl _) (.int .i64 k))
      have hkk : 7 - K = k := by rw [KK.out, HKK.out]; cases x <;> rfl
      go_wp2_with (at_builtin; refine appS (w3.setCell ⟨w.heap.size, 0, none⟩ (.int .i64 k)) rfl _ _ 25 rfl (B := w.heap.size) (i := i0) (z := .agg #[.int .i64 0, .string ByteArray.empty, .string ByteArray.empty]) (s := 3) (bytes := 40) (F := ndC (U ++ V ++ [(k, mt, mt)])) (v := .slice (some ⟨g3, 0, none⟩) (U.length + V.length) cc3) (n := U.length + V.length) (xs := #[.int .i64 k, .string mt, .string mt]) Try.underlying25 hi0 hz0 hs0 hb0 rfl (by decide) rfl (V3s.out.congr (fun x y hx hy => ndC_app (U ++ V) [(k, mt, mt)] (by rw [List.length_append]; exact hx))) B3s.out.size (by show Value.slice (some ⟨w3.heap.size, 0, none⟩) 1 1 = _; simp [World.setCell]) (fun q hq => by rw [← List.length_append, ndC_last]; rcases (by omega : q = 0 ∨ q = 1 ∨ q = 2) with rfl | rfl | rfl <;> rfl) (fun q hq => ndC_one _ _ _) (by omega) (by decide) ?_)
      intro v4 w4 hv4 hg4 hb4
      obtain ⟨g4, cc4, rfl⟩ := hv4.formN (by omega)
      have B4 := Lib.hid (below_own B3s.out hg4 (fun r hr => by simp [Value.ownBlock] at hr; omega) B3s.out.size)
      have V4 := Lib.hid hv4
      clear hv4 hg4 hb4
      go_wp2_with fail
      go_ret
      exact ⟨_, rfl, by rw [List.length_append, List.length_append, List.append_assoc]; exact V4.out, B4.out⟩
end Go.Proofs.Ytkkhaamklbolmaa
