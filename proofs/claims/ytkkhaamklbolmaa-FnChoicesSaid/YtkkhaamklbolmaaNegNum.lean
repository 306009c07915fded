/-
  What a condition's tree says; the opposite's list is a condition and says the opposite; only the options asked for matter (no program in sight).
-/
import Derived.Test.YtkkhaamklbolmaaNegate2
import Derived.Test.YtkkhaamklbolmaaHolds
namespace Go.Proofs.Ytkkhaamklbolmaa
open Go.RowKit
set_option linter.unusedVariables false
set_option linter.unusedSimpArgs false

def Cnd.val (hb : ByteArray → ByteArray → Bool) : Cnd → Bool
  | .tt => true
  | .is o v => hb o v
  | .no a => !(a.val hb)
  | .bin x a b => if x then a.val hb && b.val hb else a.val hb || b.val hb
theorem set_last (l : List Bool) (x y : Bool) : (l ++ [x]).set l.length y = l ++ [y] := by induction l <;> simp_all
theorem stkN_no (l : List Bool) (x hb : Bool) : stkN 2 hb (l ++ [x]) = l ++ [!x] := by
  have e : (l ++ [x]).length - 1 = l.length := by simp
  unfold stkN
  rw [if_neg (by decide), if_neg (by decide), if_pos rfl, e, set_last]
  simp [List.getD_eq_getElem?_getD]
theorem stkN_and (l : List Bool) (x y hb : Bool) : stkN 3 hb (l ++ [x] ++ [y]) = l ++ [x && y] := by
  have e : (l ++ [x] ++ [y]).length - 2 = l.length := by simp
  have e' : (l ++ [x] ++ [y]).length - 1 = l.length + 1 := by simp
  unfold stkN
  rw [if_neg (by decide), if_neg (by decide), if_neg (by decide), if_pos rfl, e, e']
  simp [List.getD_eq_getElem?_getD]
theorem stkN_or (l : List Bool) (x y hb : Bool) : stkN 4 hb (l ++ [x] ++ [y]) = l ++ [x || y] := by
  have e : (l ++ [x] ++ [y]).length - 2 = l.length := by simp
  have e' : (l ++ [x] ++ [y]).length - 1 = l.length + 1 := by simp
  unfold stkN
  rw [if_neg (by decide), if_neg (by decide), if_neg (by decide), if_neg (by decide), e, e']
  simp [List.getD_eq_getElem?_getD]
theorem Sub.val {kd : Nat → Int} {op vl po pv : Nat → ByteArray} {m s e : Nat} {t : Cnd} (h : Sub kd op vl s e t) : stkS kd op vl po pv m e = stkS kd op vl po pv m s ++ [t.val (fun o v => hasP po pv o v m)] := by
  induction h with
  | tt h => simp only [stkS, h, stkN, if_true, Cnd.val]
  | is h ho hv => simp only [stkS, h, Cnd.val]; unfold stkN; rw [if_neg (by decide), if_pos rfl]
  | no r h ih => simp only [stkS, h, Cnd.val]; rw [ih, stkN_no]
  | bin r q h ih1 ih2 =>
    simp only [stkS, h, Cnd.val]
    rw [ih2, ih1]
    split
    · rw [stkN_and]
    · rw [stkN_or]
theorem holds_tree {kd : Nat → Int} {op vl po pv : Nat → ByteArray} {m n : Nat} {t : Cnd} (hC : isCondB kd op vl n = true) (h : Sub kd op vl 0 n t) : holdsB kd op vl po pv n m = t.val (fun o v => hasP po pv o v m) := by
  unfold holdsB
  rw [hC, h.val (po := po) (pv := pv) (m := m)]
  simp [stkS]
def Cnd.negT : Cnd → Bool → Cnd
  | .tt, true => .no .tt
  | .tt, false => .tt
  | .is o v, true => .no (.is o v)
  | .is o v, false => .is o v
  | .no a, z => a.negT (!z)
  | .bin x a b, z => .bin (x != z) (a.negT z) (b.negT z)
theorem val_negT (hb : ByteArray → ByteArray → Bool) (t : Cnd) : ∀ z, (t.negT z).val hb = (t.val hb != z) := by
  induction t with
  | tt => intro z; cases z <;> rfl
  | is o v => intro z; cases z <;> simp [Cnd.negT, Cnd.val]
  | no a ih => intro z; simp only [Cnd.negT, Cnd.val]; rw [ih]; cases a.val hb <;> cases z <;> rfl
  | bin x a b ih1 ih2 =>
    intro z
    simp only [Cnd.negT, Cnd.val]
    rw [ih1, ih2]
    cases a.val hb <;> cases b.val hb <;> cases x <;> cases z <;> rfl
def Cnd.good : Cnd → Prop
  | .tt => True
  | .is o v => isC o = true ∧ isC v = true
  | .no a => a.good
  | .bin _ a b => a.good ∧ b.good
theorem Sub.good {kd : Nat → Int} {op vl : Nat → ByteArray} {s e : Nat} {t : Cnd} (h : Sub kd op vl s e t) : t.good := by
  induction h with
  | tt h => trivial
  | is h ho hv => exact ⟨ho, hv⟩
  | no r h ih => exact ih
  | bin r q h ih1 ih2 => exact ⟨ih1, ih2⟩
def ndAt (L : List Nd) (j : Nat) : Nd := L.getD j (0, mt, mt)
theorem ndAt_left (L M : List Nd) {j : Nat} (h : j < L.length) : ndAt (L ++ M) j = ndAt L j := by
  unfold ndAt; simp only [List.getD_eq_getElem?_getD, List.getElem?_append_left h]
theorem ndAt_right (L M : List Nd) (j : Nat) : ndAt (L ++ M) (L.length + j) = ndAt M j := by
  unfold ndAt; simp only [List.getD_eq_getElem?_getD, List.getElem?_append_right (show L.length ≤ L.length + j by omega), Nat.add_sub_cancel_left]
theorem ok_mt {K : Int} (h : K ≠ 1) : okN K mt mt = true := by unfold okN; rw [if_neg h]; rfl
theorem neg_sub (kd : Nat → Int) (op vl : Nat → ByteArray) (t : Cnd) (hg : t.good) : ∀ (z : Bool) (s : Nat), (∀ j, j < (t.neg z).length → (kd (s + j), op (s + j), vl (s + j)) = ndAt (t.neg z) j) →
    Sub kd op vl s (s + (t.neg z).length) (t.negT z) ∧ (∀ h, runN kd op vl s = some h → runN kd op vl (s + (t.neg z).length) = some (h + 1)) ∧ (∀ j, j < (t.neg z).length → kd (s + j) = 2 → 1 ≤ j ∧ (kd (s + j - 1) = 0 ∨ kd (s + j - 1) = 1)) := by
  induction t with
  | tt =>
    intro z s H
    cases z
    · have h0 := H 0 (by simp [Cnd.neg])
      simp only [Cnd.neg, ndAt, List.getD_cons_zero, Nat.add_zero, Prod.mk.injEq] at h0
      obtain ⟨a1, a2, a3⟩ := h0
      refine ⟨.tt a1, fun h hr => ?_, fun j hj hk => ?_⟩
      · exact runN_ok hr (by rw [a1, a2, a3]; rfl) (by rw [a1]; rfl)
      · simp [Cnd.neg] at hj; subst hj; rw [Nat.add_zero, a1] at hk; omega
    · have h0 := H 0 (by simp [Cnd.neg])
      have h1 := H 1 (by simp [Cnd.neg])
      simp only [Cnd.neg, ndAt, List.getD_cons_zero, List.getD_cons_succ, Nat.add_zero, Prod.mk.injEq] at h0 h1
      obtain ⟨a1, a2, a3⟩ := h0
      obtain ⟨b1, b2, b3⟩ := h1
      refine ⟨.no (.tt a1) b1, fun h hr => ?_, fun j hj hk => ?_⟩
      · have := runN_ok hr (by rw [a1, a2, a3]; rfl) (show stepN (kd s) h = some (h + 1) by rw [a1]; rfl)
        exact runN_ok this (by rw [b1, b2, b3]; rfl) (by rw [b1]; unfold stepN; rw [if_neg (by decide), if_pos rfl, if_pos (by omega)])
      · simp [Cnd.neg] at hj
        rcases (by omega : j = 0 ∨ j = 1) with rfl | rfl
        · rw [Nat.add_zero, a1] at hk; omega
        · exact ⟨by omega, .inl a1⟩
  | is o v =>
    intro z s H
    obtain ⟨g1, g2⟩ := hg
    cases z
    · have h0 := H 0 (by simp [Cnd.neg])
      simp only [Cnd.neg, ndAt, List.getD_cons_zero, Nat.add_zero, Prod.mk.injEq] at h0
      obtain ⟨a1, a2, a3⟩ := h0
      refine ⟨?_, fun h hr => ?_, fun j hj hk => ?_⟩
      · have := Sub.is (kd := kd) (op := op) (vl := vl) (s := s) a1 (by rw [a2]; exact g1) (by rw [a3]; exact g2)
        rw [a2, a3] at this; exact this
      · exact runN_ok hr (by rw [a1, a2, a3]; unfold okN; rw [if_pos rfl, g1, g2]; rfl) (by rw [a1]; rfl)
      · simp [Cnd.neg] at hj; subst hj; rw [Nat.add_zero, a1] at hk; omega
    · have h0 := H 0 (by simp [Cnd.neg])
      have h1 := H 1 (by simp [Cnd.neg])
      simp only [Cnd.neg, ndAt, List.getD_cons_zero, List.getD_cons_succ, Nat.add_zero, Prod.mk.injEq] at h0 h1
      obtain ⟨a1, a2, a3⟩ := h0
      obtain ⟨b1, b2, b3⟩ := h1
      refine ⟨?_, fun h hr => ?_, fun j hj hk => ?_⟩
      · have := Sub.is (kd := kd) (op := op) (vl := vl) (s := s) a1 (by rw [a2]; exact g1) (by rw [a3]; exact g2)
        rw [a2, a3] at this; exact .no this b1
      · have := runN_ok hr (by rw [a1, a2, a3]; unfold okN; rw [if_pos rfl, g1, g2]; rfl) (show stepN (kd s) h = some (h + 1) by rw [a1]; rfl)
        exact runN_ok this (by rw [b1, b2, b3]; rfl) (by rw [b1]; unfold stepN; rw [if_neg (by decide), if_pos rfl, if_pos (by omega)])
      · simp [Cnd.neg] at hj
        rcases (by omega : j = 0 ∨ j = 1) with rfl | rfl
        · rw [Nat.add_zero, a1] at hk; omega
        · exact ⟨by omega, .inr a1⟩
  | no a ih =>
    intro z s H
    exact ih hg (!z) s H
  | bin x a b ih1 ih2 =>
    intro z s H
    simp only [Cnd.neg, Cnd.negT] at H ⊢
    have e3 : (a.neg z ++ b.neg z ++ [((if (x != z) then 3 else 4 : Int), mt, mt)]).length = (a.neg z).length + (b.neg z).length + 1 := by simp [Nat.add_assoc]
    obtain ⟨p1, p2, p3⟩ := ih1 hg.1 z s (fun j hj => by rw [H j (by omega), List.append_assoc, ndAt_left _ _ hj])
    obtain ⟨q1, q2, q3⟩ := ih2 hg.2 z (s + (a.neg z).length) (fun j hj => by
      rw [Nat.add_assoc, H _ (by omega), List.append_assoc, ndAt_right, ndAt_left _ _ hj])
    have hk := H ((a.neg z).length + (b.neg z).length) (by omega)
    rw [show ndAt (a.neg z ++ b.neg z ++ [((if (x != z) then 3 else 4 : Int), mt, mt)]) ((a.neg z).length + (b.neg z).length) = ((if (x != z) then 3 else 4 : Int), mt, mt) from by
      have := ndAt_right (a.neg z ++ b.neg z) [((if (x != z) then 3 else 4 : Int), mt, mt)] 0
      rw [List.length_append, Nat.add_zero] at this
      rw [this]; rfl] at hk
    simp only [Prod.mk.injEq] at hk
    obtain ⟨k1, k2, k3⟩ := hk
    have hkv : kd (s + ((a.neg z).length + (b.neg z).length)) = 3 ∨ kd (s + ((a.neg z).length + (b.neg z).length)) = 4 := by rw [k1]; split <;> simp
    rw [e3, ← Nat.add_assoc, ← Nat.add_assoc]
    rw [← Nat.add_assoc] at k1 k2 k3 hkv
    refine ⟨.bin p1 q1 k1, fun h hr => ?_, fun j hj hj2 => ?_⟩
    · refine runN_ok (q2 _ (p2 _ hr)) (by rw [k2, k3]; exact ok_mt (by omega)) ?_
      unfold stepN
      rw [if_neg (by omega), if_neg (by omega), if_pos hkv, if_pos (by omega)]
      simp
    · by_cases c1 : j < (a.neg z).length
      · exact p3 j c1 hj2
      · by_cases c2 : j < (a.neg z).length + (b.neg z).length
        · have := q3 (j - (a.neg z).length) (by omega) (by rw [show s + (a.neg z).length + (j - (a.neg z).length) = s + j by omega]; exact hj2)
          rw [show s + (a.neg z).length + (j - (a.neg z).length) = s + j by omega] at this
          exact ⟨by omega, this.2⟩
        · obtain rfl : j = (a.neg z).length + (b.neg z).length := by omega
          rw [← Nat.add_assoc] at hj2
          omega
/-- the opposite's list -/
theorem neg_list {t : Cnd} (hg : t.good) (hl : (t.neg true).length ≤ 30) : isCondB (ndK (t.neg true)) (ndO (t.neg true)) (ndV (t.neg true)) (t.neg true).length = true ∧
    Sub (ndK (t.neg true)) (ndO (t.neg true)) (ndV (t.neg true)) 0 (t.neg true).length (t.negT true) ∧
    (∀ j, j < (t.neg true).length → ndK (t.neg true) j = 2 → 1 ≤ j ∧ (ndK (t.neg true) (j - 1) = 0 ∨ ndK (t.neg true) (j - 1) = 1)) := by
  obtain ⟨h1, h2, h3⟩ := neg_sub (ndK (t.neg true)) (ndO (t.neg true)) (ndV (t.neg true)) t hg true 0 (fun j hj => by rw [Nat.zero_add]; rfl)
  simp only [Nat.zero_add] at h1 h2 h3
  refine ⟨?_, h1, h3⟩
  unfold isCondB
  rw [h2 0 rfl]
  simp [hl]
/-! ### only the options asked for matter -/
def Cnd.asks : Cnd → ByteArray → Prop
  | .tt, _ => False
  | .is o _, x => x = o
  | .no a, x => a.asks x
  | .bin _ a b, x => a.asks x ∨ b.asks x
theorem val_congr {hb hb' : ByteArray → ByteArray → Bool} {t : Cnd} (h : ∀ o, t.asks o → ∀ v, hb o v = hb' o v) : t.val hb = t.val hb' := by
  induction t with
  | tt => rfl
  | is o v => exact h o rfl v
  | no a ih => simp only [Cnd.val]; rw [ih h]
  | bin x a b ih1 ih2 => simp only [Cnd.val]; rw [ih1 (fun o ho => h o (.inl ho)), ih2 (fun o ho => h o (.inr ho))]
theorem Sub.asks {kd : Nat → Int} {op vl : Nat → ByteArray} {s e : Nat} {t : Cnd} (h : Sub kd op vl s e t) {o : ByteArray} : t.asks o → ∃ j, j < e ∧ kd j = 1 ∧ op j = o := by
  induction h with
  | tt h => intro k; cases k
  | is h ho hv => intro k; exact ⟨_, Nat.lt_succ_self _, h, (show o = _ from k).symm⟩
  | no r h ih => intro k; obtain ⟨j, h1, h2, h3⟩ := ih k; exact ⟨j, by omega, h2, h3⟩
  | bin r q h ih1 ih2 =>
    intro k
    rcases k with k | k
    · obtain ⟨j, h1, h2, h3⟩ := ih1 k; have := q.lt; exact ⟨j, by omega, h2, h3⟩
    · obtain ⟨j, h1, h2, h3⟩ := ih2 k; exact ⟨j, by omega, h2, h3⟩
theorem lstF_mem {L : List ByteArray} {i : Nat} (h : i < L.length) : lstF L i ∈ L := by
  have e : lstF L i = L[i] := by simp [lstF, List.getD_eq_getElem?_getD, h]
  rw [e]; exact List.getElem_mem h
theorem mem_lstF {L : List ByteArray} {x : ByteArray} (h : x ∈ L) : ∃ i, i < L.length ∧ lstF L i = x := by
  obtain ⟨i, hi, e⟩ := List.mem_iff_getElem.1 h
  exact ⟨i, hi, by simp [lstF, List.getD_eq_getElem?_getD, hi, e]⟩
theorem has_mem (L : List ByteArray) (s : ByteArray) : (fndS (lstF L) s L.length).isSome = true ↔ s ∈ L := by
  cases e : fndS (lstF L) s L.length with
  | none =>
    constructor
    · intro h; cases h
    · intro h
      obtain ⟨i, hi, he⟩ := mem_lstF h
      exact absurd he (fndS_none.1 e i hi)
  | some i =>
    obtain ⟨h1, h2, _⟩ := fndS_some e
    constructor
    · intro _; rw [← h2]; exact lstF_mem h1
    · intro _; rfl
theorem optsL_mem {kd : Nat → Int} {op : Nat → ByteArray} : ∀ {n j : Nat}, j < n → kd j = 1 → op j ∈ optsL kd op n := by
  intro n
  induction n with
  | zero => intro j hj; omega
  | succ n ih =>
    intro j hj hk
    by_cases e : j = n
    · subst e
      by_cases h2 : fndV (lstF (optsL kd op j)) (op j) (optsL kd op j).length < 0
      · rw [optsL_yes hk h2]; simp
      · rw [optsL_no (fun q => h2 q.2)]
        rw [fndV_neg] at h2
        by_cases h3 : op j ∈ optsL kd op j
        · exact h3
        · exact absurd (fun i hi (he : lstF (optsL kd op j) i = op j) => h3 (he ▸ lstF_mem hi)) h2
    · have := ih (show j < n by omega) hk
      unfold optsL
      split
      · exact List.mem_append_left _ this
      · exact this
/-- picks in a list -/
def pkO (X : List (ByteArray × ByteArray)) (j : Nat) : ByteArray := (X.getD j (mt, mt)).1
def pkV (X : List (ByteArray × ByteArray)) (j : Nat) : ByteArray := (X.getD j (mt, mt)).2
theorem pk_left (X Y : List (ByteArray × ByteArray)) {j : Nat} (h : j < X.length) : pkO (X ++ Y) j = pkO X j ∧ pkV (X ++ Y) j = pkV X j := by
  unfold pkO pkV; simp only [List.getD_eq_getElem?_getD, List.getElem?_append_left h, and_self]
theorem pk_last (X : List (ByteArray × ByteArray)) (x : ByteArray × ByteArray) : pkO (X ++ [x]) X.length = x.1 ∧ pkV (X ++ [x]) X.length = x.2 := by
  unfold pkO pkV; simp [List.getD_eq_getElem?_getD]
theorem hasP_congr {po pv po' pv' : Nat → ByteArray} {a d : ByteArray} {n : Nat} (h : ∀ i, i < n → po i = po' i ∧ pv i = pv' i) : hasP po pv a d n = hasP po' pv' a d n := by
  induction n with
  | zero => rfl
  | succ n ih =>
    simp only [hasP]
    rw [ih (fun i hi => h i (by omega)), (h n (by omega)).1, (h n (by omega)).2]
def LessOk (N : List ByteArray) (po pv : Nat → ByteArray) (k : Nat) (X : List (ByteArray × ByteArray)) : Prop := ∀ a d, a ∈ N → hasP (pkO X) (pkV X) a d X.length = hasP po pv a d k
theorem less_yes {N : List ByteArray} {po pv : Nat → ByteArray} {k : Nat} {X : List (ByteArray × ByteArray)} (h : LessOk N po pv k X) : LessOk N po pv (k + 1) (X ++ [(po k, pv k)]) := by
  intro a d ha
  rw [List.length_append, List.length_singleton]
  simp only [hasP]
  rw [(pk_last X (po k, pv k)).1, (pk_last X (po k, pv k)).2, hasP_congr (fun i hi => pk_left X [(po k, pv k)] hi), h a d ha]
theorem less_no {N : List ByteArray} {po pv : Nat → ByteArray} {k : Nat} {X : List (ByteArray × ByteArray)} (h : LessOk N po pv k X) (hn : po k ∉ N) : LessOk N po pv (k + 1) X := by
  intro a d ha
  have e : po k ≠ a := fun e => hn (e ▸ ha)
  simp only [hasP]
  rw [h a d ha]
  simp [e]
theorem less_holds {kd : Nat → Int} {op vl po pv : Nat → ByteArray} {m n : Nat} {X : List (ByteArray × ByteArray)} (hC : isCondB kd op vl n = true) (h : LessOk (optsOf kd op vl n) po pv m X) : holdsB kd op vl (pkO X) (pkV X) n X.length = holdsB kd op vl po pv n m := by
  obtain ⟨t, ht⟩ := tree_of hC
  rw [holds_tree hC ht, holds_tree hC ht]
  refine val_congr fun o ho v => h o v ?_
  obtain ⟨j, h1, h2, h3⟩ := ht.asks ho
  unfold optsOf
  rw [if_pos hC, ← h3]
  exact optsL_mem h1 h2
theorem neg_holds {kd : Nat → Int} {op vl po pv : Nat → ByteArray} {m n : Nat} {t : Cnd} (hC : isCondB kd op vl n = true) (h : Sub kd op vl 0 n t) (hl : (t.neg true).length ≤ 30) :
    holdsB (ndK (t.neg true)) (ndO (t.neg true)) (ndV (t.neg true)) po pv (t.neg true).length m = !(holdsB kd op vl po pv n m) := by
  obtain ⟨h1, h2, _⟩ := neg_list h.good hl
  rw [holds_tree h1 h2, holds_tree hC h, val_negT]
  simp
end Go.Proofs.Ytkkhaamklbolmaa
