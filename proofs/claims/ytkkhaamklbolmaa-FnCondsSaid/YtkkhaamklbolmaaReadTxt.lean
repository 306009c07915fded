/-
  Reading what was printed gives the same nodes; what was read prints in no more letters (no program in sight).
-/
import Derived.Test.YtkkhaamklbolmaaRead5
namespace Go.Proofs.Ytkkhaamklbolmaa
open Go.RowKit
set_option linter.unusedVariables false
set_option linter.unusedSimpArgs false

/-! ### texts as lists -/
theorem ext_list (s : ByteArray) (a b : Nat) : (s.extract a b).data.toList = (s.data.toList.drop a).take (b - a) := by
  rw [ByteArray.data_extract, Array.toList_extract, List.extract_eq_take_drop]
theorem ba_ext {a b : ByteArray} (h : a.data.toList = b.data.toList) : a = b := by
  cases a; cases b; simp at h; rw [h]
theorem ba_len (a : ByteArray) : a.data.toList.length = a.size := rfl
/-- from place i on, the text begins with T -/
def Beg (S : ByteArray) (i : Nat) (T : List UInt8) : Prop := i ≤ S.size ∧ ∃ R, S.data.toList.drop i = T ++ R
theorem Beg.le {S : ByteArray} {i : Nat} {T : List UInt8} (h : Beg S i T) : i + T.length ≤ S.size := by
  obtain ⟨h0, R, h⟩ := h
  have := congrArg List.length h
  rw [List.length_drop, ba_len, List.length_append] at this
  omega
theorem Beg.left {S : ByteArray} {i : Nat} {T U : List UInt8} (h : Beg S i (T ++ U)) : Beg S i T := by
  obtain ⟨h0, R, h⟩ := h; exact ⟨h0, U ++ R, by rw [h, List.append_assoc]⟩
theorem Beg.right {S : ByteArray} {i : Nat} {T U : List UInt8} (h : Beg S i (T ++ U)) : Beg S (i + T.length) U := by
  have hl := h.le
  obtain ⟨h0, R, h⟩ := h
  refine ⟨by rw [List.length_append] at hl; omega, R, ?_⟩
  rw [← List.drop_drop, h, List.append_assoc, List.drop_left]
theorem Beg.ext {S : ByteArray} {i : Nat} {T : ByteArray} (h : Beg S i T.data.toList) : S.extract i (i + T.size) = T := by
  obtain ⟨h0, R, h⟩ := h
  refine ba_ext ?_
  rw [ext_list, h, Nat.add_sub_cancel_left, ← ba_len T, List.take_left]
theorem Beg.isAt {S : ByteArray} {i : Nat} {T : ByteArray} (h : Beg S i T.data.toList) : isAt S i T = true := by
  unfold Go.Proofs.Ytkkhaamklbolmaa.isAt
  exact decide_eq_true ⟨by have := h.le; rw [ba_len] at this; exact this, h.ext⟩
theorem beg_of {S : ByteArray} {i : Nat} {T : ByteArray} (h : isAt S i T = true) : Beg S i T.data.toList := by
  have h1 := isAt_le h
  have h2 := isAt_of h
  refine ⟨by omega, (S.data.toList.drop i).drop T.size, ?_⟩
  have e : T.data.toList = (S.data.toList.drop i).take T.size := by
    have := ext_list S i (i + T.size)
    rw [h2, Nat.add_sub_cancel_left] at this
    exact this
  rw [e, List.take_append_drop]
theorem beg_byte {S : ByteArray} {i : Nat} {c : UInt8} {T : List UInt8} (h : Beg S i (c :: T)) : byt S i = (c.toNat : Int) := by
  have hl := h.le
  obtain ⟨h0, R, h⟩ := h
  have hi : i < S.size := by rw [List.length_cons] at hl; omega
  rw [byt_lt hi]
  have e : S.data.toList[i]? = some c := by
    have := congrArg (fun l => l[0]?) h
    simpa using this
  have e2 : S[i] = c := by
    rw [Array.getElem?_toList] at e
    obtain ⟨h1, h2⟩ := Array.getElem?_eq_some_iff.1 e
    exact h2
  rw [e2]
theorem isAt_not {S : ByteArray} {i : Nat} {c : UInt8} {T : List UInt8} (h : Beg S i (c :: T)) {U : ByteArray} {d : UInt8} {V : List UInt8} (hU : U.data.toList = d :: V) (hcd : c ≠ d) : isAt S i U = false := by
  cases e : isAt S i U
  · rfl
  · obtain ⟨_, R, hR⟩ := beg_of e
    obtain ⟨_, R', hR'⟩ := h
    rw [hU, hR'] at hR
    simp at hR
    exact absurd hR.1 hcd
theorem isAt_not2 {S : ByteArray} {i : Nat} {c b : UInt8} {T : List UInt8} (h : Beg S i (c :: b :: T)) {U : ByteArray} {d e' : UInt8} {V : List UInt8} (hU : U.data.toList = d :: e' :: V) (hcd : b ≠ e') : isAt S i U = false := by
  cases e : isAt S i U
  · rfl
  · obtain ⟨_, R, hR⟩ := beg_of e
    obtain ⟨_, R', hR'⟩ := h
    rw [hU, hR'] at hR
    simp at hR
    exact absurd hR.2.1 hcd
theorem isAt_end {S U : ByteArray} (h : 0 < U.size) : isAt S S.size U = false := isAt_no (by omega)
/-- what may follow a part: the end, a blank, a shutting parenthesis -/
def Foll (S : ByteArray) (e : Nat) : Prop := e = S.size ∨ Beg S e [32] ∨ Beg S e [41]
theorem Foll.noW {S : ByteArray} {e : Nat} (h : Foll S e) : ¬ isW S e := by
  intro hw
  rcases h with h | h | h
  · have := isW_le hw; omega
  · have := beg_byte h; unfold isW at hw; rw [this] at hw; revert hw; decide
  · have := beg_byte h; unfold isW at hw; rw [this] at hw; revert hw; decide
theorem Foll.noEq {S : ByteArray} {e : Nat} (h : Foll S e) : isAt S e tEq = false := by
  rcases h with h | h | h
  · subst h; exact isAt_end (by decide)
  · exact isAt_not h (U := tEq) (d := 61) (V := []) rfl (by decide)
  · exact isAt_not h (U := tEq) (d := 61) (V := []) rfl (by decide)
theorem isW_ok {s : ByteArray} (h : isC s = true) {S : ByteArray} {i : Nat} (hb : Beg S i s.data.toList) : ∀ k, i ≤ k → k < i + s.size → isW S k := by
  intro k h1 h2
  have hk : k - i < s.size := by omega
  have ho := (isC_iff.1 h).2.2 (k - i) hk
  have e : byt S k = byt s (k - i) := by
    have hl := hb.le
    rw [ba_len] at hl
    have hx := hb.ext
    have : byt (S.extract i (i + s.size)) (k - i) = byt s (k - i) := by rw [hx]
    rw [← this, byt_lt (s := S.extract i (i + s.size)) (j := k - i) (by rw [hx]; exact hk), byt_lt (s := S) (j := k) (by omega)]
    simp only [ByteArray.getElem_extract]
    congr 3
    omega
  unfold okC at ho
  unfold isW
  rw [e]
  rcases ho with h | ⟨_, h | h⟩
  · exact .inl h
  · exact .inr (.inl h)
  · exact .inr (.inr h)
theorem word_end {s S : ByteArray} {i : Nat} (h : isC s = true) (hb : Beg S i s.data.toList) (hn : ¬ isW S (i + s.size)) : WEnd S i (i + s.size) :=
  ⟨by omega, by have := hb.le; rw [ba_len] at this; exact this, isW_ok h hb, fun _ => hn⟩
/-! ### nodes of a tree -/
def Cnd.nodes : Cnd → List Nd
  | .tt => [(0, mt, mt)]
  | .is o v => [(1, o, v)]
  | .no a => a.nodes ++ [(2, mt, mt)]
  | .bin x a b => a.nodes ++ b.nodes ++ [((if x then 3 else 4), mt, mt)]
theorem nodes_pos (t : Cnd) : 1 ≤ t.nodes.length := by cases t <;> simp [Cnd.nodes] <;> omega
def tl (T : ByteArray) : List UInt8 := T.data.toList
theorem tl_app (a b : ByteArray) : tl (a ++ b) = tl a ++ tl b := by unfold tl; exact ByteArray.toList_data_append
theorem tl_len (a : ByteArray) : (tl a).length = a.size := rfl
theorem tail_stop {S t : ByteArray} {x : Nd} {add : St → Nd → St} {f : St → St → Prop} {s b : St} (h : Tail S t x add f s b) (hn : s.bad = true ∨ isAt S s.i t = false) : b = s := by
  cases h with
  | stop _ => rfl
  | more h0 h1 _ _ => rcases hn with e | e <;> simp_all
/-- a tree's text, read by the program, gives its nodes -/
structure Reads (S : ByteArray) (t : Cnd) : Prop where
  three : ∀ (d i : Nat) (L : List Nd) (b : St), t.nodes.length ≤ d → Beg S i (tl (t.fmt 3)) → Foll S (i + (t.fmt 3).size) → L.length + t.nodes.length ≤ 30 → iNot S d ⟨i, L, false⟩ b → b = ⟨i + (t.fmt 3).size, L ++ t.nodes, false⟩
  two : ∀ (d i : Nat) (L : List Nd) (b : St), t.nodes.length ≤ d → Beg S i (tl (t.fmt 2)) → Foll S (i + (t.fmt 2).size) → L.length + t.nodes.length ≤ 30 → AndR S iAdd (iNot S d) ⟨i, L, false⟩ b → Tail S tAmp (3, mt, mt) iAdd (iNot S d) ⟨i + (t.fmt 2).size, L ++ t.nodes, false⟩ b
  one : ∀ (d i : Nat) (L : List Nd) (b : St), t.nodes.length ≤ d → Beg S i (tl (t.fmt 1)) → Foll S (i + (t.fmt 1).size) → isAt S (i + (t.fmt 1).size) tAmp = false → L.length + t.nodes.length ≤ 30 → OrR S iAdd (iNot S d) ⟨i, L, false⟩ b → Tail S tBar (4, mt, mt) iAdd (AndR S iAdd (iNot S d)) ⟨i + (t.fmt 1).size, L ++ t.nodes, false⟩ b
theorem fmt_low {t : Cnd} {k : Int} (h : k ≤ t.lvl) : t.fmt k = t.txt := by unfold Cnd.fmt par; rw [if_neg (by simp; omega)]
theorem fmt_par {t : Cnd} {k : Int} (h : t.lvl < k) : t.fmt k = (⟨#[40]⟩ ++ t.txt) ++ ⟨#[41]⟩ := by unfold Cnd.fmt par; rw [if_pos (by simpa using h)]
theorem fmt_one (t : Cnd) : t.fmt 1 = t.txt := fmt_low (by cases t with
  | bin x a c => cases x <;> simp [Cnd.lvl]
  | _ => simp [Cnd.lvl])
/-- from the readings of the simple parts -/
theorem reads_of3 {S : ByteArray} {t : Cnd} (h3 : t.lvl = 3) (h : ∀ (d i : Nat) (L : List Nd) (b : St), t.nodes.length ≤ d → Beg S i (tl (t.fmt 3)) → Foll S (i + (t.fmt 3).size) → L.length + t.nodes.length ≤ 30 → iNot S d ⟨i, L, false⟩ b → b = ⟨i + (t.fmt 3).size, L ++ t.nodes, false⟩) : Reads S t := by
  have e1 : t.fmt 1 = t.fmt 3 := by rw [fmt_low (by omega), fmt_low (by omega)]
  have e2 : t.fmt 2 = t.fmt 3 := by rw [fmt_low (by omega), fmt_low (by omega)]
  refine ⟨h, fun d i L b hd hb hf hl ha => ?_, fun d i L b hd hb hf hn hl ha => ?_⟩
  · rw [e2] at hb hf ⊢
    obtain ⟨a, ha1, ht⟩ := ha
    have := h d i L a hd hb hf hl ha1
    subst this; exact ht
  · rw [e1] at hb hf hn ⊢
    obtain ⟨a, ⟨a1, ha1, ht1⟩, ht⟩ := ha
    have := h d i L a1 hd hb hf hl ha1
    subst this
    have := tail_stop ht1 (.inr hn)
    subst this; exact ht
theorem reads_tt (S : ByteArray) : Reads S .tt := by
  refine reads_of3 rfl fun d i L b hd hb hf hl ha => ?_
  have hz : ((Cnd.tt).fmt 3) = tTrue := by rw [fmt_low (show (3 : Int) ≤ 3 by omega)]; rfl
  rw [hz] at hb hf ⊢
  obtain ⟨d, rfl⟩ : ∃ k, d = k + 1 := ⟨d - 1, by simp [Cnd.nodes] at hd; omega⟩
  have hc : Beg S i (84 :: [82, 85, 69]) := hb
  have n1 : isAt S i tNot = false := isAt_not hc (U := tNot) (d := 33) (V := []) rfl (by decide)
  have n2 : isAt S i tOpen = false := isAt_not hc (U := tOpen) (d := 40) (V := []) rfl (by decide)
  simp only [iNot] at ha
  rcases ha with ⟨e, _⟩ | ⟨_, e, _⟩ | ⟨_, _, j, hj, h⟩
  · rw [n1] at e; cases e
  · rw [n2] at e; cases e
  · have hw := word_end (s := tTrue) (by decide) hb hf.noW
    have := hj.uniq hw
    subst this
    have ex : S.extract i (i + tTrue.size) = tTrue := Beg.ext hb
    rcases h with ⟨e, _⟩ | ⟨_, e, _⟩ | ⟨_, _, _, rfl⟩ | ⟨_, _, e, _⟩
    · rw [ex] at e; exact absurd e (by decide)
    · rw [hf.noEq] at e; cases e
    · simp [Cnd.nodes] at hl
      simp only [iAdd, Cnd.nodes, Bool.false_or, St.mk.injEq, true_and]
      exact decide_eq_false (by omega)
    · exact absurd ex e
theorem reads_is (S : ByteArray) {o v : ByteArray} (ho : isC o = true) (hv : isC v = true) : Reads S (.is o v) := by
  refine reads_of3 rfl fun d i L b hd hb hf hl ha => ?_
  have hz : ((Cnd.is o v).fmt 3) = (o ++ ⟨#[61]⟩) ++ v := by rw [fmt_low (show (3 : Int) ≤ 3 by omega)]; rfl
  rw [hz] at hb hf ⊢
  rw [tl_app, tl_app] at hb
  have hb1 := hb.left.left
  have hb2 : Beg S (i + o.size) [61] := hb.left.right
  have hb3 := hb.right
  rw [List.length_append, tl_len] at hb3
  have es : ((o ++ ⟨#[61]⟩) ++ v).size = o.size + 1 + v.size := by rw [ByteArray.size_append, ByteArray.size_append]; rfl
  rw [es] at hf ⊢
  have hb3 : Beg S (i + o.size + 1) (tl v) := by rw [Nat.add_assoc]; exact hb3
  obtain ⟨d, rfl⟩ : ∃ k, d = k + 1 := ⟨d - 1, by simp [Cnd.nodes] at hd; omega⟩
  have h0 : isW S i := isW_ok ho hb1 i (Nat.le_refl _) (by have := (isC_iff.1 ho).1; omega)
  have nw1 : isAt S i tNot = false := by
    cases e : isAt S i tNot
    · rfl
    · have := beg_byte (c := 33) (T := []) (beg_of e); unfold isW at h0; rw [this] at h0; revert h0; decide
  have nw2 : isAt S i tOpen = false := by
    cases e : isAt S i tOpen
    · rfl
    · have := beg_byte (c := 40) (T := []) (beg_of e); unfold isW at h0; rw [this] at h0; revert h0; decide
  simp only [iNot] at ha
  rcases ha with ⟨e, _⟩ | ⟨_, e, _⟩ | ⟨_, _, j, hj, h⟩
  · rw [nw1] at e; cases e
  · rw [nw2] at e; cases e
  · have hnw : ¬ isW S (i + o.size) := by
      intro hw
      have := beg_byte hb2; unfold isW at hw; rw [this] at hw; revert hw; decide
    have := hj.uniq (word_end ho hb1 hnw)
    subst this
    have ex : S.extract i (i + o.size) = o := Beg.ext hb1
    have eq : isAt S (i + o.size) tEq = true := Beg.isAt hb2
    rcases h with ⟨e, _⟩ | ⟨_, _, k, hk, rfl⟩ | ⟨_, e, _⟩ | ⟨_, e, _⟩
    · simp only at e; rw [ex, ho] at e; cases e
    · have hk2 : k = i + o.size + 1 + v.size := hk.uniq (word_end hv hb3 (by rw [show i + o.size + 1 + v.size = i + (o.size + 1 + v.size) by omega]; exact hf.noW))
      have ex2 : S.extract (i + o.size + 1) k = v := by rw [hk2]; exact Beg.ext hb3
      simp [Cnd.nodes] at hl
      simp only [iAdd, Cnd.nodes, ex, ex2, hv, St.mk.injEq, true_and, Bool.not_true, Bool.false_or]
      exact ⟨by omega, decide_eq_false (by omega)⟩
    · rw [eq] at e; cases e
    · rw [eq] at e; cases e
theorem reads_no {S : ByteArray} {a : Cnd} (h : Reads S a) : Reads S (.no a) := by
  refine reads_of3 rfl fun d i L b hd hb hf hl ha => ?_
  have hz : ((Cnd.no a).fmt 3) = ⟨#[33]⟩ ++ a.fmt 3 := by rw [fmt_low (show (3 : Int) ≤ 3 by omega)]; rfl
  rw [hz] at hb hf ⊢
  rw [tl_app] at hb
  have hb1 : Beg S i [33] := hb.left
  have hb2 : Beg S (i + 1) (tl (a.fmt 3)) := hb.right
  have es : ((⟨#[33]⟩ : ByteArray) ++ a.fmt 3).size = 1 + (a.fmt 3).size := by rw [ByteArray.size_append]; rfl
  rw [es] at hf ⊢
  simp only [Cnd.nodes, List.length_append, List.length_singleton] at hd hl
  obtain ⟨d, rfl⟩ : ∃ k, d = k + 1 := ⟨d - 1, by omega⟩
  have n1 : isAt S i tNot = true := Beg.isAt hb1
  simp only [iNot] at ha
  rcases ha with ⟨_, u, hu, rfl⟩ | ⟨e, _⟩ | ⟨e, _⟩
  · have := h.three d (i + 1) L u (by omega) hb2 (by rw [Nat.add_assoc]; exact hf) (by omega) hu
    subst this
    simp only [iAdd, Cnd.nodes, Bool.false_or, St.mk.injEq, List.append_assoc, true_and, List.length_append]
    exact ⟨by omega, decide_eq_false (by omega)⟩
  · rw [n1] at e; cases e
  · rw [n1] at e; cases e
/-- two parts with a sign between -/
theorem reads_and {S : ByteArray} {a c : Cnd} (ha : Reads S a) (hc : Reads S c) (d i : Nat) (L : List Nd) (b : St) (hd : (Cnd.bin true a c).nodes.length ≤ d + 1) (hb : Beg S i (tl (Cnd.bin true a c).txt)) (hf : Foll S (i + (Cnd.bin true a c).txt.size))
    (hl : L.length + (Cnd.bin true a c).nodes.length ≤ 30) (h : AndR S iAdd (iNot S d) ⟨i, L, false⟩ b) : Tail S tAmp (3, mt, mt) iAdd (iNot S d) ⟨i + (Cnd.bin true a c).txt.size, L ++ (Cnd.bin true a c).nodes, false⟩ b := by
  have hz : (Cnd.bin true a c).txt = (a.fmt 2 ++ tAmp) ++ c.fmt 3 := rfl
  rw [hz] at hb hf ⊢
  rw [tl_app, tl_app] at hb
  have hb1 := hb.left.left
  have hb2 := hb.left.right
  have hb3 := hb.right
  rw [List.length_append, tl_len, tl_len] at hb3
  rw [tl_len] at hb2
  have es : ((a.fmt 2 ++ tAmp) ++ c.fmt 3).size = (a.fmt 2).size + 3 + (c.fmt 3).size := by rw [ByteArray.size_append, ByteArray.size_append]; rfl
  rw [es] at hf ⊢
  have hb3 : Beg S (i + (a.fmt 2).size + 3) (tl (c.fmt 3)) := by rw [Nat.add_assoc]; exact hb3
  simp only [Cnd.nodes, List.length_append, List.length_singleton] at hd hl
  have pa := nodes_pos a
  have pc := nodes_pos c
  have hf1 : Foll S (i + (a.fmt 2).size) := .inr (.inl (Beg.left (T := [32]) (U := [38, 32]) hb2))
  have t1 := ha.two d i L b (by omega) hb1 hf1 (by omega) h
  have am : isAt S (i + (a.fmt 2).size) tAmp = true := Beg.isAt hb2
  cases t1 with
  | stop h => rcases h with h | h <;> simp_all
  | @more _ u _ h0 h1 hu ht =>
    have e := hc.three d (i + (a.fmt 2).size + 3) (L ++ a.nodes) u (by omega) hb3 (by rw [show i + (a.fmt 2).size + 3 + (c.fmt 3).size = i + ((a.fmt 2).size + 3 + (c.fmt 3).size) by omega]; exact hf) (by rw [List.length_append]; omega) hu
    subst e
    have e2 : iAdd ⟨i + (a.fmt 2).size + 3 + (c.fmt 3).size, L ++ a.nodes ++ c.nodes, false⟩ (3, mt, mt) = ⟨i + ((a.fmt 2).size + 3 + (c.fmt 3).size), L ++ (Cnd.bin true a c).nodes, false⟩ := by
      simp only [iAdd, Cnd.nodes, Bool.false_or, St.mk.injEq, List.append_assoc, List.length_append]
      exact ⟨by omega, rfl, decide_eq_false (by omega)⟩
    rw [e2] at ht
    exact ht
theorem reads_or {S : ByteArray} {a c : Cnd} (ha : Reads S a) (hc : Reads S c) (d i : Nat) (L : List Nd) (b : St) (hd : (Cnd.bin false a c).nodes.length ≤ d + 1) (hb : Beg S i (tl (Cnd.bin false a c).txt)) (hf : Foll S (i + (Cnd.bin false a c).txt.size)) (hn : isAt S (i + (Cnd.bin false a c).txt.size) tAmp = false)
    (hl : L.length + (Cnd.bin false a c).nodes.length ≤ 30) (h : OrR S iAdd (iNot S d) ⟨i, L, false⟩ b) : Tail S tBar (4, mt, mt) iAdd (AndR S iAdd (iNot S d)) ⟨i + (Cnd.bin false a c).txt.size, L ++ (Cnd.bin false a c).nodes, false⟩ b := by
  have hz : (Cnd.bin false a c).txt = (a.fmt 1 ++ tBar) ++ c.fmt 2 := rfl
  rw [hz] at hb hf hn ⊢
  rw [tl_app, tl_app] at hb
  have hb1 := hb.left.left
  have hb2 := hb.left.right
  have hb3 := hb.right
  rw [List.length_append, tl_len, tl_len] at hb3
  rw [tl_len] at hb2
  have es : ((a.fmt 1 ++ tBar) ++ c.fmt 2).size = (a.fmt 1).size + 3 + (c.fmt 2).size := by rw [ByteArray.size_append, ByteArray.size_append]; rfl
  rw [es] at hf hn ⊢
  have hb3 : Beg S (i + (a.fmt 1).size + 3) (tl (c.fmt 2)) := by rw [Nat.add_assoc]; exact hb3
  simp only [Cnd.nodes, List.length_append, List.length_singleton] at hd hl
  have pa := nodes_pos a
  have pc := nodes_pos c
  have hf1 : Foll S (i + (a.fmt 1).size) := .inr (.inl (Beg.left (T := [32]) (U := [124, 32]) hb2))
  have hna : isAt S (i + (a.fmt 1).size) tAmp = false := isAt_not2 (c := 32) (b := 124) (T := [32]) hb2 (U := tAmp) (d := 32) (e' := 38) (V := [32]) rfl (by decide)
  have t1 := ha.one d i L b (by omega) hb1 hf1 hna (by omega) h
  have am : isAt S (i + (a.fmt 1).size) tBar = true := Beg.isAt hb2
  cases t1 with
  | stop h => rcases h with h | h <;> simp_all
  | @more _ u _ h0 h1 hu ht =>
    have hpos : i + (a.fmt 1).size + 3 + (c.fmt 2).size = i + ((a.fmt 1).size + 3 + (c.fmt 2).size) := by omega
    have t2 := hc.two d (i + (a.fmt 1).size + 3) (L ++ a.nodes) u (by omega) hb3 (by rw [hpos]; exact hf) (by rw [List.length_append]; omega) hu
    have e := tail_stop t2 (.inr (by show isAt S (i + (a.fmt 1).size + 3 + (c.fmt 2).size) tAmp = false; rw [hpos]; exact hn))
    subst e
    have e2 : iAdd ⟨i + (a.fmt 1).size + 3 + (c.fmt 2).size, L ++ a.nodes ++ c.nodes, false⟩ (4, mt, mt) = ⟨i + ((a.fmt 1).size + 3 + (c.fmt 2).size), L ++ (Cnd.bin false a c).nodes, false⟩ := by
      simp only [iAdd, Cnd.nodes, Bool.false_or, St.mk.injEq, List.append_assoc, List.length_append]
      exact ⟨by omega, rfl, decide_eq_false (by omega)⟩
    rw [e2] at ht
    exact ht
theorem reads_bin {S : ByteArray} {x : Bool} {a c : Cnd} (ha : Reads S a) (hc : Reads S c) : Reads S (.bin x a c) := by
  have lv : (Cnd.bin x a c).lvl = if x then 2 else 1 := rfl
  -- its bare text in a place of the lowest rank
  have key : ∀ (d i : Nat) (L : List Nd) (b : St), (Cnd.bin x a c).nodes.length ≤ d + 1 → Beg S i (tl (Cnd.bin x a c).txt) → Foll S (i + (Cnd.bin x a c).txt.size) → isAt S (i + (Cnd.bin x a c).txt.size) tAmp = false → L.length + (Cnd.bin x a c).nodes.length ≤ 30 → OrR S iAdd (iNot S d) ⟨i, L, false⟩ b →
      Tail S tBar (4, mt, mt) iAdd (AndR S iAdd (iNot S d)) ⟨i + (Cnd.bin x a c).txt.size, L ++ (Cnd.bin x a c).nodes, false⟩ b := by
    intro d i L b hd hb hf hn hl h
    cases x
    · exact reads_or ha hc d i L b hd hb hf hn hl h
    · obtain ⟨u, hu, ht⟩ := h
      have := tail_stop (reads_and ha hc d i L u hd hb hf hl hu) (.inr hn)
      subst this; exact ht
  have three : ∀ (d i : Nat) (L : List Nd) (b : St), (Cnd.bin x a c).nodes.length ≤ d → Beg S i (tl ((Cnd.bin x a c).fmt 3)) → Foll S (i + ((Cnd.bin x a c).fmt 3).size) → L.length + (Cnd.bin x a c).nodes.length ≤ 30 → iNot S d ⟨i, L, false⟩ b → b = ⟨i + ((Cnd.bin x a c).fmt 3).size, L ++ (Cnd.bin x a c).nodes, false⟩ := by
    intro d i L b hd hb hf hl h
    have hz : (Cnd.bin x a c).fmt 3 = (⟨#[40]⟩ ++ (Cnd.bin x a c).txt) ++ ⟨#[41]⟩ := fmt_par (by rw [lv]; split <;> omega)
    rw [hz] at hb hf ⊢
    rw [tl_app, tl_app] at hb
    have hb1 : Beg S i [40] := hb.left.left
    have hb2 : Beg S (i + 1) (tl (Cnd.bin x a c).txt) := hb.left.right
    have hb3 := hb.right
    rw [List.length_append, tl_len, tl_len] at hb3
    have hb3 : Beg S (i + 1 + (Cnd.bin x a c).txt.size) [41] := by rw [Nat.add_assoc]; exact hb3
    have es : (((⟨#[40]⟩ : ByteArray) ++ (Cnd.bin x a c).txt) ++ ⟨#[41]⟩).size = 1 + (Cnd.bin x a c).txt.size + 1 := by rw [ByteArray.size_append, ByteArray.size_append]; rfl
    rw [es] at hf ⊢
    have pa := nodes_pos (Cnd.bin x a c)
    obtain ⟨d, rfl⟩ : ∃ k, d = k + 1 := ⟨d - 1, by omega⟩
    have n1 : isAt S i tNot = false := isAt_not hb1 (U := tNot) (d := 33) (V := []) rfl (by decide)
    have n2 : isAt S i tOpen = true := Beg.isAt hb1
    have m1 : isAt S (i + 1 + (Cnd.bin x a c).txt.size) tAmp = false := isAt_not hb3 (U := tAmp) (d := 32) (V := [38, 32]) rfl (by decide)
    have m2 : isAt S (i + 1 + (Cnd.bin x a c).txt.size) tBar = false := isAt_not hb3 (U := tBar) (d := 32) (V := [124, 32]) rfl (by decide)
    have m3 : isAt S (i + 1 + (Cnd.bin x a c).txt.size) tShut = true := Beg.isAt hb3
    simp only [iNot] at h
    rcases h with ⟨e, _⟩ | ⟨_, _, u, hu, h⟩ | ⟨_, e, _⟩
    · rw [n1] at e; cases e
    · have := tail_stop (key d (i + 1) L u hd hb2 (.inr (.inr hb3)) m1 hl hu) (.inr m2)
      subst this
      rcases h with ⟨_, _, rfl⟩ | ⟨e, _⟩
      · simp only [St.mk.injEq, and_true]; omega
      · rcases e with e | e
        · cases e
        · simp only at e; rw [m3] at e; cases e
    · rw [n2] at e; cases e
  refine ⟨three, fun d i L b hd hb hf hl h => ?_, fun d i L b hd hb hf hn hl h => ?_⟩
  · cases x
    · have e2 : (Cnd.bin false a c).fmt 2 = (Cnd.bin false a c).fmt 3 := by rw [fmt_par (t := Cnd.bin false a c) (k := 2) (show (1 : Int) < 2 by omega), fmt_par (t := Cnd.bin false a c) (k := 3) (show (1 : Int) < 3 by omega)]
      rw [e2] at hb hf ⊢
      obtain ⟨u, hu, ht⟩ := h
      have := three d i L u hd hb hf hl hu
      subst this; exact ht
    · have e2 : (Cnd.bin true a c).fmt 2 = (Cnd.bin true a c).txt := fmt_low (show (2 : Int) ≤ 2 by omega)
      rw [e2] at hb hf ⊢
      exact reads_and ha hc d i L b (by omega) hb hf hl h
  · have e1 : (Cnd.bin x a c).fmt 1 = (Cnd.bin x a c).txt := fmt_low (by rw [lv]; split <;> omega)
    rw [e1] at hb hf hn ⊢
    exact key d i L b (by omega) hb hf hn hl h
theorem reads_all (S : ByteArray) : ∀ {t : Cnd}, t.good → Reads S t
  | .tt, _ => reads_tt S
  | .is o v, h => reads_is S h.1 h.2
  | .no a, h => reads_no (reads_all S (t := a) h)
  | .bin x a c, h => reads_bin (reads_all S h.1) (reads_all S h.2)
/-- reading a printed condition -/
theorem read_print {t : Cnd} (hg : t.good) (hl : t.nodes.length ≤ 30) {b : St} (h : ReadI t.txt b) : b = ⟨t.txt.size, t.nodes, false⟩ := by
  have e1 : t.fmt 1 = t.txt := fmt_one t
  have R := (reads_all t.txt hg).one 31 0 [] b (by omega) (by rw [e1]; exact ⟨Nat.zero_le _, [], by simp [tl]⟩) (by rw [e1]; exact .inl (Nat.zero_add _)) (by rw [e1, Nat.zero_add]; exact isAt_end (by decide)) (by simpa using hl) h
  rw [e1] at R
  have := tail_stop R (.inr (by rw [Nat.zero_add]; exact isAt_end (by decide)))
  rw [this]; simp
/-! ### what was read is a tree that prints in no more letters -/
def Got (k : Int) (s b : St) : Prop := ∃ t : Cnd, t.good ∧ b.L = s.L ++ t.nodes ∧ s.i + (t.fmt k).size ≤ b.i
theorem fmt_mono (t : Cnd) {k l : Int} (h : k ≤ l) : (t.fmt k).size ≤ (t.fmt l).size := by
  by_cases e : t.lvl < k
  · rw [fmt_par e, fmt_par (by omega)]; exact Nat.le_refl _
  · rw [fmt_low (by omega)]
    by_cases e2 : t.lvl < l
    · rw [fmt_par e2, ByteArray.size_append, ByteArray.size_append]; omega
    · rw [fmt_low (by omega)]; exact Nat.le_refl _
theorem Got.mono {k l : Int} {s b : St} (h : Got l s b) (hk : k ≤ l) : Got k s b := by
  obtain ⟨t, g, e, hl⟩ := h
  exact ⟨t, g, e, by have := fmt_mono t hk; omega⟩
theorem got_tail {S : ByteArray} {T : ByteArray} (hT : T.size = 3) {x : Bool} {k l : Int} (hbin : ∀ a c : Cnd, (Cnd.bin x a c).fmt k = (a.fmt k ++ T) ++ c.fmt l) {f : St → St → Prop} (hf : ∀ s a, s.bad = false → f s a → a.bad = false → Got l s a) {s b : St} (h : Tail S T ((if x then 3 else 4), mt, mt) iAdd f s b) :
    b.bad = false → ∀ s0 : St, Got k s0 s → Got k s0 b := by
  induction h with
  | stop _ => exact fun _ _ h => h
  | @more s a b hb h hf' ht ih =>
    intro hbb s0 hg
    have hg1 : (iAdd a ((if x then 3 else 4), mt, mt)).bad = false := by
      cases e : (iAdd a ((if x then 3 else 4), mt, mt)).bad
      · rfl
      · have := tail_bad ht e; subst this; rw [hbb] at e; cases e
    obtain ⟨c0, _, c2⟩ := iAdd_good hg1
    obtain ⟨t, tg, te, tl⟩ := hg
    obtain ⟨u, ug, ue, ul⟩ := hf _ _ rfl hf' c0
    refine ih hbb s0 ⟨.bin x t u, ⟨tg, ug⟩, ?_, ?_⟩
    · show a.L ++ [_] = _
      rw [ue]
      show (s.L ++ u.nodes) ++ [_] = _
      rw [te]; simp [Cnd.nodes]
    · rw [hbin, ByteArray.size_append, ByteArray.size_append, hT]
      show _ ≤ a.i
      have : s.i + T.size + (u.fmt l).size ≤ a.i := ul
      omega
theorem got_and {S : ByteArray} {f : St → St → Prop} (hf : ∀ s a, s.bad = false → f s a → a.bad = false → Got 3 s a) {s b : St} (h0 : s.bad = false) (h : AndR S iAdd f s b) (hb : b.bad = false) : Got 2 s b := by
  obtain ⟨a, ha, ht⟩ := h
  have e : a.bad = false := by
    cases e : a.bad
    · rfl
    · have := tail_bad ht e; subst this; rw [hb] at e; cases e
  exact got_tail (x := true) rfl (fun a c => by rw [fmt_low (show (2 : Int) ≤ 2 by omega)]; rfl) hf ht hb s ((hf s a h0 ha e).mono (by omega))
theorem got_or {S : ByteArray} {f : St → St → Prop} (hf : ∀ s a, s.bad = false → f s a → a.bad = false → Got 3 s a) {s b : St} (h0 : s.bad = false) (h : OrR S iAdd f s b) (hb : b.bad = false) : Got 1 s b := by
  obtain ⟨a, ha, ht⟩ := h
  have e : a.bad = false := by
    cases e : a.bad
    · rfl
    · have := tail_bad ht e; subst this; rw [hb] at e; cases e
  exact got_tail (x := false) rfl (fun a c => by rw [fmt_low (show (1 : Int) ≤ 1 by omega)]; rfl) (fun s a p q r => got_and hf p q r) ht hb s ((got_and hf h0 ha e).mono (by omega))
theorem got_not (S : ByteArray) : ∀ (d : Nat) (s b : St), s.bad = false → iNot S d s b → b.bad = false → Got 3 s b := by
  intro d
  induction d with
  | zero => intro s b _ h hb; simp only [iNot] at h; subst h; cases hb
  | succ d ih =>
    intro s b h0 h hb
    simp only [iNot] at h
    rcases h with ⟨e, a, ha, rfl⟩ | ⟨_, e, a, ha, h⟩ | ⟨_, _, j, hj, h⟩
    · obtain ⟨c0, _, c2⟩ := iAdd_good hb
      obtain ⟨t, tg, te, tl⟩ := ih ⟨s.i + 1, s.L, false⟩ a rfl ha c0
      refine ⟨.no t, tg, ?_, ?_⟩
      · show a.L ++ [_] = _
        rw [te]; simp [Cnd.nodes]
      · have hz : ((Cnd.no t).fmt 3) = ⟨#[33]⟩ ++ t.fmt 3 := by rw [fmt_low (show (3 : Int) ≤ 3 by omega)]; rfl
        rw [hz, ByteArray.size_append]
        show s.i + (1 + _) ≤ a.i
        have : s.i + 1 + (t.fmt 3).size ≤ a.i := tl
        omega
    · rcases h with ⟨p1, p2, rfl⟩ | ⟨_, rfl⟩
      · obtain ⟨t, tg, te, tl⟩ := got_or ih (s := ⟨s.i + 1, s.L, false⟩) rfl ha p1
        refine ⟨t, tg, te, ?_⟩
        have h1 : (t.fmt 3).size ≤ t.txt.size + 2 := par_size _ _
        rw [fmt_one t] at tl
        have : s.i + 1 + t.txt.size ≤ a.i := tl
        show _ ≤ a.i + 1
        omega
      · cases hb
    · rcases h with ⟨_, rfl⟩ | ⟨c0, c1, k, hk, rfl⟩ | ⟨_, _, c2, rfl⟩ | ⟨_, _, _, rfl⟩
      · cases hb
      · obtain ⟨d0, _, d2⟩ := iAdd_good hb
        have d0 : isC (S.extract (j + 1) k) = true := by simpa using d0
        refine ⟨.is (S.extract s.i j) (S.extract (j + 1) k), ⟨c0, d0⟩, rfl, ?_⟩
        have hz : ((Cnd.is (S.extract s.i j) (S.extract (j + 1) k)).fmt 3) = (S.extract s.i j ++ ⟨#[61]⟩) ++ S.extract (j + 1) k := by rw [fmt_low (show (3 : Int) ≤ 3 by omega)]; rfl
        rw [hz, ByteArray.size_append, ByteArray.size_append, ByteArray.size_extract, ByteArray.size_extract]
        show s.i + (_ + 1 + _) ≤ k
        have := hj.le; have := hj.top; have := hk.le; have := hk.top
        omega
      · refine ⟨.tt, trivial, rfl, ?_⟩
        have hz : ((Cnd.tt).fmt 3) = tTrue := by rw [fmt_low (show (3 : Int) ≤ 3 by omega)]; rfl
        rw [hz, ← c2, ByteArray.size_extract]
        show s.i + _ ≤ j
        have := hj.le; have := hj.top
        omega
      · cases hb
/-- what was read is a tree's list, and prints in no more letters -/
theorem read_tree {S : ByteArray} {b : St} (h : ReadI S b) (ho : okB S b = true) : ∃ t : Cnd, t.good ∧ okL S b = t.nodes ∧ t.txt.size ≤ S.size := by
  have hL : okL S b = b.L := by unfold okL; rw [ho]; rfl
  unfold okB at ho
  simp only [Bool.and_eq_true, Bool.not_eq_true', decide_eq_true_eq] at ho
  obtain ⟨t, tg, te, tl⟩ := got_or (got_not S 31) (s := st0) rfl h ho.1
  refine ⟨t, tg, by rw [hL, te]; rfl, ?_⟩
  rw [fmt_one t] at tl
  have : 0 + t.txt.size ≤ b.i := tl
  omega
/-! ### a tree's list is a condition of that tree -/
theorem nodes_sub (kd : Nat → Int) (op vl : Nat → ByteArray) : ∀ (t : Cnd), t.good → ∀ (s : Nat), (∀ j, j < t.nodes.length → (kd (s + j), op (s + j), vl (s + j)) = ndAt t.nodes j) → Sub kd op vl s (s + t.nodes.length) t
  | .tt, _, s, H => by
    have h0 := H 0 (by simp [Cnd.nodes])
    simp only [Cnd.nodes, ndAt, List.getD_cons_zero, Nat.add_zero, Prod.mk.injEq] at h0
    exact .tt h0.1
  | .is o v, hg, s, H => by
    have h0 := H 0 (by simp [Cnd.nodes])
    simp only [Cnd.nodes, ndAt, List.getD_cons_zero, Nat.add_zero, Prod.mk.injEq] at h0
    obtain ⟨a1, a2, a3⟩ := h0
    have := Sub.is (kd := kd) (op := op) (vl := vl) (s := s) a1 (by rw [a2]; exact hg.1) (by rw [a3]; exact hg.2)
    rw [a2, a3] at this
    exact this
  | .no a, hg, s, H => by
    have e : (Cnd.no a).nodes.length = a.nodes.length + 1 := by simp [Cnd.nodes]
    have h1 := nodes_sub kd op vl a hg s (fun j hj => (H j (by omega)).trans (by show ndAt (a.nodes ++ [_]) j = _; exact ndAt_left _ _ hj))
    have h2 := H a.nodes.length (by omega)
    have h3 : ndAt (Cnd.no a).nodes a.nodes.length = (2, mt, mt) := ndAt_right a.nodes [(2, mt, mt)] 0
    rw [h3] at h2
    rw [e, ← Nat.add_assoc]
    exact .no h1 (congrArg (·.1) h2)
  | .bin x a c, hg, s, H => by
    have e : (Cnd.bin x a c).nodes.length = a.nodes.length + c.nodes.length + 1 := by simp [Cnd.nodes, Nat.add_assoc]
    have e0 : (Cnd.bin x a c).nodes = a.nodes ++ (c.nodes ++ [((if x then 3 else 4), mt, mt)]) := by simp [Cnd.nodes]
    have h1 := nodes_sub kd op vl a hg.1 s (fun j hj => (H j (by omega)).trans (by rw [e0]; exact ndAt_left _ _ hj))
    have h2 := nodes_sub kd op vl c hg.2 (s + a.nodes.length) (fun j hj => by
      have h := H (a.nodes.length + j) (by omega)
      rw [← Nat.add_assoc] at h
      exact h.trans (by rw [e0, ndAt_right, ndAt_left _ _ hj]))
    have h3 := H (a.nodes.length + c.nodes.length) (by omega)
    have h4 : ndAt (Cnd.bin x a c).nodes (a.nodes.length + c.nodes.length) = ((if x then 3 else 4), mt, mt) := by
      rw [e0, ndAt_right]; exact ndAt_right c.nodes [_] 0
    rw [h4] at h3
    rw [e, show s + (a.nodes.length + c.nodes.length + 1) = s + a.nodes.length + c.nodes.length + 1 by omega]
    refine .bin h1 h2 ?_
    have := congrArg (·.1) h3
    rw [show s + a.nodes.length + c.nodes.length = s + (a.nodes.length + c.nodes.length) by omega]
    exact this
theorem nodes_list {t : Cnd} (hg : t.good) : Sub (ndK t.nodes) (ndO t.nodes) (ndV t.nodes) 0 t.nodes.length t := by
  have := nodes_sub (ndK t.nodes) (ndO t.nodes) (ndV t.nodes) t hg 0 (fun j hj => by rw [Nat.zero_add]; rfl)
  rwa [Nat.zero_add] at this
/-- the nodes of a list are its tree's -/
theorem Sub.nodes {kd : Nat → Int} {op vl : Nat → ByteArray} {n : Nat} (hem : ∀ j, j < n → kd j ≠ 1 → op j = mt ∧ vl j = mt) {s e : Nat} {t : Cnd} (h : Sub kd op vl s e t) : e ≤ n → e = s + t.nodes.length ∧ ∀ j, j < t.nodes.length → (kd (s + j), op (s + j), vl (s + j)) = ndAt t.nodes j := by
  induction h with
  | @tt s h =>
    intro hn
    refine ⟨rfl, fun j hj => ?_⟩
    obtain rfl : j = 0 := by simp [Cnd.nodes] at hj; exact hj
    obtain ⟨a, b⟩ := hem s (by omega) (by omega)
    show (kd s, op s, vl s) = (0, mt, mt)
    rw [h, a, b]
  | @is s h ho hv =>
    intro hn
    refine ⟨rfl, fun j hj => ?_⟩
    obtain rfl : j = 0 := by simp [Cnd.nodes] at hj; exact hj
    show (kd s, op s, vl s) = (1, op s, vl s)
    rw [h]
  | @no s e a r h ih =>
    intro hn
    obtain ⟨h1, h2⟩ := ih (by omega)
    have el : (Cnd.no a).nodes.length = a.nodes.length + 1 := by simp [Cnd.nodes]
    refine ⟨by omega, fun j hj => ?_⟩
    by_cases hj2 : j < a.nodes.length
    · exact (h2 j hj2).trans (ndAt_left a.nodes [(2, mt, mt)] hj2).symm
    · obtain rfl : j = a.nodes.length := by omega
      obtain ⟨p, q⟩ := hem e (by omega) (by omega)
      rw [show ndAt (Cnd.no a).nodes a.nodes.length = (2, mt, mt) from ndAt_right a.nodes [(2, mt, mt)] 0, ← h1, h, p, q]
  | @bin s m e x a c r q h ih1 ih2 =>
    intro hn
    have hq := q.lt
    obtain ⟨h1, h2⟩ := ih1 (by omega)
    obtain ⟨h3, h4⟩ := ih2 (by omega)
    have el : (Cnd.bin x a c).nodes.length = a.nodes.length + c.nodes.length + 1 := by simp [Cnd.nodes, Nat.add_assoc]
    have e0 : (Cnd.bin x a c).nodes = a.nodes ++ (c.nodes ++ [((if x then 3 else 4), mt, mt)]) := by simp [Cnd.nodes]
    refine ⟨by omega, fun j hj => ?_⟩
    rw [e0]
    by_cases hj2 : j < a.nodes.length
    · exact (h2 j hj2).trans (ndAt_left _ _ hj2).symm
    · obtain ⟨i, rfl⟩ : ∃ i, j = a.nodes.length + i := ⟨j - a.nodes.length, by omega⟩
      rw [ndAt_right, show s + (a.nodes.length + i) = m + i by omega]
      by_cases hi : i < c.nodes.length
      · exact (h4 i hi).trans (ndAt_left _ _ hi).symm
      · obtain rfl : i = c.nodes.length := by omega
        obtain ⟨p, q⟩ := hem e (by omega) (by rw [h]; split <;> omega)
        rw [show ndAt (c.nodes ++ [((if x then 3 else 4), mt, mt)]) c.nodes.length = ((if x then 3 else 4), mt, mt) from ndAt_right c.nodes [_] 0, ← h3, h, p, q]
end Go.Proofs.Ytkkhaamklbolmaa
