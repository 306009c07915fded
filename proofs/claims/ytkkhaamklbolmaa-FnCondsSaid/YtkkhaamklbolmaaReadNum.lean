/-
  What the two readers of conditions make of a text, as relations; how far each comes, and that they agree (no program in sight).
-/
import Derived.Test.YtkkhaamklbolmaaNegNum
namespace Go.Proofs.Ytkkhaamklbolmaa
open Go.RowKit
set_option linter.unusedVariables false
set_option linter.unusedSimpArgs false

/-- t stands at place i -/
def isAt (S : ByteArray) (i : Nat) (t : ByteArray) : Bool := decide (i + t.size ≤ S.size ∧ S.extract i (i + t.size) = t)
/-- a letter, a digit or '-' stands at place k -/
def isW (S : ByteArray) (k : Nat) : Prop := (65 ≤ byt S k ∧ byt S k ≤ 90) ∨ (48 ≤ byt S k ∧ byt S k ≤ 57) ∨ byt S k = 45
instance (S : ByteArray) (k : Nat) : Decidable (isW S k) := by unfold isW; infer_instance
structure WEnd (S : ByteArray) (i j : Nat) : Prop where
  le : i ≤ j
  top : j ≤ S.size
  all : ∀ k, i ≤ k → k < j → isW S k
  no : j < S.size → ¬ isW S j
theorem WEnd.uniq {S : ByteArray} {i j k : Nat} (h : WEnd S i j) (g : WEnd S i k) : j = k := by
  rcases Nat.lt_trichotomy j k with x | x | x
  · exact absurd (g.all j h.le x) (h.no (by have := g.top; omega))
  · exact x
  · exact absurd (h.all k g.le x) (g.no (by have := h.top; omega))
structure St where
  i : Nat
  L : List Nd
  bad : Bool
def tAmp : ByteArray := ⟨#[32, 38, 32]⟩
def tBar : ByteArray := ⟨#[32, 124, 32]⟩
def tNot : ByteArray := ⟨#[33]⟩
def tOpen : ByteArray := ⟨#[40]⟩
def tShut : ByteArray := ⟨#[41]⟩
def tEq : ByteArray := ⟨#[61]⟩
def tTrue : ByteArray := ⟨#[84, 82, 85, 69]⟩
def iAdd (s : St) (x : Nd) : St := ⟨s.i, s.L ++ [x], s.bad || decide (30 < s.L.length + 1)⟩
def sAdd (s : St) (x : Nd) : St := ⟨s.i, s.L ++ [x], s.bad⟩
inductive Tail (S : ByteArray) (t : ByteArray) (x : Nd) (add : St → Nd → St) (f : St → St → Prop) : St → St → Prop
  | stop {s : St} (h : s.bad = true ∨ isAt S s.i t = false) : Tail S t x add f s s
  | more {s a b : St} (hb : s.bad = false) (h : isAt S s.i t = true) (hf : f ⟨s.i + t.size, s.L, false⟩ a) (ht : Tail S t x add f (add a x) b) : Tail S t x add f s b
def AndR (S : ByteArray) (add : St → Nd → St) (f : St → St → Prop) (s b : St) : Prop := ∃ a, f s a ∧ Tail S tAmp (3, mt, mt) add f a b
def OrR (S : ByteArray) (add : St → Nd → St) (f : St → St → Prop) (s b : St) : Prop := ∃ a, AndR S add f s a ∧ Tail S tBar (4, mt, mt) add (AndR S add f) a b
/-- the program's leaf -/
def leafI (S : ByteArray) (s b : St) : Prop := ∃ j, WEnd S s.i j ∧
  ((isC (S.extract s.i j) = false ∧ b = ⟨j, s.L, true⟩) ∨
   (isC (S.extract s.i j) = true ∧ isAt S j tEq = true ∧ ∃ k, WEnd S (j + 1) k ∧ b = iAdd ⟨k, s.L, !isC (S.extract (j + 1) k)⟩ (1, S.extract s.i j, S.extract (j + 1) k)) ∨
   (isC (S.extract s.i j) = true ∧ isAt S j tEq = false ∧ S.extract s.i j = tTrue ∧ b = iAdd ⟨j, s.L, false⟩ (0, mt, mt)) ∨
   (isC (S.extract s.i j) = true ∧ isAt S j tEq = false ∧ S.extract s.i j ≠ tTrue ∧ b = ⟨j, s.L, true⟩))
/-- the program's simple part, d levels left -/
def iNot (S : ByteArray) : Nat → St → St → Prop
  | 0, s, b => b = ⟨s.i, s.L, true⟩
  | d + 1, s, b =>
    (isAt S s.i tNot = true ∧ ∃ a, iNot S d ⟨s.i + 1, s.L, false⟩ a ∧ b = iAdd a (2, mt, mt)) ∨
    (isAt S s.i tNot = false ∧ isAt S s.i tOpen = true ∧ ∃ a, OrR S iAdd (iNot S d) ⟨s.i + 1, s.L, false⟩ a ∧
      ((a.bad = false ∧ isAt S a.i tShut = true ∧ b = ⟨a.i + 1, a.L, false⟩) ∨ ((a.bad = true ∨ isAt S a.i tShut = false) ∧ b = ⟨a.i, a.L, true⟩))) ∨
    (isAt S s.i tNot = false ∧ isAt S s.i tOpen = false ∧ leafI S s b)
/-- the reference's leaf -/
def leafS (S : ByteArray) (s b : St) : Prop := ∃ j, WEnd S s.i j ∧
  ((isAt S j tEq = true ∧ ∃ k, WEnd S (j + 1) k ∧ b = ⟨k, s.L ++ [(1, S.extract s.i j, S.extract (j + 1) k)], false⟩) ∨
   (isAt S j tEq = false ∧ S.extract s.i j = tTrue ∧ b = ⟨j, s.L ++ [(0, mt, mt)], false⟩) ∨
   (isAt S j tEq = false ∧ S.extract s.i j ≠ tTrue ∧ b = ⟨j, s.L ++ [(0, mt, mt)], true⟩))
def sNot (S : ByteArray) : Nat → St → St → Prop
  | 0, s, b => b = ⟨s.i, s.L, true⟩
  | d + 1, s, b =>
    (30 < s.L.length ∧ b = ⟨s.i, s.L, true⟩) ∨
    (s.L.length ≤ 30 ∧ isAt S s.i tOpen = true ∧ ∃ a, OrR S sAdd (sNot S d) ⟨s.i + 1, s.L, false⟩ a ∧
      ((isAt S a.i tShut = true ∧ b = ⟨a.i + 1, a.L, a.bad⟩) ∨ (isAt S a.i tShut = false ∧ b = ⟨a.i, a.L, true⟩))) ∨
    (s.L.length ≤ 30 ∧ isAt S s.i tOpen = false ∧ isAt S s.i tNot = true ∧ ∃ a, sNot S d ⟨s.i + 1, s.L, false⟩ a ∧ b = sAdd a (2, mt, mt)) ∨
    (s.L.length ≤ 30 ∧ isAt S s.i tOpen = false ∧ isAt S s.i tNot = false ∧ leafS S s b)

/-! ### what grows, and how far -/
theorem isAt_le {S t : ByteArray} {i : Nat} (h : isAt S i t = true) : i + t.size ≤ S.size := by
  unfold isAt at h; exact (of_decide_eq_true h).1
theorem isAt_of {S t : ByteArray} {i : Nat} (h : isAt S i t = true) : S.extract i (i + t.size) = t := by
  unfold isAt at h; exact (of_decide_eq_true h).2
/-- from s the reader comes to b: the list grows, by c at most above top if it is short at first; the place goes on -/
structure Step (S : ByteArray) (N : Nat) (s b : St) : Prop where
  pre : ∃ M, b.L = s.L ++ M
  le : s.i ≤ b.i
  top : b.i ≤ S.size
  len : b.L.length ≤ N
theorem Step.trans {S : ByteArray} {N M : Nat} {s a b : St} (h : Step S N s a) (g : Step S M a b) : Step S M s b := by
  obtain ⟨x, hx⟩ := h.pre
  obtain ⟨y, hy⟩ := g.pre
  exact ⟨⟨x ++ y, by rw [hy, hx, List.append_assoc]⟩, Nat.le_trans h.le g.le, g.top, g.len⟩
theorem Step.mono {S : ByteArray} {N M : Nat} {s a : St} (h : Step S N s a) (hm : N ≤ M) : Step S M s a := ⟨h.pre, h.le, h.top, Nat.le_trans h.len hm⟩
def Small (s : St) : Prop := s.bad = false → s.L.length ≤ 30
theorem small_iAdd (s : St) (x : Nd) : Small (iAdd s x) := by
  intro h
  simp [iAdd] at h
  simp only [iAdd, List.length_append, List.length_singleton]
  omega
theorem iTail_step {S t : ByteArray} {x : Nd} {f : St → St → Prop} {N : Nat} (hN : 31 ≤ N) (hf : ∀ s a, s.bad = false → s.i ≤ S.size → s.L.length ≤ 30 → f s a → Step S N s a ∧ Small a) {s b : St} (h : Tail S t x iAdd f s b) :
    s.i ≤ S.size → Small s → s.L.length ≤ N + 1 → Step S (N + 1) s b ∧ Small b := by
  induction h with
  | stop h => intro h1 h2 h3; exact ⟨⟨⟨[], by simp⟩, Nat.le_refl _, h1, h3⟩, h2⟩
  | @more s a b hb h hf' ht ih =>
    intro h1 h2 h3
    have hl := isAt_le h
    obtain ⟨g1, g2⟩ := hf ⟨s.i + t.size, s.L, false⟩ a rfl hl (h2 hb) hf'
    have e1 : Step S (N + 1) s (iAdd a x) := by
      obtain ⟨M, hM⟩ := g1.pre
      refine ⟨⟨M ++ [x], ?_⟩, ?_, g1.top, ?_⟩
      · show a.L ++ [x] = _; rw [hM, List.append_assoc]
      · have := g1.le; show s.i ≤ a.i; simp at this; omega
      · have := g1.len; show (a.L ++ [x]).length ≤ _; simp; omega
    obtain ⟨k1, k2⟩ := ih e1.top (small_iAdd _ _) e1.len
    exact ⟨e1.trans k1, k2⟩
theorem iAnd_step {S : ByteArray} {f : St → St → Prop} {N : Nat} (hN : 31 ≤ N) (hf : ∀ s a, s.bad = false → s.i ≤ S.size → s.L.length ≤ 30 → f s a → Step S N s a ∧ Small a) {s b : St} (h : AndR S iAdd f s b) (h0 : s.bad = false) (h1 : s.i ≤ S.size) (h2 : s.L.length ≤ 30) : Step S (N + 1) s b ∧ Small b := by
  obtain ⟨a, ha, ht⟩ := h
  obtain ⟨g1, g2⟩ := hf s a h0 h1 h2 ha
  obtain ⟨k1, k2⟩ := iTail_step hN hf ht g1.top g2 (by have := g1.len; omega)
  exact ⟨g1.trans k1, k2⟩
theorem iOr_step {S : ByteArray} {f : St → St → Prop} {N : Nat} (hN : 31 ≤ N) (hf : ∀ s a, s.bad = false → s.i ≤ S.size → s.L.length ≤ 30 → f s a → Step S N s a ∧ Small a) {s b : St} (h : OrR S iAdd f s b) (h0 : s.bad = false) (h1 : s.i ≤ S.size) (h2 : s.L.length ≤ 30) : Step S (N + 2) s b ∧ Small b := by
  obtain ⟨a, ha, ht⟩ := h
  obtain ⟨g1, g2⟩ := iAnd_step hN hf ha h0 h1 h2
  obtain ⟨k1, k2⟩ := iTail_step (N := N + 1) (by omega) (fun s a => fun p q r w => iAnd_step hN hf w p q r) ht g1.top g2 (by have := g1.len; omega)
  exact ⟨g1.trans k1, k2⟩
theorem leafI_step {S : ByteArray} {s b : St} (h : leafI S s b) (h2 : s.L.length ≤ 30) : Step S 31 s b ∧ Small b := by
  obtain ⟨j, hj, h⟩ := h
  rcases h with ⟨_, rfl⟩ | ⟨_, _, k, hk, rfl⟩ | ⟨_, _, _, rfl⟩ | ⟨_, _, _, rfl⟩
  · exact ⟨⟨⟨[], by simp⟩, hj.le, hj.top, by show s.L.length ≤ 31; omega⟩, fun h => by cases h⟩
  · exact ⟨⟨⟨_, rfl⟩, by have := hj.le; have := hk.le; show s.i ≤ k; omega, hk.top, by simp [iAdd]; omega⟩, small_iAdd _ _⟩
  · exact ⟨⟨⟨_, rfl⟩, hj.le, hj.top, by simp [iAdd]; omega⟩, small_iAdd _ _⟩
  · exact ⟨⟨⟨[], by simp⟩, hj.le, hj.top, by show s.L.length ≤ 31; omega⟩, fun h => by cases h⟩
theorem sz1 {S : ByteArray} {i : Nat} {t : ByteArray} (ht : t.size = 1) (h : isAt S i t = true) : i + 1 ≤ S.size := by have := isAt_le h; omega
theorem iNot_step (S : ByteArray) : ∀ (d : Nat) (s b : St), s.bad = false → s.i ≤ S.size → s.L.length ≤ 30 → iNot S d s b → Step S (31 + 3 * d) s b ∧ Small b := by
  intro d
  induction d with
  | zero =>
    intro s b h0 h1 h2 h
    simp only [iNot] at h
    subst h
    exact ⟨⟨⟨[], by simp⟩, Nat.le_refl _, h1, by show s.L.length ≤ _; omega⟩, fun h => by cases h⟩
  | succ d ih =>
    intro s b h0 h1 h2 h
    simp only [iNot] at h
    rcases h with ⟨e, a, ha, rfl⟩ | ⟨_, e, a, ha, h⟩ | ⟨_, _, h⟩
    · obtain ⟨g1, g2⟩ := ih ⟨s.i + 1, s.L, false⟩ a rfl (sz1 rfl e) h2 ha
      obtain ⟨M, hM⟩ := g1.pre
      exact ⟨⟨⟨M ++ [(2, mt, mt)], by simp only [iAdd]; rw [hM, List.append_assoc]⟩, by have := g1.le; show s.i ≤ a.i; simp at this; omega, g1.top, by have := g1.len; simp [iAdd]; omega⟩, small_iAdd _ _⟩
    · obtain ⟨g1, g2⟩ := iOr_step (N := 31 + 3 * d) (by omega) ih ha rfl (sz1 rfl e) h2
      rcases h with ⟨hb, e2, rfl⟩ | ⟨_, rfl⟩
      · exact ⟨⟨g1.pre, by have := g1.le; show s.i ≤ a.i + 1; simp at this; omega, sz1 rfl e2, by have := g1.len; show a.L.length ≤ _; omega⟩, fun _ => g2 hb⟩
      · exact ⟨⟨g1.pre, by have := g1.le; show s.i ≤ a.i; simp at this; omega, g1.top, by have := g1.len; show a.L.length ≤ _; omega⟩, fun h => by cases h⟩
    · obtain ⟨g1, g2⟩ := leafI_step h h2
      exact ⟨g1.mono (by omega), g2⟩
theorem sTail_step {S t : ByteArray} {x : Nd} {f : St → St → Prop} {N : Nat} (hN : 31 ≤ N) (hf : ∀ s a, s.bad = false → s.i ≤ S.size → f s a → (s.L.length ≤ 30 → Step S N s a) ∧ (30 < s.L.length → a = ⟨s.i, s.L, true⟩)) {s b : St} (h : Tail S t x sAdd f s b) :
    s.i ≤ S.size → (s.bad = false → s.L.length ≤ N + 1) → s.L.length ≤ N + 2 → Step S (N + 2) s b := by
  induction h with
  | stop h => intro h1 h2 h3; exact ⟨⟨[], by simp⟩, Nat.le_refl _, h1, h3⟩
  | @more s a b hb h hf' ht ih =>
    intro h1 h2 h3
    have hl := isAt_le h
    obtain ⟨g1, g2⟩ := hf ⟨s.i + t.size, s.L, false⟩ a rfl hl hf'
    by_cases h30 : s.L.length ≤ 30
    · have g1 := g1 h30
      have e1 : Step S (N + 1) s (sAdd a x) := by
        obtain ⟨M, hM⟩ := g1.pre
        refine ⟨⟨M ++ [x], ?_⟩, ?_, g1.top, ?_⟩
        · show a.L ++ [x] = _; rw [hM, List.append_assoc]
        · have := g1.le; show s.i ≤ a.i; simp at this; omega
        · have := g1.len; show (a.L ++ [x]).length ≤ _; simp; omega
      exact e1.trans (ih e1.top (fun _ => e1.len) (by have := e1.len; omega))
    · have g2 := g2 (by show 30 < s.L.length; omega)
      subst g2
      have e1 : Step S (N + 2) s (sAdd ⟨s.i + t.size, s.L, true⟩ x) := ⟨⟨[x], rfl⟩, by show s.i ≤ s.i + t.size; omega, hl, by have := h2 hb; simp [sAdd]; omega⟩
      exact e1.trans (ih e1.top (fun h => by cases h) e1.len)
theorem sAnd_step {S : ByteArray} {f : St → St → Prop} {N : Nat} (hN : 31 ≤ N) (hf : ∀ s a, s.bad = false → s.i ≤ S.size → f s a → (s.L.length ≤ 30 → Step S N s a) ∧ (30 < s.L.length → a = ⟨s.i, s.L, true⟩)) {s b : St} (h : AndR S sAdd f s b) (h0 : s.bad = false) (h1 : s.i ≤ S.size) : (s.L.length ≤ 30 → Step S (N + 2) s b) ∧ (30 < s.L.length → b = ⟨s.i, s.L, true⟩) := by
  obtain ⟨a, ha, ht⟩ := h
  obtain ⟨g1, g2⟩ := hf s a h0 h1 ha
  refine ⟨fun h => ?_, fun h => ?_⟩
  · have g1 := g1 h
    exact g1.trans (sTail_step hN hf ht g1.top (fun _ => by have := g1.len; omega) (by have := g1.len; omega))
  · have g2 := g2 h
    subst g2
    cases ht with
    | stop _ => rfl
    | more hb _ _ _ => cases hb
theorem sOr_step {S : ByteArray} {f : St → St → Prop} {N : Nat} (hN : 31 ≤ N) (hf : ∀ s a, s.bad = false → s.i ≤ S.size → f s a → (s.L.length ≤ 30 → Step S N s a) ∧ (30 < s.L.length → a = ⟨s.i, s.L, true⟩)) {s b : St} (h : OrR S sAdd f s b) (h0 : s.bad = false) (h1 : s.i ≤ S.size) (h2 : s.L.length ≤ 30) : Step S (N + 4) s b := by
  obtain ⟨a, ha, ht⟩ := h
  have g1 := (sAnd_step hN hf ha h0 h1).1 h2
  exact g1.trans (sTail_step (N := N + 2) (by omega) (fun s a => fun p q w => sAnd_step hN hf w p q) ht g1.top (fun _ => by have := g1.len; omega) (by have := g1.len; omega))
theorem leafS_step {S : ByteArray} {s b : St} (h : leafS S s b) (h2 : s.L.length ≤ 30) : Step S 31 s b := by
  obtain ⟨j, hj, h⟩ := h
  rcases h with ⟨_, k, hk, rfl⟩ | ⟨_, _, rfl⟩ | ⟨_, _, rfl⟩
  · exact ⟨⟨_, rfl⟩, by have := hj.le; have := hk.le; show s.i ≤ k; omega, hk.top, by simp; omega⟩
  · exact ⟨⟨_, rfl⟩, hj.le, hj.top, by simp; omega⟩
  · exact ⟨⟨_, rfl⟩, hj.le, hj.top, by simp; omega⟩
theorem sNot_step (S : ByteArray) : ∀ (d : Nat) (s b : St), s.bad = false → s.i ≤ S.size → sNot S d s b → (s.L.length ≤ 30 → Step S (31 + 5 * d) s b) ∧ (30 < s.L.length → b = ⟨s.i, s.L, true⟩) := by
  intro d
  induction d with
  | zero =>
    intro s b h0 h1 h
    simp only [sNot] at h
    subst h
    exact ⟨fun h2 => ⟨⟨[], by simp⟩, Nat.le_refl _, h1, by show s.L.length ≤ _; omega⟩, fun _ => rfl⟩
  | succ d ih =>
    intro s b h0 h1 h
    simp only [sNot] at h
    rcases h with ⟨e, rfl⟩ | ⟨h2, e, a, ha, h⟩ | ⟨h2, _, e, a, ha, rfl⟩ | ⟨h2, _, _, h⟩
    · exact ⟨fun h2 => ⟨⟨[], by simp⟩, Nat.le_refl _, h1, by show s.L.length ≤ _; omega⟩, fun _ => rfl⟩
    · refine ⟨fun _ => ?_, fun h => by omega⟩
      have g1 := sOr_step (N := 31 + 5 * d) (by omega) ih ha rfl (sz1 rfl e) h2
      rcases h with ⟨e2, rfl⟩ | ⟨_, rfl⟩
      · exact ⟨g1.pre, by have := g1.le; show s.i ≤ a.i + 1; simp at this; omega, sz1 rfl e2, by have := g1.len; show a.L.length ≤ _; omega⟩
      · exact ⟨g1.pre, by have := g1.le; show s.i ≤ a.i; simp at this; omega, g1.top, by have := g1.len; show a.L.length ≤ _; omega⟩
    · refine ⟨fun _ => ?_, fun h => by omega⟩
      have g1 := (ih ⟨s.i + 1, s.L, false⟩ a rfl (sz1 rfl e) ha).1 h2
      obtain ⟨M, hM⟩ := g1.pre
      exact ⟨⟨M ++ [(2, mt, mt)], by simp only [sAdd]; rw [hM, List.append_assoc]⟩, by have := g1.le; show s.i ≤ a.i; simp at this; omega, g1.top, by have := g1.len; simp [sAdd]; omega⟩
    · exact ⟨fun _ => (leafS_step h h2).mono (by omega), fun h => by omega⟩
/-! ### the two readers agree -/
def Codes (L : List Nd) : Prop := ∀ x, x ∈ L → x.1 = 1 → isC x.2.1 = true ∧ isC x.2.2 = true
def Good (L : List Nd) : Prop := L.length ≤ 30 ∧ Codes L
theorem Good.pre {L M : List Nd} (h : Good (L ++ M)) : Good L :=
  ⟨by have := h.1; simp at this; omega, fun x hx => h.2 x (List.mem_append_left _ hx)⟩
def Agree (a b : St) : Prop := (a.bad = false → b = a) ∧ (b.bad = false → Good b.L → a = b)
theorem tail_bad {S t : ByteArray} {x : Nd} {add : St → Nd → St} {f : St → St → Prop} {s b : St} (h : Tail S t x add f s b) (hb : s.bad = true) : b = s := by
  cases h with
  | stop _ => rfl
  | more h0 _ _ _ => rw [hb] at h0; cases h0
theorem tail_pre {S t : ByteArray} {x : Nd} {f : St → St → Prop} (hf : ∀ s a, f s a → ∃ M, a.L = s.L ++ M) {s b : St} (h : Tail S t x sAdd f s b) : ∃ M, b.L = s.L ++ M := by
  induction h with
  | stop _ => exact ⟨[], by simp⟩
  | @more s a b hb h hf' ht ih =>
    obtain ⟨M, hM⟩ := hf _ _ hf'
    obtain ⟨M', hM'⟩ := ih
    refine ⟨M ++ [x] ++ M', ?_⟩
    rw [hM']; show (a.L ++ [x]) ++ M' = _
    rw [hM]; simp
theorem and_pre {S : ByteArray} {f : St → St → Prop} (hf : ∀ s a, f s a → ∃ M, a.L = s.L ++ M) {s b : St} (h : AndR S sAdd f s b) : ∃ M, b.L = s.L ++ M := by
  obtain ⟨a, ha, ht⟩ := h
  obtain ⟨M, hM⟩ := hf _ _ ha
  obtain ⟨M', hM'⟩ := tail_pre hf ht
  exact ⟨M ++ M', by rw [hM', hM, List.append_assoc]⟩
theorem or_pre {S : ByteArray} {f : St → St → Prop} (hf : ∀ s a, f s a → ∃ M, a.L = s.L ++ M) {s b : St} (h : OrR S sAdd f s b) : ∃ M, b.L = s.L ++ M := by
  obtain ⟨a, ha, ht⟩ := h
  obtain ⟨M, hM⟩ := and_pre hf ha
  obtain ⟨M', hM'⟩ := tail_pre (fun s a h => and_pre hf h) ht
  exact ⟨M ++ M', by rw [hM', hM, List.append_assoc]⟩
theorem sNot_pre (S : ByteArray) : ∀ (d : Nat) (s b : St), sNot S d s b → ∃ M, b.L = s.L ++ M := by
  intro d
  induction d with
  | zero => intro s b h; simp only [sNot] at h; subst h; exact ⟨[], by simp⟩
  | succ d ih =>
    intro s b h
    simp only [sNot] at h
    rcases h with ⟨e, rfl⟩ | ⟨h2, e, a, ha, h⟩ | ⟨h2, _, e, a, ha, rfl⟩ | ⟨h2, _, _, j, hj, h⟩
    · exact ⟨[], by simp⟩
    · obtain ⟨M, hM⟩ := or_pre ih ha
      rcases h with ⟨_, rfl⟩ | ⟨_, rfl⟩ <;> exact ⟨M, hM⟩
    · obtain ⟨M, hM⟩ := ih _ _ ha
      exact ⟨M ++ [(2, mt, mt)], by simp only [sAdd]; rw [hM, List.append_assoc]⟩
    · rcases h with ⟨_, k, hk, rfl⟩ | ⟨_, _, rfl⟩ | ⟨_, _, rfl⟩ <;> exact ⟨_, rfl⟩
theorem iAdd_good {s : St} {x : Nd} (h : (iAdd s x).bad = false) : s.bad = false ∧ s.L.length + 1 ≤ 30 ∧ iAdd s x = sAdd s x := by
  have h1 : s.bad = false := by simp [iAdd] at h; exact h.1
  have h2 : s.L.length + 1 ≤ 30 := by simp [iAdd] at h; omega
  exact ⟨h1, h2, by simp only [iAdd, sAdd]; rw [show decide (30 < s.L.length + 1) = false from decide_eq_false (by omega), Bool.or_false]⟩
theorem iAdd_same {s : St} {x : Nd} (h1 : s.bad = false) (h2 : (s.L ++ [x]).length ≤ 30) : iAdd s x = sAdd s x := by
  simp only [iAdd, sAdd]
  rw [show decide (30 < s.L.length + 1) = false from decide_eq_false (by simp at h2; omega), Bool.or_false]
theorem tail_one {S t : ByteArray} {x : Nd} {f g : St → St → Prop} (hfg : ∀ s a b, s.bad = false → s.L.length ≤ 30 → f s a → g s b → Agree a b) {s a : St} (h : Tail S t x iAdd f s a) :
    Small s → a.bad = false → ∀ b, Tail S t x sAdd g s b → b = a := by
  induction h with
  | @stop s h =>
    intro hs ha b hb
    cases hb with
    | stop _ => rfl
    | more h0 h1 _ _ => rcases h with h | h <;> simp_all
  | @more s c a hb h hf' ht ih =>
    intro hs ha b hb2
    have hg : (iAdd c x).bad = false := by
      cases e : (iAdd c x).bad
      · rfl
      · have := tail_bad ht e; subst this; rw [ha] at e; cases e
    obtain ⟨c0, c1, c2⟩ := iAdd_good hg
    cases hb2 with
    | stop h => rcases h with h | h <;> simp_all
    | @more _ c' _ _ _ hg' ht' =>
      have := (hfg ⟨_, _, false⟩ _ _ rfl (hs hb) hf' hg').1 c0
      subst this
      exact ih (small_iAdd _ _) ha b (by rw [c2]; exact ht')
theorem tail_two {S t : ByteArray} {x : Nd} {f g : St → St → Prop} (hfg : ∀ s a b, s.bad = false → s.L.length ≤ 30 → f s a → g s b → Agree a b) (hp : ∀ s a, g s a → ∃ M, a.L = s.L ++ M) {s b : St} (h : Tail S t x sAdd g s b) :
    Small s → b.bad = false → Good b.L → ∀ a, Tail S t x iAdd f s a → a = b := by
  induction h with
  | @stop s h =>
    intro hs hb hG a ha
    cases ha with
    | stop _ => rfl
    | more h0 h1 _ _ => rcases h with h | h <;> simp_all
  | @more s c b hb h hf' ht ih =>
    intro hs hb1 hG a ha
    have hg : c.bad = false := by
      cases e : c.bad
      · rfl
      · have := tail_bad ht (show (sAdd c x).bad = true from e); subst this; rw [show (sAdd c x).bad = c.bad from rfl, e] at hb1; cases hb1
    obtain ⟨M, hM⟩ := tail_pre hp ht
    have hG2 : Good (c.L ++ [x]) := by rw [hM] at hG; exact hG.pre
    cases ha with
    | stop h => rcases h with h | h <;> simp_all
    | @more _ c' _ _ _ hg' ht' =>
      have := (hfg ⟨_, _, false⟩ _ _ rfl (hs hb) hg' hf').2 hg hG2.pre
      subst this
      have e := iAdd_same (x := x) hg hG2.1
      exact ih (by rw [← e]; exact small_iAdd _ _) hb1 hG a (by rw [← e]; exact ht')
theorem tail_agree {S t : ByteArray} {x : Nd} {f g : St → St → Prop} (hfg : ∀ s a b, s.bad = false → s.L.length ≤ 30 → f s a → g s b → Agree a b) (hp : ∀ s a, g s a → ∃ M, a.L = s.L ++ M)
    {a b a1 b1 : St} (h1 : Agree a1 b1) (hs : Small a1) (ha : Tail S t x iAdd f a1 a) (hb : Tail S t x sAdd g b1 b) : Agree a b := by
  refine ⟨fun h => ?_, fun h hG => ?_⟩
  · have e : a1.bad = false := by
      cases e : a1.bad
      · rfl
      · have := tail_bad ha e; subst this; rw [h] at e; cases e
    have := h1.1 e
    subst this
    exact tail_one hfg ha hs h b hb
  · have e : b1.bad = false := by
      cases e : b1.bad
      · rfl
      · have := tail_bad hb e; subst this; rw [h] at e; cases e
    obtain ⟨M, hM⟩ := tail_pre hp hb
    have := h1.2 e (by rw [hM] at hG; exact hG.pre)
    subst this
    exact tail_two hfg hp hb hs h hG a ha
theorem and_agree {S : ByteArray} {f g : St → St → Prop} (hfg : ∀ s a b, s.bad = false → s.L.length ≤ 30 → f s a → g s b → Agree a b) (hp : ∀ s a, g s a → ∃ M, a.L = s.L ++ M) (hsm : ∀ s a, s.bad = false → s.L.length ≤ 30 → f s a → Small a)
    {s a b : St} (h0 : s.bad = false) (h1 : s.L.length ≤ 30) (ha : AndR S iAdd f s a) (hb : AndR S sAdd g s b) : Agree a b := by
  obtain ⟨a1, ha1, hat⟩ := ha
  obtain ⟨b1, hb1, hbt⟩ := hb
  exact tail_agree hfg hp (hfg _ _ _ h0 h1 ha1 hb1) (hsm _ _ h0 h1 ha1) hat hbt
theorem tail_small {S t : ByteArray} {x : Nd} {f : St → St → Prop} {s a : St} (h : Tail S t x iAdd f s a) : Small s → Small a := by
  induction h with
  | stop _ => exact id
  | more _ _ _ _ ih => exact fun _ => ih (small_iAdd _ _)
theorem and_small {S : ByteArray} {f : St → St → Prop} (hsm : ∀ s a, s.bad = false → s.L.length ≤ 30 → f s a → Small a) {s a : St} (h0 : s.bad = false) (h1 : s.L.length ≤ 30) (ha : AndR S iAdd f s a) : Small a := by
  obtain ⟨a1, ha1, hat⟩ := ha
  exact tail_small hat (hsm _ _ h0 h1 ha1)
theorem or_agree {S : ByteArray} {f g : St → St → Prop} (hfg : ∀ s a b, s.bad = false → s.L.length ≤ 30 → f s a → g s b → Agree a b) (hp : ∀ s a, g s a → ∃ M, a.L = s.L ++ M) (hsm : ∀ s a, s.bad = false → s.L.length ≤ 30 → f s a → Small a)
    {s a b : St} (h0 : s.bad = false) (h1 : s.L.length ≤ 30) (ha : OrR S iAdd f s a) (hb : OrR S sAdd g s b) : Agree a b := by
  obtain ⟨a1, ha1, hat⟩ := ha
  obtain ⟨b1, hb1, hbt⟩ := hb
  exact tail_agree (fun s a b p q r w => and_agree hfg hp hsm p q r w) (fun s a h => and_pre hp h) (and_agree hfg hp hsm h0 h1 ha1 hb1) (and_small hsm h0 h1 ha1) hat hbt
theorem agree_bad {a b : St} (ha : a.bad = true) (hb : b.bad = true) : Agree a b := ⟨fun h => (by rw [ha] at h; cases h), fun h => (by rw [hb] at h; cases h)⟩
theorem agree_not {a b : St} (ha : a.bad = true) (hb : ¬ Good b.L) : Agree a b := ⟨fun h => (by rw [ha] at h; cases h), fun _ h => absurd h hb⟩
theorem agree_add {s : St} {x : Nd} : Agree (iAdd s x) (sAdd s x) :=
  ⟨fun h => (iAdd_good h).2.2.symm, fun h hG => iAdd_same h hG.1⟩
theorem leaf_agree {S : ByteArray} {s a b : St} (h1 : s.L.length ≤ 30) (hT : isC tTrue = true) (ha : leafI S s a) (hb : leafS S s b) : Agree a b := by
  obtain ⟨j, hj, ha⟩ := ha
  obtain ⟨j', hj', hb⟩ := hb
  have := hj.uniq hj'
  subst this
  rcases ha with ⟨c0, rfl⟩ | ⟨c0, c1, k, hk, rfl⟩ | ⟨c0, c1, c2, rfl⟩ | ⟨c0, c1, c2, rfl⟩
  · rcases hb with ⟨d1, k', hk', rfl⟩ | ⟨d1, d2, rfl⟩ | ⟨d1, d2, rfl⟩
    · refine agree_not rfl fun h => ?_
      have := (h.2 (1, S.extract s.i j, S.extract (j + 1) k') (by simp) rfl).1
      simp only at this
      rw [c0] at this; cases this
    · rw [d2, hT] at c0; cases c0
    · exact agree_bad rfl rfl
  · rcases hb with ⟨d1, k', hk', rfl⟩ | ⟨d1, d2, rfl⟩ | ⟨d1, d2, rfl⟩
    · have := hk.uniq hk'
      subst this
      cases e : isC (S.extract (j + 1) k)
      · refine agree_not (by simp [iAdd]) fun h => ?_
        have := (h.2 (1, S.extract s.i j, S.extract (j + 1) k) (by simp) rfl).2
        simp only at this
        rw [e] at this; cases this
      · exact agree_add (s := ⟨k, s.L, false⟩)
    · rw [c1] at d1; cases d1
    · rw [c1] at d1; cases d1
  · rcases hb with ⟨d1, k', hk', rfl⟩ | ⟨d1, d2, rfl⟩ | ⟨d1, d2, rfl⟩
    · rw [c1] at d1; cases d1
    · exact agree_add (s := ⟨j, s.L, false⟩)
    · exact absurd c2 d2
  · rcases hb with ⟨d1, k', hk', rfl⟩ | ⟨d1, d2, rfl⟩ | ⟨d1, d2, rfl⟩
    · rw [c1] at d1; cases d1
    · exact absurd d2 c2
    · exact agree_bad rfl rfl
theorem iNot_small (S : ByteArray) : ∀ (d : Nat) (s a : St), s.bad = false → s.L.length ≤ 30 → iNot S d s a → Small a := by
  intro d
  induction d with
  | zero => intro s b _ _ h; simp only [iNot] at h; subst h; exact fun h => by cases h
  | succ d ih =>
    intro s b h0 h2 h
    simp only [iNot] at h
    rcases h with ⟨e, a, ha, rfl⟩ | ⟨_, e, a, ⟨a1, ha1, ht⟩, h⟩ | ⟨_, _, h⟩
    · exact small_iAdd _ _
    · have g := tail_small ht (and_small (s := ⟨s.i + 1, s.L, false⟩) ih rfl h2 ha1)
      rcases h with ⟨hb, e2, rfl⟩ | ⟨_, rfl⟩
      · exact fun _ => g hb
      · exact fun h => by cases h
    · exact (leafI_step h h2).2
theorem not_open {S : ByteArray} {i : Nat} (h : isAt S i tNot = true) (g : isAt S i tOpen = true) : False := by
  have e1 := isAt_of h
  have e2 := isAt_of g
  rw [show tNot.size = 1 from rfl] at e1
  rw [show tOpen.size = 1 from rfl, e1] at e2
  exact absurd e2 (by decide)
theorem not_agree (S : ByteArray) (hT : isC tTrue = true) : ∀ (d : Nat) (s a b : St), s.bad = false → s.L.length ≤ 30 → iNot S d s a → sNot S d s b → Agree a b := by
  intro d
  induction d with
  | zero => intro s a b _ _ ha hb; simp only [iNot] at ha; simp only [sNot] at hb; subst ha; subst hb; exact agree_bad rfl rfl
  | succ d ih =>
    intro s a b h0 h1 ha hb
    simp only [iNot] at ha
    simp only [sNot] at hb
    rcases hb with ⟨e, _⟩ | ⟨_, e, b1, hb1, hb⟩ | ⟨_, e, e2, b1, hb1, rfl⟩ | ⟨_, e, e2, hb⟩
    · omega
    · rcases ha with ⟨f, a1, ha1, rfl⟩ | ⟨_, f, a1, ha1, ha⟩ | ⟨_, f, ha⟩
      · exact (not_open f e).elim
      · have A := or_agree (s := ⟨s.i + 1, s.L, false⟩) ih (sNot_pre S d) (iNot_small S d) rfl h1 ha1 hb1
        rcases ha with ⟨p1, p2, rfl⟩ | ⟨p1, rfl⟩
        · have := A.1 p1
          subst this
          rcases hb with ⟨q1, rfl⟩ | ⟨q1, rfl⟩
          · rw [p1]; exact ⟨fun _ => rfl, fun _ _ => rfl⟩
          · rw [p2] at q1; cases q1
        · refine ⟨fun h => (by cases h), fun h hG => ?_⟩
          rcases hb with ⟨q1, rfl⟩ | ⟨q1, rfl⟩
          · have := A.2 h hG
            subst this
            rcases p1 with p1 | p1
            · rw [p1] at h; cases h
            · rw [q1] at p1; cases p1
          · cases h
      · rw [e] at f; cases f
    · rcases ha with ⟨f, a1, ha1, rfl⟩ | ⟨_, f, a1, ha1, ha⟩ | ⟨f, _, ha⟩
      · have A := ih ⟨s.i + 1, s.L, false⟩ _ _ rfl h1 ha1 hb1
        refine ⟨fun h => ?_, fun h hG => ?_⟩
        · obtain ⟨p1, p2, p3⟩ := iAdd_good h
          have := A.1 p1
          subst this
          exact p3.symm
        · have := A.2 h hG.pre
          subst this
          exact iAdd_same h hG.1
      · rw [f] at e; cases e
      · rw [e2] at f; cases f
    · rcases ha with ⟨f, a1, ha1, rfl⟩ | ⟨_, f, a1, ha1, ha⟩ | ⟨f, _, ha⟩
      · rw [f] at e2; cases e2
      · rw [f] at e; cases e
      · exact leaf_agree h1 hT ha hb
/-- what both readers make of a text -/
theorem read_agree {S : ByteArray} (hT : isC tTrue = true) {a b : St} (ha : OrR S iAdd (iNot S 31) ⟨0, [], false⟩ a) (hb : OrR S sAdd (sNot S 31) ⟨0, [], false⟩ b) : Agree a b :=
  or_agree (not_agree S hT 31) (sNot_pre S 31) (iNot_small S 31) rfl (Nat.zero_le _) ha hb
end Go.Proofs.Ytkkhaamklbolmaa
