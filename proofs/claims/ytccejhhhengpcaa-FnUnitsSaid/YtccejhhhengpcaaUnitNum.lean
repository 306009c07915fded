/-
  Plain facts about tables of units: the search for the units that are reached, by the reference and by the program (no program in sight).
-/
import Derived.Test.YtccejhhhengpcaaNum
namespace Go.Proofs.Ytccejhhhengpcaa
open num
set_option linter.unusedVariables false

/-- what a ratio is worth -/
def val (p : Int × Int) : Rat := (p.1 : Rat) / (p.2 : Rat)
theorem cast_ne {b : Int} (h : b ≠ 0) : (b : Rat) ≠ 0 := by
  intro e; exact h (by exact_mod_cast e)
theorem val_mul {a b c d e f : Int} (hb : b ≠ 0) (hd : d ≠ 0) (hf : f ≠ 0) : val (a, b) * val (c, d) = val (e, f) ↔ (a * c) * f = (b * d) * e := by
  have h1 := cast_ne hb
  have h2 := cast_ne hd
  have h3 := cast_ne hf
  unfold val
  constructor
  · intro h
    have : ((a : Rat) * c) * f = (b * d) * e := by
      simp only at h
      grind
    exact_mod_cast this
  · intro h
    have : ((a : Rat) * c) * f = (b * d) * e := by exact_mod_cast h
    simp only
    grind
/-- a ratio -/
def isP (p : Int × Int) : Prop := isR p.1 p.2 = true
def mulP (p q : Int × Int) : Int × Int := mulR p.1 p.2 q.1 q.2
def divP (p q : Int × Int) : Int × Int := divR p.1 p.2 q.1 q.2
theorem isP_den {p : Int × Int} (h : isP p) : p.2 ≠ 0 := by have := (isR_iff.1 h).1; omega
theorem not_isP0 : ¬ isP (0, 0) := by unfold isP; rw [isR_zero]; exact fun h => by cases h
theorem isP_pos {p : Int × Int} (h : isP p) : 0 < p.2 := by have := (isR_iff.1 h).1; omega
theorem isP_bd {p : Int × Int} (h : isP p) : (-1000000000 ≤ p.1 ∧ p.1 ≤ 1000000000) ∧ (1 ≤ p.2 ∧ p.2 ≤ 1000000000) := by
  have := isR_iff.1 h; exact ⟨⟨this.2.2.1, this.2.2.2.1⟩, this.1, this.2.1⟩
theorem mulP_or (p q : Int × Int) : isP (mulP p q) ∨ mulP p q = (0, 0) := by
  unfold mulP mulR
  split
  · exact mk_isR _ _
  · exact .inr rfl
theorem divP_or (p q : Int × Int) : isP (divP p q) ∨ divP p q = (0, 0) := by
  unfold divP divR
  split
  · exact mk_isR _ _
  · exact .inr rfl
theorem mulP_den (p q : Int × Int) : 0 < (mulP p q).2 ↔ isP (mulP p q) := by
  constructor
  · intro h; rcases mulP_or p q with k | k
    · exact k
    · rw [k] at h; simp at h
  · exact isP_pos
theorem divP_den (p q : Int × Int) : 0 < (divP p q).2 ↔ isP (divP p q) := by
  constructor
  · intro h; rcases divP_or p q with k | k
    · exact k
    · rw [k] at h; simp at h
  · exact isP_pos
/-- products of ratios: a ratio r is the product just where it is worth it -/
theorem mulP_iff {p q r : Int × Int} (hp : isP p) (hq : isP q) (hr : isP r) : mulP p q = r ↔ val p * val q = val r := by
  obtain ⟨a, b⟩ := p; obtain ⟨c, d⟩ := q; obtain ⟨e, f⟩ := r
  have hb := isP_den hp; have hd := isP_den hq; have hf := isP_den hr
  rw [val_mul hb hd hf]
  unfold mulP mulR
  simp only
  rw [if_pos ⟨hp, hq⟩]
  have p1 := prod_le (isP_bd hp).1 (isP_bd hq).1
  have p2 := prod_le (a := b) (b := d) ⟨by have := (isP_bd hp).2.1; simp at this; omega, (isP_bd hp).2.2⟩ ⟨by have := (isP_bd hq).2.1; simp at this; omega, (isP_bd hq).2.2⟩
  simp only at p1 p2
  constructor
  · intro h
    have := mk_value (a * c) (b * d) (by rw [h]; exact hr)
    rw [h] at this
    have := this.2
    simp only at this
    grind
  · intro h
    exact mk_unique _ _ _ _ hr (Int.mul_ne_zero hb hd) (fits_of ⟨by omega, by omega⟩) (fits_of ⟨by omega, by omega⟩) h
theorem val_ne {p : Int × Int} (h : isP p) (h0 : p.1 ≠ 0) : val p ≠ 0 := by
  have h1 := cast_ne (isP_den h)
  have h2 := cast_ne h0
  unfold val
  grind
theorem divP_iff {p q r : Int × Int} (hp : isP p) (hq : isP q) (hr : isP r) (h0 : q.1 ≠ 0) : divP p q = r ↔ val r * val q = val p := by
  obtain ⟨a, b⟩ := p; obtain ⟨c, d⟩ := q; obtain ⟨e, f⟩ := r
  have hb := isP_den hp; have hd := isP_den hq; have hf := isP_den hr
  rw [val_mul hf hd hb]
  unfold divP divR
  simp only at h0 ⊢
  rw [if_pos ⟨hp, hq⟩]
  have p1 := prod_le (a := a) (b := d) (isP_bd hp).1 ⟨by have := (isP_bd hq).2.1; simp at this; omega, (isP_bd hq).2.2⟩
  have p2 := prod_le (a := b) (b := c) ⟨by have := (isP_bd hp).2.1; simp at this; omega, (isP_bd hp).2.2⟩ (isP_bd hq).1
  constructor
  · intro h
    have := mk_value (a * d) (b * c) (by rw [h]; exact hr)
    rw [h] at this
    have := this.2
    simp only at this
    grind
  · intro h
    exact mk_unique _ _ _ _ hr (Int.mul_ne_zero hb h0) (fits_of ⟨by omega, by omega⟩) (fits_of ⟨by omega, by omega⟩) (by grind)
theorem val_inj {p q : Int × Int} (hp : isP p) (hq : isP q) (h : val p = val q) : p = q := by
  have one : isP (1, 1) := by unfold isP; decide
  have e1 : mulP p (1, 1) = p := (mulP_iff hp one hp).2 (by unfold val; grind)
  have e2 : mulP p (1, 1) = q := (mulP_iff hp one hq).2 (by rw [← h]; unfold val; grind)
  rw [← e1, e2]

/-- a table: rule k says that one unit fr k is fa k units to k -/
structure Tab where
  n : Nat
  fr : Nat → ByteArray
  to : Nat → ByteArray
  fa : Nat → Int × Int
abbrev Ent := ByteArray × (Int × Int)
/-- the rules are as they should be -/
structure Tab.Ok (T : Tab) : Prop where
  le : T.n ≤ 12
  ne : ∀ k, k < T.n → T.fr k ≠ T.to k
  em : ∀ k, k < T.n → (T.fr k).size ≠ 0 ∧ (T.to k).size ≠ 0
  fac : ∀ k, k < T.n → isP (T.fa k)
  pos : ∀ k, k < T.n → 1 ≤ (T.fa k).1
/-- where rule k leads from an entry -/
def Tab.cand (T : Tab) (e : Ent) (k : Nat) : Option Ent :=
  if T.fr k = e.1 then some (T.to k, mulP e.2 (T.fa k)) else if T.to k = e.1 then some (T.fr k, divP e.2 (T.fa k)) else none
def nms (L : List Ent) : List ByteArray := L.map Prod.fst
/-- the reference's search: R is what it finds from entry i, rule k on -/
inductive RunS (T : Tab) : Nat → Nat → List Ent → List Ent → Prop
  | done {i k L} (h : L.length ≤ i) : RunS T i k L L
  | next {i k L R} (h : i < L.length) (hk : T.n ≤ k) (r : RunS T (i + 1) 0 L R) : RunS T i k L R
  | skip {i k L R} (h : i < L.length) (hk : k < T.n) (hc : ∀ c, T.cand (L[i]'h) k = some c → ¬ (isP c.2 ∧ c.1 ∉ nms L)) (r : RunS T i (k + 1) L R) : RunS T i k L R
  | push {i k L R c} (h : i < L.length) (hk : k < T.n) (hc : T.cand (L[i]'h) k = some c) (hf : isP c.2) (hn : c.1 ∉ nms L) (r : RunS T i (k + 1) (L ++ [c]) R) : RunS T i k L R
/-- the program's search; none where it fails -/
inductive RunI (T : Tab) : Nat → Nat → List Ent → Option (List Ent) → Prop
  | done {i k L} (h : L.length ≤ i) : RunI T i k L (some L)
  | next {i k L R} (h : i < L.length) (hk : T.n ≤ k) (r : RunI T (i + 1) 0 L R) : RunI T i k L R
  | skip {i k L R} (h : i < L.length) (hk : k < T.n) (hc : T.cand (L[i]'h) k = none) (r : RunI T i (k + 1) L R) : RunI T i k L R
  | bad {i k L c} (h : i < L.length) (hk : k < T.n) (hc : T.cand (L[i]'h) k = some c) (hf : ¬ isP c.2) : RunI T i k L none
  | push {i k L R c} (h : i < L.length) (hk : k < T.n) (hc : T.cand (L[i]'h) k = some c) (hf : isP c.2) (hn : c.1 ∉ nms L) (r : RunI T i (k + 1) (L ++ [c]) R) : RunI T i k L R
  | same {i k L R c} (h : i < L.length) (hk : k < T.n) (hc : T.cand (L[i]'h) k = some c) (hf : isP c.2) (hn : c ∈ L) (r : RunI T i (k + 1) L R) : RunI T i k L R
  | clash {i k L c f} (h : i < L.length) (hk : k < T.n) (hc : T.cand (L[i]'h) k = some c) (hf : isP c.2) (hn : (c.1, f) ∈ L) (hne : f ≠ c.2) : RunI T i k L none

/-- all names of the rules -/
def Tab.all (T : Tab) : List ByteArray := (List.range T.n).map T.fr ++ (List.range T.n).map T.to
/-- what holds of every list on the way -/
structure Good (T : Tab) (a : ByteArray) (L : List Ent) : Prop where
  head : L[0]? = some (a, (1, 1))
  nodup : (nms L).Nodup
  sub : ∀ x ∈ nms L, x = a ∨ x ∈ T.all
  fac : ∀ e ∈ L, isP e.2
  gen : ∀ j (h : j < L.length), j ≠ 0 → ∃ i, ∃ hi : i < j, ∃ k, k < T.n ∧ T.cand (L[i]'(by omega)) k = some L[j]
theorem one_isP : isP (1, 1) := by unfold isP; decide
theorem Good.start (T : Tab) (a : ByteArray) : Good T a [(a, (1, 1))] :=
  ⟨rfl, by simp [nms], fun x hx => by simp [nms] at hx; exact .inl hx, fun e he => by simp at he; subst he; exact one_isP, fun j h h0 => by simp at h; omega⟩
theorem cand_all {T : Tab} {e c : Ent} {k : Nat} (hk : k < T.n) (h : T.cand e k = some c) : c.1 ∈ T.all := by
  unfold Tab.cand at h
  unfold Tab.all
  split at h
  · injection h with h; subst h; exact List.mem_append_right _ (List.mem_map.2 ⟨k, List.mem_range.2 hk, rfl⟩)
  · split at h
    · injection h with h; subst h; exact List.mem_append_left _ (List.mem_map.2 ⟨k, List.mem_range.2 hk, rfl⟩)
    · cases h
theorem Good.push {T : Tab} {a : ByteArray} {L : List Ent} (g : Good T a L) {i k : Nat} {c : Ent} (h : i < L.length) (hk : k < T.n) (hc : T.cand (L[i]'h) k = some c) (hf : isP c.2) (hn : c.1 ∉ nms L) : Good T a (L ++ [c]) := by
  refine ⟨?_, ?_, ?_, ?_, ?_⟩
  · rw [List.getElem?_append_left (by omega)]; exact g.head
  · unfold nms at *
    rw [List.map_append, List.nodup_append]
    refine ⟨g.nodup, by simp, fun x hx y hy => ?_⟩
    simp at hy; subst hy
    rintro rfl; exact hn hx
  · intro x hx
    unfold nms at hx
    rw [List.map_append, List.mem_append] at hx
    rcases hx with hx | hx
    · exact g.sub x hx
    · simp at hx; subst hx; exact .inr (cand_all hk hc)
  · intro e he
    rcases List.mem_append.1 he with he | he
    · exact g.fac e he
    · simp at he; subst he; exact hf
  · intro j hj h0
    by_cases e : j < L.length
    · obtain ⟨i', hi', k', hk', hc'⟩ := g.gen j e h0
      refine ⟨i', hi', k', hk', ?_⟩
      rw [List.getElem_append_left (by omega), List.getElem_append_left e]; exact hc'
    · have : j = L.length := by simp at hj; omega
      subst this
      refine ⟨i, h, k, hk, ?_⟩
      rw [List.getElem_append_left h, List.getElem_append_right (Nat.le_refl _)]
      simpa using hc
theorem nodup_le {α : Type} [DecidableEq α] : ∀ (l m : List α), l.Nodup → (∀ x ∈ l, x ∈ m) → l.length ≤ m.length
  | [], _, _, _ => Nat.zero_le _
  | x :: l, m, hn, hs => by
    have h1 := nodup_le l (m.erase x) (List.nodup_cons.1 hn).2 (fun y hy => by
      have hne : y ≠ x := by rintro rfl; exact (List.nodup_cons.1 hn).1 hy
      exact (List.mem_erase_of_ne hne).2 (hs y (List.mem_cons_of_mem _ hy)))
    have h2 := List.length_erase_of_mem (hs x (List.mem_cons_self ..))
    have h3 : 0 < m.length := List.length_pos_of_mem (hs x (List.mem_cons_self ..))
    simp only [List.length_cons]
    omega
theorem Good.len {T : Tab} {a : ByteArray} {L : List Ent} (g : Good T a L) : L.length ≤ 2 * T.n + 1 := by
  have := nodup_le (nms L) (a :: T.all) g.nodup (fun x hx => by
    rcases g.sub x hx with h | h
    · rw [h]; exact List.mem_cons_self ..
    · exact List.mem_cons_of_mem _ h)
  simp [nms, Tab.all] at this
  omega
theorem Good.pos {T : Tab} {a : ByteArray} {L : List Ent} (g : Good T a L) : 0 < L.length := by
  by_cases h : 0 < L.length
  · exact h
  · have := g.head; rw [List.getElem?_eq_none (by omega)] at this; cases this
theorem Good.one {T : Tab} {a : ByteArray} {L : List Ent} (g : Good T a L) {x : ByteArray} {f f' : Int × Int} (h : (x, f) ∈ L) (h' : (x, f') ∈ L) : f = f' := by
  have key : ∀ L : List Ent, (nms L).Nodup → (x, f) ∈ L → (x, f') ∈ L → f = f' := by
    intro L
    induction L with
    | nil => intro _ h; cases h
    | cons e L ih =>
      intro hn h h'
      unfold nms at hn
      rw [List.map_cons, List.nodup_cons] at hn
      rcases List.mem_cons.1 h with k | k <;> rcases List.mem_cons.1 h' with k' | k'
      · rw [← k] at k'; injection k' with _ k'; exact k'.symm
      · subst k; exact absurd (show x ∈ List.map Prod.fst L from List.mem_map.2 ⟨(x, f'), k', rfl⟩) hn.1
      · subst k'; exact absurd (show x ∈ List.map Prod.fst L from List.mem_map.2 ⟨(x, f), k, rfl⟩) hn.1
      · exact ih hn.2 k k'
  exact key L g.nodup h h'
theorem RunS.good {T : Tab} {a : ByteArray} {i k : Nat} {L R : List Ent} (r : RunS T i k L R) (g : Good T a L) : Good T a R := by
  induction r with
  | done h => exact g
  | next h hk r ih => exact ih g
  | skip h hk hc r ih => exact ih g
  | push h hk hc hf hn r ih => exact ih (g.push h hk hc hf hn)
theorem RunS.pre {T : Tab} {i k : Nat} {L R : List Ent} (r : RunS T i k L R) : ∃ M, R = L ++ M := by
  induction r with
  | done h => exact ⟨[], by simp⟩
  | next h hk r ih => exact ih
  | skip h hk hc r ih => exact ih
  | @push i k L R c h hk hc hf hn r ih => obtain ⟨M, hM⟩ := ih; exact ⟨c :: M, by rw [hM]; simp⟩
theorem RunI.good {T : Tab} {a : ByteArray} {i k : Nat} {L : List Ent} {O : Option (List Ent)} (r : RunI T i k L O) : ∀ R, O = some R → Good T a L → Good T a R := by
  induction r with
  | done h => intro R hR g; injection hR with hR; subst hR; exact g
  | next h hk r ih => exact ih
  | skip h hk hc r ih => exact ih
  | bad => intro R hR; cases hR
  | push h hk hc hf hn r ih => exact fun R hR g => ih R hR (g.push h hk hc hf hn)
  | same h hk hc hf hn r ih => exact ih
  | clash => intro R hR; cases hR
theorem mem_nms {L : List Ent} {x : ByteArray} : x ∈ nms L ↔ ∃ f, (x, f) ∈ L := by
  unfold nms
  constructor
  · intro h; obtain ⟨⟨y, f⟩, h1, rfl⟩ := List.mem_map.1 h; exact ⟨f, h1⟩
  · rintro ⟨f, h⟩; exact List.mem_map.2 ⟨_, h, rfl⟩
theorem nmsI {L : List Ent} {x : ByteArray} {f : Int × Int} (h : (x, f) ∈ L) : x ∈ nms L := mem_nms.2 ⟨f, h⟩
/-- the search ends -/
theorem RunS.ends {T : Tab} {a : ByteArray} : ∀ (m i k : Nat) (L : List Ent), Good T a L → (2 * T.n + 2 - i) * (T.n + 2) + (T.n + 1 - k) < m → k ≤ T.n → ∃ R, RunS T i k L R
  | 0, _, _, _, _, h, _ => by omega
  | m + 1, i, k, L, g, h, hk => by
    by_cases hi : i < L.length
    case neg => exact ⟨L, .done (by omega)⟩
    have gl := g.len
    by_cases hkn : k < T.n
    · have step : ∀ L', Good T a L' → ∃ R, RunS T i (k + 1) L' R := fun L' g' => RunS.ends m i (k + 1) L' g' (by omega) (by omega)
      by_cases hp : ∃ c, T.cand (L[i]'hi) k = some c ∧ isP c.2 ∧ c.1 ∉ nms L
      · obtain ⟨c, hc, hf, hn⟩ := hp
        obtain ⟨R, r⟩ := step _ (g.push hi hkn hc hf hn)
        exact ⟨R, .push hi hkn hc hf hn r⟩
      · obtain ⟨R, r⟩ := step _ g
        exact ⟨R, .skip hi hkn (fun c hc hh => hp ⟨c, hc, hh⟩) r⟩
    · have e : (2 * T.n + 2 - i) * (T.n + 2) = (2 * T.n + 2 - (i + 1)) * (T.n + 2) + (T.n + 2) := by
        rw [show 2 * T.n + 2 - i = (2 * T.n + 2 - (i + 1)) + 1 by omega, Nat.add_mul, Nat.one_mul]
      obtain ⟨R, r⟩ := RunS.ends m (i + 1) 0 L g (by omega) (by omega)
      exact ⟨R, .next hi (by omega) r⟩
theorem RunI.ends {T : Tab} {a : ByteArray} : ∀ (m i k : Nat) (L : List Ent), Good T a L → (2 * T.n + 2 - i) * (T.n + 2) + (T.n + 1 - k) < m → k ≤ T.n → ∃ O, RunI T i k L O
  | 0, _, _, _, _, h, _ => by omega
  | m + 1, i, k, L, g, h, hk => by
    by_cases hi : i < L.length
    case neg => exact ⟨_, .done (by omega)⟩
    have gl := g.len
    by_cases hkn : k < T.n
    · have step : ∀ L', Good T a L' → ∃ R, RunI T i (k + 1) L' R := fun L' g' => RunI.ends m i (k + 1) L' g' (by omega) (by omega)
      cases hc : T.cand (L[i]'hi) k with
      | none =>
        obtain ⟨R, r⟩ := step _ g
        exact ⟨R, .skip hi hkn hc r⟩
      | some c =>
        by_cases hf : isP c.2
        case neg => exact ⟨_, .bad hi hkn hc hf⟩
        by_cases hn : c.1 ∈ nms L
        · obtain ⟨f, hm⟩ := mem_nms.1 hn
          by_cases e : f = c.2
          · obtain ⟨R, r⟩ := step _ g
            exact ⟨R, .same hi hkn hc hf (by rw [e] at hm; exact hm) r⟩
          · exact ⟨_, .clash hi hkn hc hf hm e⟩
        · obtain ⟨R, r⟩ := step _ (g.push hi hkn hc hf hn)
          exact ⟨R, .push hi hkn hc hf hn r⟩
    · have e : (2 * T.n + 2 - i) * (T.n + 2) = (2 * T.n + 2 - (i + 1)) * (T.n + 2) + (T.n + 2) := by
        rw [show 2 * T.n + 2 - i = (2 * T.n + 2 - (i + 1)) + 1 by omega, Nat.add_mul, Nat.one_mul]
      obtain ⟨R, r⟩ := RunI.ends m (i + 1) 0 L g (by omega) (by omega)
      exact ⟨R, .next hi (by omega) r⟩
/-- what the reference asks of a list: each rule's names are both there or both not, and their factors fit -/
def Fine (T : Tab) (R : List Ent) : Prop := ∀ k, k < T.n → (T.fr k ∈ nms R ↔ T.to k ∈ nms R) ∧ ∀ f g, (T.fr k, f) ∈ R → (T.to k, g) ∈ R → mulP f (T.fa k) = g
/-- each step from a place before (i, k) has been taken -/
def Upto (T : Tab) (i k : Nat) (L : List Ent) : Prop := ∀ i' (h : i' < L.length) k' c, k' < T.n → (i' < i ∨ (i' = i ∧ k' < k)) → T.cand (L[i']'h) k' = some c → isP c.2 ∧ c ∈ L
theorem Upto.start {T : Tab} (L : List Ent) : Upto T 0 0 L := fun i' _ k' c _ h => by omega
theorem Upto.grow {T : Tab} {i k : Nat} {L : List Ent} (u : Upto T i k L) (hi : i < L.length) (c : Ent) : Upto T i k (L ++ [c]) := by
  intro i' h k' c' hk' hb hc'
  have h1 : i' < L.length := by omega
  rw [List.getElem_append_left h1] at hc'
  have := u i' h1 k' c' hk' hb hc'
  exact ⟨this.1, List.mem_append_left _ this.2⟩
theorem Upto.step {T : Tab} {i k : Nat} {L : List Ent} (u : Upto T i k L) (hi : i < L.length) (h : ∀ c, T.cand (L[i]'hi) k = some c → isP c.2 ∧ c ∈ L) : Upto T i (k + 1) L := by
  intro i' h' k' c' hk' hb hc'
  by_cases e : i' = i ∧ k' = k
  · obtain ⟨rfl, rfl⟩ := e; exact h c' hc'
  · exact u i' h' k' c' hk' (by omega) hc'
theorem Upto.next {T : Tab} {i k : Nat} {L : List Ent} (u : Upto T i k L) (hk : T.n ≤ k) : Upto T (i + 1) 0 L := by
  intro i' h' k' c' hk' hb hc'
  exact u i' h' k' c' hk' (by omega) hc'
theorem cand_mul {T : Tab} {e : Ent} {k : Nat} (h : T.fr k = e.1) : T.cand e k = some (T.to k, mulP e.2 (T.fa k)) := by unfold Tab.cand; rw [if_pos h]
section
variable {T : Tab} (ok : T.Ok) {a : ByteArray}
include ok
theorem cand_div {e : Ent} {k : Nat} (hk : k < T.n) (h : T.to k = e.1) : T.cand e k = some (T.fr k, divP e.2 (T.fa k)) := by
  unfold Tab.cand
  rw [if_neg (by rw [← h]; exact ok.ne k hk), if_pos h]
theorem fa_ne {k : Nat} (hk : k < T.n) : (T.fa k).1 ≠ 0 := by have := ok.pos k hk; omega
/-- a step that has been taken fits the reference's check, and one that fits it can be taken -/
theorem cand_fits {R : List Ent} (g : Good T a R) (hF : Fine T R) {e c : Ent} {k : Nat} (hk : k < T.n) (he : e ∈ R) (hc : T.cand e k = some c) : isP c.2 ∧ c ∈ R := by
  have heP := g.fac e he
  unfold Tab.cand at hc
  by_cases h1 : T.fr k = e.1
  · rw [if_pos h1] at hc
    injection hc with hc; subst hc
    have hm : T.fr k ∈ nms R := by rw [h1]; exact nmsI he
    obtain ⟨f, hf⟩ := mem_nms.1 ((hF k hk).1.1 hm)
    have e1 := (hF k hk).2 e.2 f (by rw [h1]; exact he) hf
    have e2 : isP f := g.fac _ hf
    rw [← e1] at e2 hf
    exact ⟨e2, hf⟩
  · rw [if_neg h1] at hc
    by_cases h2 : T.to k = e.1
    · rw [if_pos h2] at hc
      injection hc with hc; subst hc
      have hm : T.to k ∈ nms R := by rw [h2]; exact nmsI he
      obtain ⟨f, hf⟩ := mem_nms.1 ((hF k hk).1.2 hm)
      have e1 := (hF k hk).2 f e.2 hf (by rw [h2]; exact he)
      have e2 : isP f := g.fac _ hf
      have e3 : divP e.2 (T.fa k) = f := (divP_iff heP (ok.fac k hk) e2 (fa_ne ok hk)).2 ((mulP_iff e2 (ok.fac k hk) heP).1 e1)
      rw [e3]
      exact ⟨e2, hf⟩
    · rw [if_neg h2] at hc; cases hc
/-- where every step has been taken, the reference's check holds -/
theorem upto_fine {R : List Ent} (g : Good T a R) {i k : Nat} (hi : R.length ≤ i) (u : Upto T i k R) : Fine T R := by
  have step : ∀ e ∈ R, ∀ k c, k < T.n → T.cand e k = some c → isP c.2 ∧ c ∈ R := by
    intro e he k' c hk' hc
    obtain ⟨j, hj, rfl⟩ := List.getElem_of_mem he
    exact u j hj k' c hk' (.inl (by omega)) hc
  intro k' hk'
  refine ⟨⟨fun h => ?_, fun h => ?_⟩, fun f f' h h' => ?_⟩
  · obtain ⟨f, hf⟩ := mem_nms.1 h
    exact nmsI (step _ hf k' _ hk' (cand_mul rfl)).2
  · obtain ⟨f, hf⟩ := mem_nms.1 h
    exact nmsI (step _ hf k' _ hk' (cand_div ok hk' rfl)).2
  · exact g.one (step _ h k' _ hk' (cand_mul rfl)).2 h'
/-- the two searches: where the program's ends well, the reference's ends alike, and the check holds; where it fails, the check fails -/
theorem RunI.twin {i k : Nat} {L : List Ent} {O : Option (List Ent)} (r : RunI T i k L O) : Good T a L → Upto T i k L →
    (∀ R, O = some R → RunS T i k L R ∧ Fine T R) ∧ (O = none → ∀ R, RunS T i k L R → ¬ Fine T R) := by
  induction r with
  | done h =>
    intro g u
    refine ⟨fun R hR => ?_, fun h => by cases h⟩
    injection hR with hR; subst hR
    exact ⟨.done h, upto_fine ok g h u⟩
  | @next i k L O h hk r ih =>
    intro g u
    obtain ⟨h1, h2⟩ := ih g (u.next hk)
    refine ⟨fun R hR => ⟨.next h hk (h1 R hR).1, (h1 R hR).2⟩, fun hO R hR => h2 hO R ?_⟩
    cases hR with
    | done h' => omega
    | next _ _ r' => exact r'
    | skip _ hk' _ _ => omega
    | push _ hk' _ _ _ _ => omega
  | @skip i k L O h hk hc r ih =>
    intro g u
    obtain ⟨h1, h2⟩ := ih g (u.step h (fun c hc' => by rw [hc] at hc'; cases hc'))
    refine ⟨fun R hR => ⟨.skip h hk (fun c hc' => by rw [hc] at hc'; cases hc') (h1 R hR).1, (h1 R hR).2⟩, fun hO R hR => h2 hO R ?_⟩
    cases hR with
    | done h' => omega
    | next _ hk' _ => omega
    | skip _ _ _ r' => exact r'
    | push _ _ hc' _ _ _ => rw [hc] at hc'; cases hc'
  | @bad i k L c h hk hc hf =>
    intro g u
    refine ⟨fun R hR => (by cases hR), fun _ R hR hF => ?_⟩
    have gR := hR.good g
    obtain ⟨M, hM⟩ := hR.pre
    exact hf (cand_fits ok gR hF hk (by rw [hM]; exact List.mem_append_left _ (List.getElem_mem h)) hc).1
  | @push i k L O c h hk hc hf hn r ih =>
    intro g u
    have u' : Upto T i (k + 1) (L ++ [c]) := (u.grow h c).step (by simp; omega) (fun c' hc' => by
      rw [List.getElem_append_left h, hc] at hc'
      injection hc' with hc'; subst hc'
      exact ⟨hf, List.mem_append_right _ (List.mem_singleton.2 rfl)⟩)
    obtain ⟨h1, h2⟩ := ih (g.push h hk hc hf hn) u'
    refine ⟨fun R hR => ⟨.push h hk hc hf hn (h1 R hR).1, (h1 R hR).2⟩, fun hO R hR => h2 hO R ?_⟩
    cases hR with
    | done h' => omega
    | next _ hk' _ => omega
    | skip _ _ hc' _ => exact absurd ⟨hf, hn⟩ (hc' c hc)
    | push _ _ hc' _ _ r' => rw [hc] at hc'; injection hc' with hc'; subst hc'; exact r'
  | @same i k L O c h hk hc hf hn r ih =>
    intro g u
    have hm : c.1 ∈ nms L := nmsI (f := c.2) hn
    have u' : Upto T i (k + 1) L := u.step h (fun c' hc' => by rw [hc] at hc'; injection hc' with hc'; subst hc'; exact ⟨hf, hn⟩)
    obtain ⟨h1, h2⟩ := ih g u'
    refine ⟨fun R hR => ⟨.skip h hk (fun c' hc' => by rw [hc] at hc'; injection hc' with hc'; subst hc'; exact fun hh => hh.2 hm) (h1 R hR).1, (h1 R hR).2⟩, fun hO R hR => h2 hO R ?_⟩
    cases hR with
    | done h' => omega
    | next _ hk' _ => omega
    | skip _ _ _ r' => exact r'
    | push _ _ hc' _ hn' _ => rw [hc] at hc'; injection hc' with hc'; subst hc'; exact absurd hm hn'
  | @clash i k L c f h hk hc hf hn hne =>
    intro g u
    refine ⟨fun R hR => (by cases hR), fun _ R hR hF => ?_⟩
    have gR := hR.good g
    obtain ⟨M, hM⟩ := hR.pre
    have := (cand_fits ok gR hF hk (by rw [hM]; exact List.mem_append_left _ (List.getElem_mem h)) hc).2
    exact hne (gR.one (x := c.1) (by rw [hM]; exact List.mem_append_left _ hn) this)
end
/-- the reference's and the program's searches have one outcome -/
theorem RunS.det {T : Tab} {i k : Nat} {L R R' : List Ent} (r : RunS T i k L R) : RunS T i k L R' → R = R' := by
  induction r with
  | done h => intro r'; cases r' with
    | done => rfl
    | next h' => omega
    | skip h' => omega
    | push h' => omega
  | next h hk r ih => intro r'; cases r' with
    | done => omega
    | next _ _ r' => exact ih r'
    | skip _ hk' => omega
    | push _ hk' => omega
  | skip h hk hc r ih => intro r'; cases r' with
    | done => omega
    | next _ hk' => omega
    | skip _ _ _ r' => exact ih r'
    | push _ _ hc' hf' hn' => exact absurd ⟨hf', hn'⟩ (hc _ hc')
  | push h hk hc hf hn r ih => intro r'; cases r' with
    | done => omega
    | next _ hk' => omega
    | skip _ _ hc' => exact absurd ⟨hf, hn⟩ (hc' _ hc)
    | push _ _ hc' _ _ r' => rw [hc] at hc'; injection hc' with hc'; subst hc'; exact ih r'

/-! ### factors there and back -/
theorem fine_nb {T : Tab} {R : List Ent} (hF : Fine T R) {e c : Ent} {k : Nat} (hk : k < T.n) (hc : T.cand e k = some c) : e.1 ∈ nms R ↔ c.1 ∈ nms R := by
  unfold Tab.cand at hc
  by_cases h1 : T.fr k = e.1
  · rw [if_pos h1] at hc
    injection hc with hc; subst hc
    rw [← h1]; exact (hF k hk).1
  · rw [if_neg h1] at hc
    by_cases h2 : T.to k = e.1
    · rw [if_pos h2] at hc
      injection hc with hc; subst hc
      rw [← h2]; exact (hF k hk).1.symm
    · rw [if_neg h2] at hc; cases hc
theorem Good.at0 {T : Tab} {a : ByteArray} {R : List Ent} (g : Good T a R) (h : 0 < R.length) : R[0] = (a, (1, 1)) := by
  have := g.head
  rw [List.getElem?_eq_getElem h] at this
  injection this
theorem all_or {T : Tab} {a : ByteArray} {R S : List Ent} (g : Good T a R) (hF : Fine T S) : ∀ j (h : j < R.length), (R[j].1 ∈ nms S ↔ a ∈ nms S) := by
  intro j
  induction j using Nat.strongRecOn with
  | _ j ih =>
    intro h
    by_cases h0 : j = 0
    · subst h0; rw [g.at0 h]
    · obtain ⟨i, hi, k, hk, hc⟩ := g.gen j h h0
      rw [← fine_nb hF hk hc]
      exact ih i hi (by omega)
theorem mem_or {T : Tab} {a x : ByteArray} {R S : List Ent} (g : Good T a R) (hF : Fine T S) (hx : x ∈ nms R) : x ∈ nms S ↔ a ∈ nms S := by
  obtain ⟨f, hf⟩ := mem_nms.1 hx
  obtain ⟨j, hj, he⟩ := List.getElem_of_mem hf
  have := all_or g hF j hj
  rw [he] at this
  exact this
theorem Good.self {T : Tab} {a : ByteArray} {R : List Ent} (g : Good T a R) : (a, (1, 1)) ∈ R := by
  have := g.at0 g.pos
  rw [← this]; exact List.getElem_mem _
/-- b is reached from a just where a is reached from b -/
theorem back_iff {T : Tab} {a b : ByteArray} {R S : List Ent} (g : Good T a R) (hF : Fine T R) (g' : Good T b S) (hF' : Fine T S) : b ∈ nms R ↔ a ∈ nms S := by
  constructor
  · intro h; exact (mem_or g hF' h).1 (nmsI g'.self)
  · intro h; exact (mem_or g' hF h).1 (nmsI g.self)
theorem val_one : val (1, 1) = 1 := by unfold val; grind
theorem there_back {T : Tab} (ok : T.Ok) {a b : ByteArray} {R S : List Ent} (gR : Good T a R) (hR : Fine T R) (gS : Good T b S) {g : Int × Int} (hb : (b, g) ∈ R) :
    ∀ j (h : j < S.length) f, (S[j].1, f) ∈ R → val S[j].2 * val g = val f := by
  intro j
  induction j using Nat.strongRecOn with
  | _ j ih =>
    intro h f hf
    by_cases h0 : j = 0
    · subst h0
      rw [gS.at0 h] at hf ⊢
      rw [gR.one hf hb]
      show val (1, 1) * val g = val g
      rw [val_one]; grind
    · obtain ⟨i, hi, k, hk, hc⟩ := gS.gen j h h0
      have hSi : isP (S[i]'(by omega)).2 := gS.fac _ (List.getElem_mem _)
      have hSj : isP S[j].2 := gS.fac _ (List.getElem_mem _)
      have hfa := ok.fac k hk
      have hn := val_ne hfa (fa_ne ok hk)
      unfold Tab.cand at hc
      by_cases h1 : T.fr k = (S[i]'(by omega)).1
      · rw [if_pos h1] at hc
        injection hc with hc
        have e1 : T.to k = S[j].1 := by rw [← hc]
        have e2 : mulP (S[i]'(by omega)).2 (T.fa k) = S[j].2 := by rw [← hc]
        obtain ⟨f', hf'⟩ := mem_nms.1 ((hR k hk).1.2 (by rw [e1]; exact nmsI hf))
        have e3 := (hR k hk).2 f' f hf' (by rw [e1]; exact hf)
        have v1 := (mulP_iff hSi hfa hSj).1 e2
        have v2 := (mulP_iff (gR.fac _ hf') hfa (gR.fac _ hf)).1 e3
        have v3 := ih i hi (by omega) f' (by rw [← h1]; exact hf')
        rw [← v1, ← v2, ← v3]
        grind
      · rw [if_neg h1] at hc
        by_cases h2 : T.to k = (S[i]'(by omega)).1
        · rw [if_pos h2] at hc
          injection hc with hc
          have e1 : T.fr k = S[j].1 := by rw [← hc]
          have e2 : divP (S[i]'(by omega)).2 (T.fa k) = S[j].2 := by rw [← hc]
          obtain ⟨f', hf'⟩ := mem_nms.1 ((hR k hk).1.1 (by rw [e1]; exact nmsI hf))
          have e3 := (hR k hk).2 f f' (by rw [e1]; exact hf) hf'
          have v1 := (divP_iff hSi hfa hSj (fa_ne ok hk)).1 e2
          have v2 := (mulP_iff (gR.fac _ hf) hfa (gR.fac _ hf')).1 e3
          have v3 := ih i hi (by omega) f' (by rw [← h2]; exact hf')
          have v4 : (val S[j].2 * val g) * val (T.fa k) = val f * val (T.fa k) := by
            rw [v2, ← v3, ← v1]; grind
          grind
        · rw [if_neg h2] at hc; cases hc
theorem over_third {T : Tab} (ok : T.Ok) {a u b : ByteArray} {R S : List Ent} (gR : Good T a R) (hR : Fine T R) (gS : Good T u S) {x y f : Int × Int} (hx : (u, x) ∈ R) (hy : (b, y) ∈ S) (hf : (b, f) ∈ R) : mulP x y = f := by
  obtain ⟨j, hj, he⟩ := List.getElem_of_mem hy
  have := there_back ok gR hR gS hx j hj f (by rw [he]; exact hf)
  rw [he] at this
  refine (mulP_iff (gR.fac _ hx) (gS.fac _ hy) (gR.fac _ hf)).2 ?_
  rw [← this]; show val x * val y = val y * val x; grind
theorem mul_back {T : Tab} (ok : T.Ok) {a b : ByteArray} {R S : List Ent} (gR : Good T a R) (hR : Fine T R) (gS : Good T b S) {f g : Int × Int} (hf : (b, f) ∈ R) (hg : (a, g) ∈ S) : mulP f g = (1, 1) :=
  over_third ok gR hR gS hf hg gR.self
/-- the factors are positive -/
theorem Good.plus {T : Tab} (ok : T.Ok) {a : ByteArray} {R : List Ent} (g : Good T a R) : ∀ j (h : j < R.length), 1 ≤ R[j].2.1 := by
  intro j
  induction j using Nat.strongRecOn with
  | _ j ih =>
    intro h
    by_cases h0 : j = 0
    · subst h0; rw [g.at0 h]; show (1 : Int) ≤ 1; omega
    · obtain ⟨i, hi, k, hk, hc⟩ := g.gen j h h0
      have hi1 := ih i hi (by omega)
      have hSi : isP (R[i]'(by omega)).2 := g.fac _ (List.getElem_mem _)
      have hSj : isP R[j].2 := g.fac _ (List.getElem_mem _)
      have hfa := ok.fac k hk
      have hp := ok.pos k hk
      have key : ∀ (x y z w : Int), 1 ≤ x → 1 ≤ y → 1 ≤ z → 1 ≤ (z * (x * y)) := by
        intro x y z w hx hy hz
        have h1 : 0 < x * y := Int.mul_pos (by omega) (by omega)
        have h2 : 0 < z * (x * y) := Int.mul_pos (by omega) h1
        omega
      have b1 := isP_pos hSi
      have b2 := isP_pos hfa
      have b3 := isP_pos hSj
      unfold Tab.cand at hc
      have fin : ∀ n d : Int, 0 < n → 0 < d → R[j].2 = num.mk n d → 1 ≤ R[j].2.1 := by
        intro n d hn hd e
        have hv := (mk_value n d (by rw [← e]; exact hSj)).2
        rw [← e] at hv
        have h2 : 0 < R[j].2.2 * n := Int.mul_pos b3 hn
        rw [← hv] at h2
        by_cases hle : R[j].2.1 ≤ 0
        · have := Int.mul_le_mul_of_nonneg_right hle (show 0 ≤ d by omega)
          rw [Int.zero_mul] at this
          omega
        · omega
      by_cases h1 : T.fr k = (R[i]'(by omega)).1
      · rw [if_pos h1] at hc
        injection hc with hc
        have e2 : R[j].2 = mulP (R[i]'(by omega)).2 (T.fa k) := by rw [← hc]
        unfold mulP mulR at e2
        rw [if_pos ⟨hSi, hfa⟩] at e2
        exact fin _ _ (Int.mul_pos (by omega) (by omega)) (Int.mul_pos b1 b2) e2
      · rw [if_neg h1] at hc
        by_cases h2 : T.to k = (R[i]'(by omega)).1
        · rw [if_pos h2] at hc
          injection hc with hc
          have e2 : R[j].2 = divP (R[i]'(by omega)).2 (T.fa k) := by rw [← hc]
          unfold divP divR at e2
          rw [if_pos ⟨hSi, hfa⟩] at e2
          exact fin _ _ (Int.mul_pos (by omega) b2) (Int.mul_pos b1 (by omega)) e2
        · rw [if_neg h2] at hc; cases hc
theorem Good.plus' {T : Tab} (ok : T.Ok) {a : ByteArray} {R : List Ent} (g : Good T a R) {e : Ent} (he : e ∈ R) : 1 ≤ e.2.1 := by
  obtain ⟨j, hj, rfl⟩ := List.getElem_of_mem he
  exact g.plus ok j hj
/-- the factor back is the factor turned round -/
theorem turned {f g : Int × Int} (hf : isP f) (hg : isP g) (h1 : 1 ≤ f.1) (h : mulP f g = (1, 1)) : g = (f.2, f.1) := by
  have e := (mulP_iff hf hg one_isP).1 h
  have hp : isP (f.2, f.1) := by
    have := isR_iff.1 hf
    refine isR_iff.2 ⟨h1, this.2.2.2.1, by omega, this.2.1, ?_⟩
    unfold gcdI
    rw [Nat.gcd_comm]
    exact this.2.2.2.2
  have e2 : mulP f (f.2, f.1) = (1, 1) := by
    refine (mulP_iff hf hp one_isP).2 ?_
    rw [val_one]
    have c1 := cast_ne (isP_den hf)
    have c2 := cast_ne (isP_den hp)
    unfold val
    simp only at c2 ⊢
    grind
  have e3 := (mulP_iff hf hp one_isP).1 e2
  have hn := val_ne hf (show f.1 ≠ 0 by omega)
  exact val_inj hg hp (by grind)
end Go.Proofs.Ytccejhhhengpcaa
