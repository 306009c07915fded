/-
  Tables of units: what is one; what is reached from a unit (no program in sight).
-/
import Derived.Test.YtccejhhhengpcaaUnitNum
import Derived.Test.YtccejhhhengpcaaCode
import Derived.Test.YtccejhhhengpcaaFind
namespace Go.Proofs.Ytccejhhhengpcaa
open num
set_option linter.unusedVariables false

/-- a rule is as it should be -/
def ruleB (f t : ByteArray) (a b : Int) : Bool := isC f && isC t && decide (f ≠ t) && isR a b && decide (1 ≤ a ∧ a ≤ 1000) && decide (b ≤ 1000)
def tb (n : Nat) (fr to : Nat → ByteArray) (nu de : Nat → Int) : Tab := ⟨n, fr, to, fun k => (nu k, de k)⟩
/-- not too many rules, and each as it should be -/
def okT (T : Tab) : Prop := T.n ≤ 12 ∧ ∀ k, k < T.n → ruleB (T.fr k) (T.to k) (T.fa k).1 (T.fa k).2 = true
theorem ruleB_iff {f t : ByteArray} {a b : Int} : ruleB f t a b = true ↔ isC f = true ∧ isC t = true ∧ f ≠ t ∧ isR a b = true ∧ (1 ≤ a ∧ a ≤ 1000) ∧ b ≤ 1000 := by
  unfold ruleB
  simp only [Bool.and_eq_true, decide_eq_true_eq, and_assoc]
theorem okT.ok {T : Tab} (h : okT T) : T.Ok where
  le := h.1
  ne := fun k hk => (ruleB_iff.1 (h.2 k hk)).2.2.1
  em := fun k hk => by
    have h1 := isC_iff.1 (ruleB_iff.1 (h.2 k hk)).1
    have h2 := isC_iff.1 (ruleB_iff.1 (h.2 k hk)).2.1
    omega
  fac := fun k hk => (ruleB_iff.1 (h.2 k hk)).2.2.2.1
  pos := fun k hk => (ruleB_iff.1 (h.2 k hk)).2.2.2.2.1.1
def one (a : ByteArray) : List Ent := [(a, (1, 1))]
/-- the program's search ends well -/
def found (T : Tab) (a : ByteArray) : Prop := ∃ R, RunI T 0 0 (one a) (some R)
open Classical in
/-- what is reached -/
noncomputable def srch (T : Tab) (a : ByteArray) : List Ent := if h : ∃ R, RunS T 0 0 (one a) R then h.choose else one a
theorem srch_run (T : Tab) (a : ByteArray) : RunS T 0 0 (one a) (srch T a) := by
  have h : ∃ R, RunS T 0 0 (one a) R := RunS.ends _ 0 0 (one a) (Good.start T a) (Nat.lt_succ_self _) (Nat.zero_le _)
  unfold srch
  rw [dif_pos h]
  exact h.choose_spec
theorem srch_eq {T : Tab} {a : ByteArray} {R : List Ent} (r : RunS T 0 0 (one a) R) : R = srch T a := r.det (srch_run T a)
theorem srch_good (T : Tab) (a : ByteArray) : Good T a (srch T a) := (srch_run T a).good (Good.start T a)
theorem found_iff {T : Tab} (ok : T.Ok) (a : ByteArray) : found T a ↔ Fine T (srch T a) := by
  obtain ⟨O, r⟩ := RunI.ends (T := T) (a := a) _ 0 0 (one a) (Good.start T a) (Nat.lt_succ_self _) (Nat.zero_le _)
  obtain ⟨h1, h2⟩ := RunI.twin ok r (Good.start T a) (Upto.start _)
  constructor
  · rintro ⟨R, hR⟩
    obtain ⟨k1, k2⟩ := RunI.twin ok hR (Good.start T a) (Upto.start _)
    have := k1 R rfl
    rw [← srch_eq this.1]; exact this.2
  · intro hF
    cases O with
    | none => exact absurd hF (h2 rfl _ (srch_run T a))
    | some R => exact ⟨R, r⟩
theorem found_eq {T : Tab} (ok : T.Ok) {a : ByteArray} {R : List Ent} (r : RunI T 0 0 (one a) (some R)) : R = srch T a :=
  srch_eq ((RunI.twin ok r (Good.start T a) (Upto.start _)).1 R rfl).1
theorem not_found {T : Tab} (ok : T.Ok) {a : ByteArray} (r : RunI T 0 0 (one a) none) : ¬ found T a := fun h =>
  (RunI.twin ok r (Good.start T a) (Upto.start _)).2 rfl _ (srch_run T a) ((found_iff ok a).1 h)
open Classical in
/-- a table of units -/
noncomputable def tableB (T : Tab) : Bool := decide (okT T ∧ ∀ k, k < T.n → found T (T.fr k) ∧ found T (T.to k))
open Classical in
theorem tableB_iff {T : Tab} : tableB T = true ↔ okT T ∧ ∀ k, k < T.n → found T (T.fr k) ∧ found T (T.to k) := by
  unfold tableB; exact decide_eq_true_iff
open Classical in
theorem tableB_no {T : Tab} (h : ¬ (okT T ∧ ∀ k, k < T.n → found T (T.fr k) ∧ found T (T.to k))) : tableB T = false := by
  unfold tableB; exact decide_eq_false h
theorem tableB_big {T : Tab} (h : ¬ T.n ≤ 12) : tableB T = false := tableB_no fun k => h k.1.1
theorem tableB_rule {T : Tab} {k : Nat} (hk : k < T.n) (h : ruleB (T.fr k) (T.to k) (T.fa k).1 (T.fa k).2 = false) : tableB T = false := tableB_no fun q => by
  have := q.1.2 k hk; rw [h] at this; cases this
theorem tableB_fr {T : Tab} {k : Nat} (hk : k < T.n) (h : ¬ found T (T.fr k)) : tableB T = false := tableB_no fun q => h (q.2 k hk).1
theorem tableB_to {T : Tab} {k : Nat} (hk : k < T.n) (h : ¬ found T (T.to k)) : tableB T = false := tableB_no fun q => h (q.2 k hk).2
/-- a unit that no rule names is reached from nowhere -/
theorem lone {T : Tab} {a : ByteArray} (h : a ∉ T.all) : srch T a = one a := by
  have g := srch_good T a
  have hl : (srch T a).length = 1 := by
    have h0 := g.pos
    by_cases e : 1 < (srch T a).length
    · obtain ⟨i, hi, k, hk, hc⟩ := g.gen 1 e (by omega)
      obtain rfl : i = 0 := by omega
      rw [g.at0 h0] at hc
      unfold Tab.cand at hc
      have m1 : T.fr k ∈ T.all := List.mem_append_left _ (List.mem_map.2 ⟨k, List.mem_range.2 hk, rfl⟩)
      have m2 : T.to k ∈ T.all := List.mem_append_right _ (List.mem_map.2 ⟨k, List.mem_range.2 hk, rfl⟩)
      rw [if_neg (fun e => h (by have e' : T.fr k = a := e; rw [← e']; exact m1)), if_neg (fun e => h (by have e' : T.to k = a := e; rw [← e']; exact m2))] at hc
      cases hc
    · omega
  have h1 := g.at0 g.pos
  match hs : srch T a, hl with
  | [e], _ => simp [hs] at h1; rw [h1]; rfl
theorem all_found {T : Tab} (h : tableB T = true) (a : ByteArray) : found T a := by
  obtain ⟨h1, h2⟩ := tableB_iff.1 h
  by_cases ha : a ∈ T.all
  · unfold Tab.all at ha
    rcases List.mem_append.1 ha with ha | ha
    · obtain ⟨k, hk, rfl⟩ := List.mem_map.1 ha; exact (h2 k (List.mem_range.1 hk)).1
    · obtain ⟨k, hk, rfl⟩ := List.mem_map.1 ha; exact (h2 k (List.mem_range.1 hk)).2
  · rw [found_iff h1.ok, lone ha]
    intro k hk
    have m1 : T.fr k ∈ T.all := List.mem_append_left _ (List.mem_map.2 ⟨k, List.mem_range.2 hk, rfl⟩)
    have m2 : T.to k ∈ T.all := List.mem_append_right _ (List.mem_map.2 ⟨k, List.mem_range.2 hk, rfl⟩)
    have n1 : T.fr k ∉ nms (one a) := by simp [nms, one]; rintro rfl; exact ha m1
    have n2 : T.to k ∉ nms (one a) := by simp [nms, one]; rintro rfl; exact ha m2
    exact ⟨⟨fun x => absurd x n1, fun x => absurd x n2⟩, fun f g hf _ => absurd (nmsI hf) n1⟩
theorem all_fine {T : Tab} (h : tableB T = true) (a : ByteArray) : Fine T (srch T a) := (found_iff (tableB_iff.1 h).1.ok a).1 (all_found h a)
theorem srch_len {T : Tab} (h : okT T) (a : ByteArray) : (srch T a).length ≤ 25 := by have := (srch_good T a).len; have := h.1; omega

/-! ### names and factors, place by place -/
def nmF (L : List Ent) (i : Nat) : ByteArray := (L.getD i (ByteArray.empty, (0, 0))).1
def faF (L : List Ent) (i : Nat) : Int × Int := (L.getD i (ByteArray.empty, (0, 0))).2
theorem nmF_at {L : List Ent} {i : Nat} (h : i < L.length) : nmF L i = (L[i]'h).1 := by unfold nmF; rw [List.getD_eq_getElem?_getD, List.getElem?_eq_getElem h]; rfl
theorem faF_at {L : List Ent} {i : Nat} (h : i < L.length) : faF L i = (L[i]'h).2 := by unfold faF; rw [List.getD_eq_getElem?_getD, List.getElem?_eq_getElem h]; rfl
theorem ent_at {L : List Ent} {i : Nat} (h : i < L.length) : L[i]'h = (nmF L i, faF L i) := by rw [nmF_at h, faF_at h]
theorem nmF_app (L : List Ent) (c : Ent) {j : Nat} (h : j < L.length) : nmF (L ++ [c]) j = nmF L j := by
  unfold nmF; rw [List.getD_eq_getElem?_getD, List.getD_eq_getElem?_getD, List.getElem?_append_left h]
theorem faF_app (L : List Ent) (c : Ent) {j : Nat} (h : j < L.length) : faF (L ++ [c]) j = faF L j := by
  unfold faF; rw [List.getD_eq_getElem?_getD, List.getD_eq_getElem?_getD, List.getElem?_append_left h]
theorem nmF_new (L : List Ent) (c : Ent) : nmF (L ++ [c]) L.length = c.1 := by unfold nmF; simp [List.getD_eq_getElem?_getD]
theorem faF_new (L : List Ent) (c : Ent) : faF (L ++ [c]) L.length = c.2 := by unfold faF; simp [List.getD_eq_getElem?_getD]
theorem mem_nmF {L : List Ent} {x : ByteArray} : x ∈ nms L ↔ ∃ i, i < L.length ∧ nmF L i = x := by
  constructor
  · intro h
    obtain ⟨f, hf⟩ := mem_nms.1 h
    obtain ⟨i, hi, e⟩ := List.getElem_of_mem hf
    exact ⟨i, hi, by rw [nmF_at hi, e]⟩
  · rintro ⟨i, hi, rfl⟩
    rw [nmF_at hi]
    exact mem_nms.2 ⟨(L[i]'hi).2, List.getElem_mem hi⟩
theorem find_neg {L : List Ent} {x : ByteArray} : fndV (nmF L) x L.length < 0 ↔ x ∉ nms L := by
  rw [fndV_neg, mem_nmF]
  constructor
  · rintro h ⟨i, hi, e⟩; exact h i hi e
  · intro h i hi e; exact h ⟨i, hi, e⟩
theorem find_pos {L : List Ent} {x : ByteArray} (h : ¬ fndV (nmF L) x L.length < 0) : ∃ j : Nat, fndV (nmF L) x L.length = (j : Int) ∧ j < L.length ∧ nmF L j = x ∧ (x, faF L j) ∈ L := by
  unfold fndV at h ⊢
  cases hs : fndS (nmF L) x L.length with
  | none => rw [hs] at h; exact absurd h (by decide)
  | some j =>
    obtain ⟨h1, h2, _⟩ := fndS_some hs
    refine ⟨j, rfl, h1, h2, ?_⟩
    rw [← h2, ← ent_at h1]
    exact List.getElem_mem h1
/-- the factor from one unit to another -/
noncomputable def facOf (T : Tab) (a b : ByteArray) : (Int × Int) × Bool :=
  if tableB T = true ∧ isC a = true ∧ isC b = true ∧ ¬ fndV (nmF (srch T a)) b (srch T a).length < 0 then (faF (srch T a) (fndV (nmF (srch T a)) b (srch T a).length).toNat, true) else ((0, 0), false)
/-- the units that are reached -/
noncomputable def unitsOf (T : Tab) (a : ByteArray) : List Ent := if tableB T = true ∧ isC a = true then srch T a else []
theorem facOf_yes {T : Tab} {a b : ByteArray} (h : (facOf T a b).2 = true) : tableB T = true ∧ isC a = true ∧ isC b = true ∧ (b, (facOf T a b).1) ∈ srch T a := by
  unfold facOf at h ⊢
  split at h
  · next hc =>
    obtain ⟨h1, h2, h3, h4⟩ := hc
    rw [if_pos ⟨h1, h2, h3, h4⟩]
    obtain ⟨j, e, hj, _, hm⟩ := find_pos h4
    refine ⟨h1, h2, h3, ?_⟩
    rw [e]; exact hm
  · cases h
theorem facOf_no {T : Tab} {a b : ByteArray} (h : (facOf T a b).2 = false) : (facOf T a b).1 = (0, 0) ∧ ¬ (tableB T = true ∧ isC a = true ∧ isC b = true ∧ b ∈ nms (srch T a)) := by
  unfold facOf at h ⊢
  split at h
  · cases h
  · next hc =>
    rw [if_neg hc]
    refine ⟨rfl, fun q => hc ⟨q.1, q.2.1, q.2.2.1, fun hn => find_neg.1 hn q.2.2.2⟩⟩
theorem facOf_isP {T : Tab} {a b : ByteArray} (h : (facOf T a b).2 = true) : isP (facOf T a b).1 := (srch_good T a).fac _ (facOf_yes h).2.2.2
end Go.Proofs.Ytccejhhhengpcaa
