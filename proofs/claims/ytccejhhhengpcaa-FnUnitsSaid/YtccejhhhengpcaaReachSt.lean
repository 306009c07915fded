/-
  Two rows that grow side by side: the names and the factors of the units reached so far. No program in sight but the types' facts.
-/
import Derived.Test.YtccejhhhengpcaaUnitFn
namespace Go.Proofs.Ytccejhhhengpcaa
open Go.RowKit num
set_option linter.unusedVariables false
set_option linter.unusedSimpArgs false

theorem emp_size (s : ByteArray) : s.toList.isEmpty = decide (s.size = 0) := by
  have e : s.size = s.data.toList.length := (Array.length_toList (xs := s.data)).symm
  rw [ByteArray.toList_eq, e]
  cases s.data.toList <;> simp
def namC (L : List Ent) (j q : Nat) : Value := .string (nmF L j)
def ratC (L : List Ent) (j q : Nat) : Value := if q = 0 then .int .i64 (faF L j).1 else .int .i64 (faF L j).2
theorem namC_app (L : List Ent) (c : Ent) {j q : Nat} (h : j < L.length) : namC L j q = namC (L ++ [c]) j q := by unfold namC; rw [nmF_app L c h]
theorem ratC_app (L : List Ent) (c : Ent) {j q : Nat} (h : j < L.length) : ratC L j q = ratC (L ++ [c]) j q := by unfold ratC; rw [faF_app L c h]
theorem namC_new (L : List Ent) (c : Ent) (q : Nat) : namC (L ++ [c]) L.length q = .string c.1 := by unfold namC; rw [nmF_new]
theorem ratC_new (L : List Ent) (c : Ent) (q : Nat) : ratC (L ++ [c]) L.length q = if q = 0 then .int .i64 c.2.1 else .int .i64 c.2.2 := by unfold ratC; rw [faF_new]
theorem str_parts : ∃ i, Try.prog.info? 9 = some i ∧ i.zero = some (.string ByteArray.empty) ∧ i.size = 1 ∧ i.bytes = 16 := by
  have h := str_info
  obtain ⟨i, hi, h2⟩ := Option.map_eq_some_iff.1 h
  injection h2 with h2 h3
  injection h3 with h3 h4
  exact ⟨i, hi, h2, h3, h4⟩
theorem ratio_info : (Try.prog.info? 30).map (fun i => (i.zero, i.size, i.bytes)) = some (some (.agg #[.int .i64 0, .int .i64 0]), 2, 16) := by kernel_rfl
theorem ratio_parts : ∃ i, Try.prog.info? 30 = some i ∧ i.zero = some (.agg #[.int .i64 0, .int .i64 0]) ∧ i.size = 2 ∧ i.bytes = 16 := by
  have h := ratio_info
  obtain ⟨i, hi, h2⟩ := Option.map_eq_some_iff.1 h
  injection h2 with h2 h3
  injection h3 with h3 h4
  exact ⟨i, hi, h2, h3, h4⟩
/-- what a ratio's box holds -/
def boxF (p : Int × Int) (i : Nat) : Value := if i = 0 then .int .i64 p.1 else .int .i64 p.2
theorem box_store {w : World} {g : Nat} {T : TypeId} {f : Nat → Value} (h : Row w g T 2 f) (p : Int × Int) : Row ((w.setCell ⟨g, 0, none⟩ (.int .i64 p.1)).setCell ⟨g, 1, none⟩ (.int .i64 p.2)) g T 2 (boxF p) :=
  ((h.set 0 (.int .i64 p.1)).set 1 (.int .i64 p.2)).congr fun i hi => by
    unfold boxF
    rcases (by omega : i = 0 ∨ i = 1) with rfl | rfl <;> simp
/-- names and factors lie in two rows of the call's own -/
structure ReachSt (B : Nat) (w : World) (gu cu gv cv : Nat) (L : List Ent) : Prop where
  nam : OwnV B w 9 1 (.slice (some ⟨gu, 0, none⟩) L.length cu) L.length (namC L)
  rat : OwnV B w 30 2 (.slice (some ⟨gv, 0, none⟩) L.length cv) L.length (ratC L)
  ne : gu ≠ gv
section
variable {B : Nat} {w w' : World} {gu cu gv cv : Nat} {L : List Ent}
theorem ReachSt.call (h : ReachSt B w gu cu gv cv L) (hb : Below w.heap.size w w') : ReachSt B w' gu cu gv cv L := ⟨h.nam.call hb, h.rat.call hb, h.ne⟩
theorem ReachSt.alloc (h : ReachSt B w gu cu gv cv L) (o : Obj) : ReachSt B (w.alloc o) gu cu gv cv L := h.call ((Below.refl _ _).alloc (Nat.le_refl _) _)
theorem ReachSt.drewN (h : ReachSt B w gu cu gv cv L) (n : Nat) : ReachSt B (w.drewN n) gu cu gv cv L := ⟨h.nam.drewN n, h.rat.drewN n, h.ne⟩
theorem ReachSt.far (h : ReachSt B w gu cu gv cv L) {p : Addr} (h1 : p.block ≠ gu) (h2 : p.block ≠ gv) (v : Value) : ReachSt B (w.setCell p v) gu cu gv cv L :=
  ⟨h.nam.far (by intro e; injection e with e; exact h1 e.symm) v, h.rat.far (by intro e; injection e with e; exact h2 e.symm) v, h.ne⟩
theorem ReachSt.far2 (h : ReachSt B w gu cu gv cv L) {g : Nat} (h1 : g ≠ gu) (h2 : g ≠ gv) (v v' : Value) : ReachSt B ((w.setCell ⟨g, 0, none⟩ v).setCell ⟨g, 1, none⟩ v') gu cu gv cv L :=
  (h.far (p := ⟨g, 0, none⟩) h1 h2 v).far (p := ⟨g, 1, none⟩) h1 h2 v'
theorem ReachSt.ltu (h : ReachSt B w gu cu gv cv L) : B ≤ gu ∧ gu < w.heap.size := h.nam.lt rfl
theorem ReachSt.ltv (h : ReachSt B w gu cu gv cv L) : B ≤ gv ∧ gv < w.heap.size := h.rat.lt rfl
theorem ReachSt.name (h : ReachSt B w gu cu gv cv L) {i : Nat} (hi : i < L.length) : w.cell? ⟨gu, i, none⟩ = some (.string (nmF L i)) := by
  have := h.nam.cell rfl hi (show 0 < 1 by omega)
  simpa [namC] using this
theorem ReachSt.num (h : ReachSt B w gu cu gv cv L) {i : Nat} (hi : i < L.length) : w.cell? ⟨gv, i * 2, none⟩ = some (.int .i64 (faF L i).1) := by
  have := h.rat.cell rfl hi (show 0 < 2 by omega)
  simpa [ratC] using this
theorem ReachSt.den (h : ReachSt B w gu cu gv cv L) {i : Nat} (hi : i < L.length) : w.cell? ⟨gv, i * 2 + 1, none⟩ = some (.int .i64 (faF L i).2) := by
  have := h.rat.cell rfl hi (show 1 < 2 by omega)
  simpa [ratC] using this
theorem ReachSt.strs (h : ReachSt B w gu cu gv cv L) (hz : ∀ i, i < L.length → (nmF L i).size ≤ 9223372036854775807) : StrsF w (some ⟨gu, 0, none⟩) L.length cu (nmF L) := by
  obtain ⟨A, c, e, hS, _⟩ := h.nam.slice
  injection e with e1 e2 e3
  subst e1; subst e3
  exact ⟨hS.congr (fun _ _ _ _ => rfl), hz⟩
end
theorem OwnV.form {B s n : Nat} {T : TypeId} {v : Value} {w : World} {F : Nat → Nat → Value} (h : OwnV B w T s v n F) (hn : 0 < n) : ∃ g c, v = .slice (some ⟨g, 0, none⟩) n c := by
  obtain ⟨hl, ⟨hv, h0⟩ | ⟨g, cap, cur, hv, _⟩⟩ := h.own
  · omega
  · exact ⟨g, cap, hv⟩
theorem ReachSt.push {B : Nat} {w : World} {gu cu gv cv : Nat} {L : List Ent} {c : Ent} (hn : OwnV B w 9 1 (.slice (some ⟨gu, 0, none⟩) (L.length + 1) cu) (L.length + 1) (namC (L ++ [c])))
    (hr : OwnV B w 30 2 (.slice (some ⟨gv, 0, none⟩) (L.length + 1) cv) (L.length + 1) (ratC (L ++ [c]))) (ne : gu ≠ gv) : ReachSt B w gu cu gv cv (L ++ [c]) := by
  have e : (L ++ [c]).length = L.length + 1 := by simp
  exact ⟨by rw [e]; exact hn, by rw [e]; exact hr, ne⟩
theorem own_or {g c n g' c' n' : Nat} {s : Nat} (h : (Value.slice (some ⟨g', 0, none⟩) n' c').ownBlock = (Value.slice (some ⟨g, 0, none⟩) n c).ownBlock ∨ ∃ k, (Value.slice (some ⟨g', 0, none⟩) n' c').ownBlock = some k ∧ s ≤ k) : g' = g ∨ s ≤ g' := by
  rcases h with h | ⟨k, h, h2⟩
  · left; simpa [Value.ownBlock] using h
  · right; simp [Value.ownBlock] at h; omega
theorem own_ne {g c n x : Nat} (h : g ≠ x) : (Value.slice (some ⟨g, 0, none⟩) n c).ownBlock ≠ some x := by intro e; simp [Value.ownBlock] at e; exact h e
/-- the first unit alone -/
theorem reach_start (w w2 : World) {B : Nat} (hB : B ≤ w2.heap.size) (a : ByteArray) :
    ReachSt B ((w2.alloc (.cells #[.string a] 9)).alloc (.cells #[.int .i64 1, .int .i64 1] 30)) w2.heap.size 1 (w2.heap.size + 1) 1 (one a) := by
  refine ⟨(OwnV.lit w2 hB _ 1 1 #[.string a] _ (by simp [flat, namC, nmF, one, List.range_succ]) (by omega)).alloc _, ?_, by omega⟩
  have h := OwnV.lit (w2.alloc (.cells #[.string a] 9)) (B := B) (by simp; omega) 30 2 1 #[.int .i64 1, .int .i64 1] (ratC (one a)) (by simp [flat, ratC, faF, one, List.range_succ]) (by omega)
  rw [show (one a).length = 1 from rfl]; simpa using h
/-- names are not too long -/
theorem good_size {T : Tab} {a : ByteArray} {L : List Ent} (g : Good T a L) (ha : a.size ≤ 9223372036854775807) (h : ∀ k, k < T.n → (T.fr k).size ≤ 9223372036854775807 ∧ (T.to k).size ≤ 9223372036854775807) : ∀ i, i < L.length → (nmF L i).size ≤ 9223372036854775807 := by
  intro i hi
  rcases g.sub (nmF L i) (mem_nmF.2 ⟨i, hi, rfl⟩) with e | e
  · rw [e]; exact ha
  · unfold Tab.all at e
    rcases List.mem_append.1 e with e | e
    · obtain ⟨k, hk, e⟩ := List.mem_map.1 e; rw [← e]; exact (h k (List.mem_range.1 hk)).1
    · obtain ⟨k, hk, e⟩ := List.mem_map.1 e; rw [← e]; exact (h k (List.mem_range.1 hk)).2
theorem good_isP {T : Tab} {a : ByteArray} {L : List Ent} (g : Good T a L) {i : Nat} (hi : i < L.length) : isP (faF L i) := by
  rw [faF_at hi]; exact g.fac _ (List.getElem_mem hi)
/-- the candidate, place by place -/
theorem cand_mulF {T : Tab} {L : List Ent} {i k : Nat} (hi : i < L.length) (h : T.fr k = nmF L i) : T.cand (L[i]'hi) k = some (T.to k, mulP (faF L i) (T.fa k)) := by
  rw [ent_at hi]; exact cand_mul h
theorem cand_divF {T : Tab} {L : List Ent} {i k : Nat} (hi : i < L.length) (h0 : ¬ T.fr k = nmF L i) (h : T.to k = nmF L i) : T.cand (L[i]'hi) k = some (T.fr k, divP (faF L i) (T.fa k)) := by
  rw [ent_at hi]; unfold Tab.cand; rw [if_neg h0, if_pos h]
theorem cand_noneF {T : Tab} {L : List Ent} {i k : Nat} (hi : i < L.length) (h0 : ¬ T.fr k = nmF L i) (h : ¬ T.to k = nmF L i) : T.cand (L[i]'hi) k = none := by
  rw [ent_at hi]; unfold Tab.cand; rw [if_neg h0, if_neg h]
/-! ### the reference's search, a step -/
def ToS (T : Tab) (a : ByteArray) (i k : Nat) (L : List Ent) : Prop := ∀ R, RunS T i k L R → RunS T 0 0 (one a) R
theorem ToS.start (T : Tab) (a : ByteArray) : ToS T a 0 0 (one a) := fun R r => r
theorem ToS.done {T : Tab} {a : ByteArray} {i k : Nat} {L : List Ent} (h : ToS T a i k L) (hi : L.length ≤ i) : L = srch T a := srch_eq (h L (.done hi))
theorem ToS.next {T : Tab} {a : ByteArray} {i k : Nat} {L : List Ent} (h : ToS T a i k L) (hi : i < L.length) (hk : T.n ≤ k) : ToS T a (i + 1) 0 L := fun R r => h R (.next hi hk r)
theorem ToS.none {T : Tab} {a : ByteArray} {i k : Nat} {L : List Ent} (h : ToS T a i k L) (hi : i < L.length) (hk : k < T.n) (hc : T.cand (L[i]'hi) k = none) : ToS T a i (k + 1) L :=
  fun R r => h R (.skip hi hk (fun c hc' => by rw [hc] at hc'; cases hc') r)
theorem ToS.skip {T : Tab} {a : ByteArray} {i k : Nat} {L : List Ent} (h : ToS T a i k L) (hi : i < L.length) (hk : k < T.n) {c : Ent} (hc : T.cand (L[i]'hi) k = some c) (hn : ¬ (isP c.2 ∧ c.1 ∉ nms L)) : ToS T a i (k + 1) L :=
  fun R r => h R (.skip hi hk (fun c' hc' => by rw [hc] at hc'; injection hc' with hc'; subst hc'; exact hn) r)
theorem ToS.push {T : Tab} {a : ByteArray} {i k : Nat} {L : List Ent} (h : ToS T a i k L) (hi : i < L.length) (hk : k < T.n) {c : Ent} (hc : T.cand (L[i]'hi) k = some c) (hf : isP c.2) (hn : c.1 ∉ nms L) : ToS T a i (k + 1) (L ++ [c]) :=
  fun R r => h R (.push hi hk hc hf hn r)
/-! ### the program's search, a step -/
def ToI (T : Tab) (a : ByteArray) (i k : Nat) (L : List Ent) : Prop := ∀ O, RunI T i k L O → RunI T 0 0 (one a) O
theorem ToI.start (T : Tab) (a : ByteArray) : ToI T a 0 0 (one a) := fun R r => r
theorem ToI.done {T : Tab} (ok : T.Ok) {a : ByteArray} {i k : Nat} {L : List Ent} (h : ToI T a i k L) (hi : L.length ≤ i) : L = srch T a ∧ found T a := ⟨found_eq ok (h _ (.done hi)), _, h _ (.done hi)⟩
theorem ToI.next {T : Tab} {a : ByteArray} {i k : Nat} {L : List Ent} (h : ToI T a i k L) (hi : i < L.length) (hk : T.n ≤ k) : ToI T a (i + 1) 0 L := fun R r => h R (.next hi hk r)
theorem ToI.none {T : Tab} {a : ByteArray} {i k : Nat} {L : List Ent} (h : ToI T a i k L) (hi : i < L.length) (hk : k < T.n) (hc : T.cand (L[i]'hi) k = none) : ToI T a i (k + 1) L := fun R r => h R (.skip hi hk hc r)
theorem ToI.bad {T : Tab} (ok : T.Ok) {a : ByteArray} {i k : Nat} {L : List Ent} (h : ToI T a i k L) (hi : i < L.length) (hk : k < T.n) {c : Ent} (hc : T.cand (L[i]'hi) k = some c) (hf : ¬ isP c.2) : ¬ found T a :=
  not_found ok (h _ (.bad hi hk hc hf))
theorem ToI.push {T : Tab} {a : ByteArray} {i k : Nat} {L : List Ent} (h : ToI T a i k L) (hi : i < L.length) (hk : k < T.n) {c : Ent} (hc : T.cand (L[i]'hi) k = some c) (hf : isP c.2) (hn : c.1 ∉ nms L) : ToI T a i (k + 1) (L ++ [c]) :=
  fun R r => h R (.push hi hk hc hf hn r)
theorem ToI.same {T : Tab} {a : ByteArray} {i k : Nat} {L : List Ent} (h : ToI T a i k L) (hi : i < L.length) (hk : k < T.n) {c : Ent} (hc : T.cand (L[i]'hi) k = some c) (hf : isP c.2) (hn : c ∈ L) : ToI T a i (k + 1) L :=
  fun R r => h R (.same hi hk hc hf hn r)
theorem ToI.clash {T : Tab} (ok : T.Ok) {a : ByteArray} {i k : Nat} {L : List Ent} (h : ToI T a i k L) (hi : i < L.length) (hk : k < T.n) {c : Ent} (hc : T.cand (L[i]'hi) k = some c) (hf : isP c.2) {f : Int × Int} (hn : (c.1, f) ∈ L) (hne : f ≠ c.2) : ¬ found T a :=
  not_found ok (h _ (.clash hi hk hc hf hn hne))
end Go.Proofs.Ytccejhhhengpcaa
