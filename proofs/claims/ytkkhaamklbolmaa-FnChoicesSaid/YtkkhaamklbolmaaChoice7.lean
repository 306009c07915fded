/-
  Laws on half-drawn models: an option more, a rule more, a values slice replaced; a drawn model whole. (Printed by gen/choice7.py.)
-/
import Derived.Test.YtkkhaamklbolmaaChoice6
import Derived.Test.YtkkhaamklbolmaaModel3
import Derived.Deep.SlicePairs
namespace Go.Proofs.Ytkkhaamklbolmaa
open Go.RowKit Go.Sort
set_option linter.unusedVariables false
set_option linter.unusedSimpArgs false

def xyzF (q : Nat) : Value := if q = 0 then .string ⟨#[88]⟩ else if q = 1 then .string ⟨#[89]⟩ else .string ⟨#[90]⟩
theorem row_xyz_at {w : World} {k : Nat} (h : k = w.heap.size) : Row (w.alloc (.cells #[.string ⟨#[88]⟩, .string ⟨#[89]⟩, .string ⟨#[90]⟩] 9)) k 9 3 xyzF := by
  subst h
  exact row_lit w _ _ 3 _ (by simp) (fun q hq => by rcases (by omega : q = 0 ∨ q = 1 ∨ q = 2) with rfl | rfl | rfl <;> rfl)
theorem fresh_at {w : World} {k : Nat} {a b : Value} {T : TypeId} (h : k = w.heap.size) : (w.alloc (.cells #[a, b] T)).cell? ⟨k, 0, none⟩ = some a ∧ (w.alloc (.cells #[a, b] T)).cell? ⟨k, 1, none⟩ = some b := by
  subst h; constructor <;> simp [World.cell?_alloc_new]
theorem optV_lt (nm : Nat → ByteArray) (V : Nat → Value) (x : ByteArray) (v : Value) {n a : Nat} (h : a < n) (q : Nat) : optV nm V a q = optV (fun j => if j = n then x else nm j) (fun j => if j = n then v else V j) a q := by
  unfold optV; simp only [if_neg (show a ≠ n by omega)]
theorem optV_at (nm : Nat → ByteArray) (V : Nat → Value) (x : ByteArray) (v : Value) (n q : Nat) : optV (fun j => if j = n then x else nm j) (fun j => if j = n then v else V j) n q = if q = 0 then .string x else v := by
  unfold optV; simp only [if_true]
theorem opt_new {W : World} {g n : Nat} {nm : Nat → ByteArray} {V : Nat → Value} {x : ByteArray} {v : Value} (h : W.cell? ⟨g, 0, none⟩ = some (.string x) ∧ W.cell? ⟨g, 1, none⟩ = some v) : ∀ j q, j < 1 → q < 2 → W.cell? ((⟨g, 0, none⟩ : Addr).add (j * 2 + q)) = some (optV (fun j => if j = n then x else nm j) (fun j => if j = n then v else V j) (n + j) q) := by
  intro j q hj hq
  obtain rfl : j = 0 := by omega
  rw [WideShapes.add_plain, Nat.add_zero, optV_at]
  rcases (by omega : q = 0 ∨ q = 1) with rfl | rfl
  · exact h.1
  · exact h.2
theorem opt_one {n : Nat} {nm : Nat → ByteArray} {V : Nat → Value} {x : ByteArray} {A : Option Addr} {l c : Nat} : ∀ j q, j < 1 → q < 2 → (optV (fun j => if j = n then x else nm j) (fun j => if j = n then .slice A l c else V j) (n + j) q).oneCell' = true := by
  intro j q hj hq
  obtain rfl : j = 0 := by omega
  rw [Nat.add_zero, optV_at]
  split <;> rfl
theorem grown_name2 {a b : World} {g : Nat} (h : a.grownBy b (some g)) (p : Addr) (v : Value) (hn : p.block ≠ g) (hl : p.block < a.heap.size) (hc : a.cell? p = some v) : ∀ o, (b.alloc o).cell? p = some v := fun o => by
  have h1 := (grown_cell h hl hn).trans hc
  exact ((Below.refl b.heap.size b).alloc (Nat.le_refl _) o).cell (p := p) (Nat.lt_of_lt_of_le hl h.size) |>.trans h1
theorem strIn_xyz {W : World} {blk k : Nat} (h : Row W blk 9 3 xyzF) (hk : k ≤ 2) : StrIn W (.slice (some ⟨blk, 0, none⟩) (1 + k) 3) := by
  refine ⟨blk, 3, 1 + k, fun q => if q = 0 then ⟨#[88]⟩ else if q = 1 then ⟨#[89]⟩ else ⟨#[90]⟩, rfl, by omega, by omega, by omega, (h.short (by omega)).congr (fun q hq => ?_), fun q hq => ?_⟩
  · rcases (by omega : q = 0 ∨ q = 1 ∨ q = 2) with rfl | rfl | rfl <;> rfl
  · rcases (by omega : q = 0 ∨ q = 1 ∨ q = 2) with rfl | rfl | rfl <;> decide
theorem strIn_two {W : World} {b : Nat} {x z : ByteArray} (hb : b = W.heap.size) (hx : x.size ≤ 8) (hz : z.size ≤ 8) : StrIn (W.alloc (.cells #[.string x, .string z] 9)) (.slice (some ⟨b, 0, none⟩) 2 2) := by
  subst hb
  refine ⟨W.heap.size, 2, 2, fun q => if q = 0 then x else z, rfl, by omega, by omega, by omega, row_lit W _ _ 2 _ (by simp) (fun q hq => ?_), fun q hq => ?_⟩
  · rcases (by omega : q = 0 ∨ q = 1) with rfl | rfl <;> rfl
  · rcases (by omega : q = 0 ∨ q = 1) with rfl | rfl
    · exact hx
    · exact hz
theorem row_own1 {B g n cap : Nat} {w : World} {T : TypeId} {F : Nat → Nat → Value} (h : OwnV B w T 1 (.slice (some ⟨g, 0, none⟩) n cap) n F) : Row w g T n (fun i => F i 0) := by
  obtain ⟨cs, hh, hs, hn, ht⟩ := row_ownS h.own
  refine ⟨cs, hh, by omega, fun i hi => ?_⟩
  have h1 : (cs.toList.take (n * 1))[i]? = (flat 1 F n)[i]? := by rw [ht]
  rw [List.getElem?_take, if_pos (by omega), flat_get (by omega), Nat.div_one, Nat.mod_one] at h1
  simpa using h1
theorem strIn_own {B n c : Nat} {w : World} {A : Option Addr} {f : Nat → ByteArray} (h : OwnV B w 9 1 (.slice A n c) n (fun q _ => .string (f q))) (hn : 0 < n) (hn3 : n ≤ 3) (hf : ∀ q, q < n → (f q).size ≤ 8) : StrIn w (.slice A n c) := by
  obtain ⟨g, c2, hv⟩ := h.formN hn
  injection hv with e1 e2 e3
  subst e1; subst e3
  obtain ⟨A2, c3, hv2, hS, _⟩ := h.slice
  injection hv2 with e1 e2 e3
  subst e3
  exact ⟨g, c, n, f, rfl, hS.le, hS.max, ⟨hn, hn3⟩, row_own1 h, hf⟩
/-- an option more, in the world that the append leaves -/
theorem MdS.finO {B g gm N M : Nat} {W w7 : World} {Ao Ar : Option Addr} {co cr : Nat} {nm : Nat → ByteArray} {V U : Nat → Value} (h : MdS B g gm W N M Ao co Ar cr nm V U) {A7 : Option Addr} {p7 : Nat} {x : ByteArray} {v : Value} (hg : W.grownBy w7 (Value.slice Ao N co).ownBlock)
    (ho : OwnV B w7 108 2 (.slice A7 (N + 1) p7) (N + 1) (optV (fun j => if j = N then x else nm j) (fun j => if j = N then v else V j))) (hx : x.size ≤ 8) (hv : StrIn W v) :
    MdE B g gm (w7.setCell ⟨gm, 0, none⟩ (.slice A7 (N + 1) p7)) (N + 1) M ∧ w7.cell? ⟨gm, 0, none⟩ = some (.slice Ao N co) ∧ w7.frozen? ⟨gm, 0, none⟩ = false ∧ gm < w7.heap.size ∧ Below B W w7 := by
  obtain ⟨cs, hh, _, _⟩ := h.row
  have r7 := h.row.own hg (own_ne h.oo hh (by decide))
  have hbw : B ≤ W.heap.size := by have := h.cur.lt; have := h.cur.base; omega
  exact ⟨h.addO hx hv ho hg, r7.cell (i := 0) (by omega), r7.frozen 0, r7.lt, below_own (Below.refl B W) hg (fun r hr => (h.oo.lt hr).1) hbw⟩
/-- an option more, of three values at most -/
theorem MdS.fin {B g gm N M : Nat} {W w7 : World} {Ao Ar : Option Addr} {co cr : Nat} {nm : Nat → ByteArray} {V U : Nat → Value} (h : MdS B g gm W N M Ao co Ar cr nm V U) {A7 : Option Addr} {p7 blk k : Nat} {x : ByteArray} (hg : W.grownBy w7 (Value.slice Ao N co).ownBlock)
    (ho : OwnV B w7 108 2 (.slice A7 (N + 1) p7) (N + 1) (optV (fun j => if j = N then x else nm j) (fun j => if j = N then .slice (some ⟨blk, 0, none⟩) (1 + k) 3 else V j))) (hx : x.size ≤ 8) (hr : Row W blk 9 3 xyzF) (hk : k ≤ 2) :
    MdE B g gm (w7.setCell ⟨gm, 0, none⟩ (.slice A7 (N + 1) p7)) (N + 1) M ∧ w7.cell? ⟨gm, 0, none⟩ = some (.slice Ao N co) ∧ w7.frozen? ⟨gm, 0, none⟩ = false ∧ gm < w7.heap.size ∧ Below B W w7 :=
  h.finO hg ho hx (strIn_xyz hr hk)
/-- an option doubled -/
theorem MdS.finD {B g gm N M : Nat} {W w7 : World} {Ao Ar : Option Addr} {co cr : Nat} {nm : Nat → ByteArray} {V U : Nat → Value} (h : MdS B g gm W N M Ao co Ar cr nm V U) {A7 : Option Addr} {p7 gv nv cv : Nat} (hN : 0 < N) (hV : V 0 = .slice (some ⟨gv, 0, none⟩) nv cv) (hg : W.grownBy w7 (Value.slice Ao N co).ownBlock)
    (ho : OwnV B w7 108 2 (.slice A7 (N + 1) p7) (N + 1) (optV (fun j => if j = N then nm 0 else nm j) (fun j => if j = N then .slice (some ⟨gv, 0, none⟩) nv cv else V j))) :
    MdE B g gm (w7.setCell ⟨gm, 0, none⟩ (.slice A7 (N + 1) p7)) (N + 1) M ∧ w7.cell? ⟨gm, 0, none⟩ = some (.slice Ao N co) ∧ w7.frozen? ⟨gm, 0, none⟩ = false ∧ gm < w7.heap.size ∧ Below B W w7 :=
  h.finO hg ho (h.ov 0 hN).1 (hV ▸ (h.ov 0 hN).2)
/-- a rule more, in the world that the append leaves -/
theorem MdS.finR {B g gm N M : Nat} {W w7 : World} {Ao Ar : Option Addr} {co cr : Nat} {nm : Nat → ByteArray} {V U : Nat → Value} (h : MdS B g gm W N M Ao co Ar cr nm V U) {A7 : Option Addr} {p7 : Nat} {v : Value} (hg : W.grownBy w7 (Value.slice Ar M cr).ownBlock)
    (ho : OwnV B w7 25 1 (.slice A7 (M + 1) p7) (M + 1) (valC (fun j => if j = M then v else U j))) (hv : CndIn W v) :
    MdE B g gm (w7.setCell ⟨gm, 1, none⟩ (.slice A7 (M + 1) p7)) N (M + 1) ∧ w7.cell? ⟨gm, 1, none⟩ = some (.slice Ar M cr) ∧ w7.frozen? ⟨gm, 1, none⟩ = false ∧ gm < w7.heap.size ∧ Below B W w7 := by
  obtain ⟨cs, hh, _, _⟩ := h.row
  have r7 := h.row.own hg (own_ne h.ro hh (by decide))
  have hbw : B ≤ W.heap.size := by have := h.cur.lt; have := h.cur.base; omega
  exact ⟨h.addR hv ho hg, r7.cell (i := 1) (by omega), r7.frozen 1, r7.lt, below_own (Below.refl B W) hg (fun r hr => (h.ro.lt hr).1) hbw⟩
section
variable {B g gm N M : Nat} {w : World} {Ar : Option Addr} {go co cr : Nat} {nm : Nat → ByteArray} {V U : Nat → Value}
theorem MdS.formO {Ao : Option Addr} (h : MdS B g gm w N M Ao co Ar cr nm V U) (hN : 0 < N) : ∃ go, Ao = some ⟨go, 0, none⟩ := by
  obtain ⟨g', c', hv⟩ := h.oo.formN hN
  injection hv with e1 e2 e3
  exact ⟨g', e1⟩
theorem MdS.cellO (h : MdS B g gm w N M (some ⟨go, 0, none⟩) co Ar cr nm V U) {j : Nat} (hj : j < N) : w.cell? ⟨go, j * 2, none⟩ = some (.string (nm j)) ∧ w.cell? ⟨go, j * 2 + 1, none⟩ = some (V j) ∧ w.frozen? ⟨go, j * 2 + 1, none⟩ = false ∧ go < w.heap.size ∧ N ≤ co ∧ B ≤ go := by
  have hb : (Value.slice (some ⟨go, 0, none⟩) N co).ownBlock = some go := rfl
  have h0 := h.oo.cell hb hj (q := 0) (by omega)
  obtain ⟨A2, c3, hv2, hS, _⟩ := h.oo.slice
  injection hv2 with e1 e2 e3
  subst e3
  exact ⟨h0, h.oo.cell hb hj (q := 1) (by omega), h.oo.frozen hb _, (h.oo.lt hb).2, hS.le, (h.oo.lt hb).1⟩
/-- the values of an option are others -/
theorem MdS.setO (h : MdS B g gm w N M (some ⟨go, 0, none⟩) co Ar cr nm V U) {j : Nat} (hj : j < N) {v : Value} (hv : StrIn w v) : MdS B g gm (w.setCell ⟨go, j * 2 + 1, none⟩ v) N M (some ⟨go, 0, none⟩) co Ar cr nm (fun q => if q = j then v else V q) U := by
  have hb : (Value.slice (some ⟨go, 0, none⟩) N co).ownBlock = some go := rfl
  obtain ⟨cs, hh⟩ : ∃ cs : Array Value, w.heap[go]? = some (.cells cs 108 (0, 0)) := by
    obtain ⟨cs, hh, _⟩ := row_ownS h.oo.own
    exact ⟨cs, hh⟩
  obtain ⟨cm, hm, _, _⟩ := h.row
  have n1 : go ≠ gm := fun e => own_ne h.oo hm (by decide) (by rw [hb, e])
  have K9 := keep_set (T := 9) (i := j * 2 + 1) hh (by decide) v
  have K54 := keep_set (T := 54) (i := j * 2 + 1) hh (by decide) v
  refine ⟨h.cur.setCell (h.oo.lt hb).1 (h.cur.notype hh (by decide)) _, h.gB, h.row.far n1 _, (h.oo.set hb hj (q := 1) (by omega) v).congr (fun a b ha hb2 => ?_), h.ro.far (own_ne h.ro hh (by decide)) _, fun q hq => ⟨(h.ov q hq).1, ?_⟩, fun q hq => (h.rv q hq).keep K54, fun rb e => (h.res rb e).far (fun e2 => ?_) _⟩
  · rcases (by omega : b = 0 ∨ b = 1) with rfl | rfl
    · unfold optV; simp
    · unfold optV; simp only [and_true]; by_cases e : a = j
      · subst e; simp
      · simp [e]
  · by_cases e : q = j
    · subst e; simp only [if_true]; exact hv.keep K9
    · simp only [if_neg e]; exact (h.ov q hq).2.keep K9
  · obtain ⟨c3, h3, _, _⟩ := h.res rb e
    exact own_ne h.oo h3 (by decide) (by rw [hb]; exact congrArg some e2)
theorem set_alloc {w : World} {p : Addr} (v : Value) (o : Obj) (h : p.block < w.heap.size) : (w.setCell p v).alloc o = (w.alloc o).setCell p v := by
  have e : ∀ f, (w.heap.modify p.block f).push o = (w.heap.push o).modify p.block f := fun f => by
    apply Array.ext_getElem?
    intro i
    simp only [Array.getElem?_push, Array.getElem?_modify, Array.size_modify]
    by_cases e1 : i = w.heap.size
    · subst e1; simp [show ¬ p.block = w.heap.size by omega]
    · simp [e1]
  unfold World.setCell World.alloc
  simp only [e]
/-- the values of the first option are two texts -/
theorem MdS.fin2 (h : MdS B g gm w N M (some ⟨go, 0, none⟩) co Ar cr nm V U) (hN : 0 < N) {b : Nat} (hb : b = w.heap.size) {x z : ByteArray} (hx : x.size ≤ 8) (hz : z.size ≤ 8) : MdE B g gm ((w.setCell ⟨go, 1, none⟩ (.slice (some ⟨b, 0, none⟩) 2 2)).alloc (.cells #[.string x, .string z] 9)) N M := by
  rw [set_alloc _ _ (show go < w.heap.size from (h.cellO hN).2.2.2.1)]
  exact ⟨_, _, _, _, _, _, _, (h.alloc _).setO (j := 0) hN (strIn_two hb hx hz)⟩
theorem own_emptyS {W : World} {B g : Nat} (h : W.heap[g]? = some (Obj.cells #[] 9 (0, 0))) (hB : B ≤ g) (F : Nat → Nat → Value) : OwnV B W 9 1 (.slice (some ⟨g, 0, none⟩) 0 0) 0 F :=
  ⟨by simp [flat], .inr ⟨g, 0, #[], rfl, hB, h, Nat.le_refl _, by unfold maxLen; omega, by simp, by simp [flat]⟩⟩
/-- the values of an option are copied: the world of the append is w1, behind it w7 -/
theorem MdS.finC (h : MdS B g gm w N M (some ⟨go, 0, none⟩) co Ar cr nm V U) {j : Nat} (hj : j < N) {w1 w7 : World} (h1 : Below w.heap.size w w1) {k nv p7 : Nat} {A7 : Option Addr} (hk : w.heap.size ≤ k) (hg : w1.grownBy w7 (some k)) {f : Nat → ByteArray}
    (ho : OwnV w.heap.size w7 9 1 (.slice A7 nv p7) nv (fun q _ => .string (f q))) (hn : 0 < nv) (hn3 : nv ≤ 3) (hf : ∀ q, q < nv → (f q).size ≤ 8) :
    MdS B g gm w7 N M (some ⟨go, 0, none⟩) co Ar cr nm V U ∧ MdS B g gm (w7.setCell ⟨go, j * 2 + 1, none⟩ (.slice A7 nv p7)) N M (some ⟨go, 0, none⟩) co Ar cr nm (fun q => if q = j then .slice A7 nv p7 else V q) U ∧ Below w.heap.size w w7 := by
  have hb : Below w.heap.size w w7 := below_own h1 hg (fun r hr => by injection hr with hr; omega) h1.size
  exact ⟨h.call hb, (h.call hb).setO hj (strIn_own ho hn hn3 hf), hb⟩
theorem row_src {W : World} {gv nv : Nat} {f : Nat → ByteArray} (h : Row w gv 9 nv (fun q => .string (f q))) (hb : Below w.heap.size w W) : ∀ j q, j < nv → q < 1 → W.cell? ((⟨gv, 0, none⟩ : Addr).add (j * 1 + q)) = some ((fun q (_ : Nat) => Value.string (f q)) (0 + j) q) := by
  intro j q hj hq
  obtain rfl : q = 0 := by omega
  have := (h.call hb).cell hj
  simpa [WideShapes.add_plain] using this
/-- a model of one to four options, four rules at most -/
def MdC (B g gm : Nat) (w : World) : Prop := ∃ N M, 0 < N ∧ N ≤ 4 ∧ M ≤ 4 ∧ MdE B g gm w N M
/-- a model whole: its options and rules, in blocks of their own -/
def MdF (w : World) (Ao : Option Addr) (N co : Nat) (Ar : Option Addr) (M cr : Nat) : Prop := ∃ (B : Nat) (nm : Nat → ByteArray) (V U : Nat → Value), OwnV B w 108 2 (.slice Ao N co) N (optV nm V) ∧ OwnV B w 25 1 (.slice Ar M cr) M (valC U) ∧ (∀ j, j < N → (nm j).size ≤ 8 ∧ StrIn w (V j)) ∧ ∀ j, j < M → CndIn w (U j)
theorem MdS.mdF {Ao : Option Addr} (h : MdS B g gm w N M Ao co Ar cr nm V U) : MdF w Ao N co Ar M cr := ⟨B, nm, V, U, h.oo, h.ro, h.ov, h.rv⟩
end
section
variable {N M co cr : Nat} {w : World} {Ao Ar : Option Addr}
/-- a store into a block of the model's type leaves it -/
theorem MdF.keep (h : MdF w Ao N co Ar M cr) {rb : Nat} {cs : Array Value} (hm : w.heap[rb]? = some (.cells cs 66 (0, 0))) {W : World} (hg : w.grownBy W (some rb)) : MdF W Ao N co Ar M cr := by
  obtain ⟨B, nm, V, U, oo, ro, ov, rv⟩ := h
  have K9 := keep_cur (T := 9) hm (by decide) hg
  have K54 := keep_cur (T := 54) hm (by decide) hg
  exact ⟨B, nm, V, U, oo.grown hg (.inr (own_ne oo hm (by decide))), ro.grown hg (.inr (own_ne ro hm (by decide))), fun j hj => ⟨(ov j hj).1, (ov j hj).2.keep K9⟩, fun j hj => (rv j hj).keep K54⟩
theorem MdF.reads (h : MdF w Ao N co Ar M cr) : ∃ (D : OptD) (P : Loc) (E : RulD) (Q : Loc), OptsF w Ao N co D P ∧ RulsF w Ar M cr E Q := by
  obtain ⟨B, nm, V, U, oo, ro, ov, rv⟩ := h
  obtain ⟨q, hq⟩ := Go.Deep.choose_lt (n := N) (p := fun j (x : Option Addr × Nat × Nat × (Nat → ByteArray)) => V j = .slice x.1 x.2.2.1 x.2.1 ∧ StrsF w x.1 x.2.2.1 x.2.1 x.2.2.2) (fun j hj => by
    obtain ⟨A, c, n, f, h1, h2⟩ := (ov j hj).2.strs
    exact ⟨(A, c, n, f), h1, h2⟩)
  obtain ⟨r, hr⟩ := Go.Deep.choose_lt (n := M) (p := fun j (x : Option Addr × Nat × List Nd) => U j = .slice x.1 x.2.2.length x.2.1 ∧ CondNodeF w x.1 x.2.2.length x.2.1 (ndK x.2.2) (ndO x.2.2) (ndV x.2.2)) (fun j hj => by
    obtain ⟨A, c, L, h1, h2⟩ := (rv j hj).cond
    exact ⟨(A, c, L), h1, h2⟩)
  obtain ⟨A2, c2, e2, s2, _⟩ := (oo.congr (F' := optC ⟨nm, fun j => (q j).2.2.1, fun j => (q j).2.2.2⟩ ⟨fun j => (q j).1, fun j => (q j).2.1⟩) (fun a b ha hb => by
    unfold optV optC
    split
    · rfl
    · exact (hq a ha).1)).slice
  injection e2 with e3 e4 e5
  subst e3; subst e5
  obtain ⟨A3, c3, e6, s3, _⟩ := (ro.congr (F' := rulC ⟨fun j => (r j).2.2.length, fun j => ndK (r j).2.2, fun j => ndO (r j).2.2, fun j => ndV (r j).2.2⟩ ⟨fun j => (r j).1, fun j => (r j).2.1⟩) (fun a b ha hb => by
    unfold valC rulC
    exact (hr a ha).1)).slice
  injection e6 with e7 e8 e9
  subst e7; subst e9
  exact ⟨_, _, _, _, ⟨s2, fun i hi => by have := (ov i hi).1; show (nm i).size ≤ _; omega, fun i hi => (hq i hi).2⟩, ⟨s3, fun i hi => (hr i hi).2⟩⟩
end
def nmI (i : Nat) : ByteArray := if i = 0 then ⟨#[67, 79, 76, 79, 82]⟩ else if i = 1 then ⟨#[83, 73, 90, 69]⟩ else ⟨#[76, 73, 68]⟩
theorem nmI_at {i : Nat} (h : i < 3) : (#[Value.string ⟨#[67, 79, 76, 79, 82]⟩, Value.string ⟨#[83, 73, 90, 69]⟩, Value.string ⟨#[76, 73, 68]⟩] : Array Value)[i]? = some (.string (nmI i)) := by
  rcases (by omega : i = 0 ∨ i = 1 ∨ i = 2) with rfl | rfl | rfl <;> rfl
theorem nmI_at2 {i : Nat} (h : i < 3) : [Value.string ⟨#[67, 79, 76, 79, 82]⟩, Value.string ⟨#[83, 73, 90, 69]⟩, Value.string ⟨#[76, 73, 68]⟩][i]? = some (.string (nmI i)) := by
  rcases (by omega : i = 0 ∨ i = 1 ∨ i = 2) with rfl | rfl | rfl <;> rfl
theorem nmI_at3 {i : Nat} (h : i < 3) : [Value.string ⟨#[67, 79, 76, 79, 82]⟩, Value.string ⟨#[83, 73, 90, 69]⟩, Value.string ⟨#[76, 73, 68]⟩][i]'h = .string (nmI i) := by
  rcases (by omega : i = 0 ∨ i = 1 ∨ i = 2) with rfl | rfl | rfl <;> rfl
theorem nmI_le (i : Nat) : (nmI i).size ≤ 8 := by unfold nmI; split; decide; split <;> decide
/-- a model was drawn; nothing below block B has turned -/
def DrawMB (B : Nat) (w : World) (e : Ending) (w' : World) : Prop := ∃ (A : Option Addr) (n c : Nat) (A2 : Option Addr) (m c2 : Nat), e = .returned (.agg #[.slice A n c, .slice A2 m c2]) ∧ MdF w' A n c A2 m c2 ∧ Below B w w'
end Go.Proofs.Ytkkhaamklbolmaa
