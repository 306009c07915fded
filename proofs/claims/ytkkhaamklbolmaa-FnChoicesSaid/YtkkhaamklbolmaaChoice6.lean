/-
  What a half-drawn model is: its options and rules, own rows of slices; how it grows.
-/
import Derived.Test.YtkkhaamklbolmaaChoice5
namespace Go.Proofs.Ytkkhaamklbolmaa
open Go.RowKit Go.Sort
set_option linter.unusedVariables false
set_option linter.unusedSimpArgs false

def optV (nm : Nat → ByteArray) (V : Nat → Value) (j q : Nat) : Value := if q = 0 then .string (nm j) else V j
/-- a slice of at most three short texts, in a block of its own kind -/
def StrIn (w : World) (v : Value) : Prop := ∃ (g c n : Nat) (f : Nat → ByteArray), v = .slice (some ⟨g, 0, none⟩) n c ∧ n ≤ c ∧ c ≤ 9223372036854775807 ∧ (0 < n ∧ n ≤ 3) ∧ Row w g 9 n (fun q => .string (f q)) ∧ ∀ q, q < n → (f q).size ≤ 8
def CndIn (w : World) (v : Value) : Prop := ∃ (g c : Nat) (L : List Nd), v = .slice (some ⟨g, 0, none⟩) L.length c ∧ L.length ≤ c ∧ c ≤ 9223372036854775807 ∧ Row w g 54 (L.length * 3) (fun i => ndC L (i / 3) (i % 3)) ∧ NdOk L
theorem StrIn.keep {w w' : World} {v : Value} (h : StrIn w v) (k : KeepT 9 w w') : StrIn w' v := by
  obtain ⟨g, c, n, f, h1, h2, h3, h4, h5, h6⟩ := h
  exact ⟨g, c, n, f, h1, h2, h3, h4, h5.keepT k, h6⟩
theorem CndIn.keep {w w' : World} {v : Value} (h : CndIn w v) (k : KeepT 54 w w') : CndIn w' v := by
  obtain ⟨g, c, L, h1, h2, h3, h4, h5⟩ := h
  exact ⟨g, c, L, h1, h2, h3, h4.keepT k, h5⟩
theorem StrIn.strs {w : World} {v : Value} (h : StrIn w v) : ∃ (A : Option Addr) (c n : Nat) (f : Nat → ByteArray), v = .slice A n c ∧ StrsF w A n c f := by
  obtain ⟨g, c, n, f, h1, h2, h3, h4, h5, h6⟩ := h
  refine ⟨_, c, n, f, h1, SliceF.of_row (s := 1) (by rw [Nat.mul_one]; exact h5) h3 h2 (fun j q hj hq => ?_), fun i hi => by have := h6 i hi; omega⟩
  obtain rfl : q = 0 := by omega
  rw [Nat.mul_one, Nat.add_zero]; rfl
theorem CndIn.cond {w : World} {v : Value} (h : CndIn w v) : ∃ (A : Option Addr) (c : Nat) (L : List Nd), v = .slice A L.length c ∧ CondNodeF w A L.length c (ndK L) (ndO L) (ndV L) := by
  obtain ⟨g, c, L, h1, h2, h3, h4, k⟩ := h
  have hS : SliceF w (some ⟨g, 0, none⟩) L.length c 3 (ndC L) := SliceF.of_row h4 h3 h2 (fun j q hj hq => by
    have d1 : (j * 3 + q) / 3 = j := by omega
    have d2 : (j * 3 + q) % 3 = q := by omega
    show ndC L ((j * 3 + q) / 3) ((j * 3 + q) % 3) = _
    rw [d1, d2])
  exact ⟨_, c, L, h1, hS, fun i hi => by have := (ndOk_at k hi).1; show _ ≤ (ndAt L i).1 ∧ (ndAt L i).1 ≤ _; omega, fun i hi => by have := (ndOk_at k hi).2.1; show (ndAt L i).2.1.size ≤ _; omega, fun i hi => by have := (ndOk_at k hi).2.2; show (ndAt L i).2.2.size ≤ _; omega⟩
theorem CndIn.of_own {w : World} {B : Nat} {A : Option Addr} {c : Nat} {L : List Nd} (h : OwnV B w 54 3 (.slice A L.length c) L.length (ndC L)) (hn : 0 < L.length) (k : NdOk L) : CndIn w (.slice A L.length c) := by
  obtain ⟨g, c2, hv⟩ := h.formN hn
  injection hv with e1 e2 e3
  subst e1; subst e3
  obtain ⟨A2, c3, hv2, hS, _⟩ := h.slice
  injection hv2 with e1 e2 e3
  subst e3
  exact ⟨g, c, L, rfl, hS.le, hS.max, row_own3 h, k⟩
theorem own_ne {w : World} {B s n g : Nat} {T U : TypeId} {v : Value} {F : Nat → Nat → Value} {cs : Array Value} (ho : OwnV B w U s v n F) (hh : w.heap[g]? = some (Obj.cells cs T (0, 0))) (hTU : T ≠ U) : v.ownBlock ≠ some g := fun e => by
  obtain ⟨_, ⟨hv, _⟩ | ⟨g', cap, cur, hv, _, hh2, _⟩⟩ := ho.own
  · rw [hv] at e; cases e
  · rw [hv] at e
    injection e with e
    subst e
    rw [hh2] at hh
    injection hh with hh
    injection hh with _ e4 _
    exact hTU e4.symm
theorem Cur.heap {B g : Nat} {w : World} (c : Cur B w g) : ∃ cs : Array Value, w.heap[g]? = some (Obj.cells cs 122 (0, 0)) := by
  obtain ⟨A, len, cap, k, h, c⟩ := c; exact ⟨_, c.blk⟩
theorem Cur.notype {B g gm : Nat} {w : World} (c : Cur B w g) {cs : Array Value} {T : TypeId} (hh : w.heap[gm]? = some (Obj.cells cs T (0, 0))) (hT : T ≠ 122) : gm ≠ g := fun e => by
  subst e
  obtain ⟨c2, h2⟩ := c.heap
  rw [hh] at h2
  injection h2 with h2
  injection h2 with _ e4 _
  exact hT e4
/-- the model in block gm, half drawn: N options, M rules -/
structure MdS (B g gm : Nat) (w : World) (N M : Nat) (Ao : Option Addr) (co : Nat) (Ar : Option Addr) (cr : Nat) (nm : Nat → ByteArray) (V U : Nat → Value) : Prop where
  cur : Cur B w g
  gB : B ≤ gm
  row : Row w gm 66 2 (modelM (.slice Ao N co) (.slice Ar M cr))
  oo : OwnV B w 108 2 (.slice Ao N co) N (optV nm V)
  ro : OwnV B w 25 1 (.slice Ar M cr) M (valC U)
  ov : ∀ j, j < N → (nm j).size ≤ 8 ∧ StrIn w (V j)
  rv : ∀ j, j < M → CndIn w (U j)
  res : ∀ rb, rb + 1 = gm → Row w rb 66 2 (modelM (.slice none 0 0) (.slice none 0 0))
def MdE (B g gm : Nat) (w : World) (N M : Nat) : Prop := ∃ Ao co Ar cr nm V U, MdS B g gm w N M Ao co Ar cr nm V U
section
variable {B g gm N M : Nat} {w w' : World} {Ao Ar : Option Addr} {co cr : Nat} {nm : Nat → ByteArray} {V U : Nat → Value}
theorem MdS.call (h : MdS B g gm w N M Ao co Ar cr nm V U) (hb : Below w.heap.size w w') : MdS B g gm w' N M Ao co Ar cr nm V U :=
  ⟨h.cur.call hb, h.gB, h.row.call hb, h.oo.call hb, h.ro.call hb, fun j hj => ⟨(h.ov j hj).1, (h.ov j hj).2.keep (keep_below hb)⟩, fun j hj => (h.rv j hj).keep (keep_below hb), fun rb e => (h.res rb e).call hb⟩
theorem MdS.alloc (h : MdS B g gm w N M Ao co Ar cr nm V U) (o : Obj) : MdS B g gm (w.alloc o) N M Ao co Ar cr nm V U := h.call ((Below.refl _ _).alloc (Nat.le_refl _) _)
theorem MdS.drewN (h : MdS B g gm w N M Ao co Ar cr nm V U) (n : Nat) : MdS B g gm (w.drewN n) N M Ao co Ar cr nm V U := h.call ⟨rfl, rfl, rfl, Nat.le_refl _, fun _ _ => rfl⟩
theorem MdS.drew (h : MdS B g gm w N M Ao co Ar cr nm V U) : MdS B g gm w.drew N M Ao co Ar cr nm V U := h.call (Below.refl _ _).drew
theorem MdS.cursor (h : MdS B g gm w N M Ao co Ar cr nm V U) (hg : w.grownBy w' (some g)) (hc : Cur B w' g) : MdS B g gm w' N M Ao co Ar cr nm V U := by
  obtain ⟨cs, hh⟩ := h.cur.heap
  obtain ⟨cm, hm, _, _⟩ := h.row
  have hne : gm ≠ g := fun e => by
    subst e
    rw [hm] at hh
    injection hh with hh
    injection hh with _ e4 _
    exact absurd e4 (by decide)
  exact ⟨hc, h.gB, h.row.own hg (fun e => hne (by injection e with e; exact e.symm)), h.oo.grown hg (.inr (own_ne h.oo hh (by decide))), h.ro.grown hg (.inr (own_ne h.ro hh (by decide))),
    fun j hj => ⟨(h.ov j hj).1, (h.ov j hj).2.keep (keep_cur hh (by decide) hg)⟩, fun j hj => (h.rv j hj).keep (keep_cur hh (by decide) hg), fun rb e => by
      obtain ⟨cr', hr', _, _⟩ := h.res rb e
      have hr := h.cur.notype hr' (by decide)
      exact (h.res rb e).own hg (fun e2 => hr (by injection e2 with e2; exact e2.symm))⟩
theorem MdS.m0 (h : MdS B g gm w N M Ao co Ar cr nm V U) : w.cell? ⟨gm, 0, none⟩ = some (.slice Ao N co) := h.row.cell (i := 0) (by omega)
theorem MdS.m1 (h : MdS B g gm w N M Ao co Ar cr nm V U) : w.cell? ⟨gm, 1, none⟩ = some (.slice Ar M cr) := h.row.cell (i := 1) (by omega)
end
theorem row_setM {w : World} {gm : Nat} {T : TypeId} {a b : Value} (h : Row w gm T 2 (modelM a b)) (v : Value) : Row (w.setCell ⟨gm, 0, none⟩ v) gm T 2 (modelM v b) ∧ Row (w.setCell ⟨gm, 1, none⟩ v) gm T 2 (modelM a v) :=
  ⟨(h.set 0 v).congr (fun i hi => by rcases (by omega : i = 0 ∨ i = 1) with rfl | rfl <;> rfl), (h.set 1 v).congr (fun i hi => by rcases (by omega : i = 0 ∨ i = 1) with rfl | rfl <;> rfl)⟩
theorem keep_set {T U : TypeId} {w : World} {gm i : Nat} {cs : Array Value} (hh : w.heap[gm]? = some (Obj.cells cs U (0, 0))) (hTU : T ≠ U) (v : Value) : KeepT T w (w.setCell ⟨gm, i, none⟩ v) := keep_cur hh hTU (setCell_grown w ⟨gm, i, none⟩ v)
/-- an option more -/
theorem MdS.addO {B g gm N M : Nat} {w w' : World} {Ao Ar : Option Addr} {co cr : Nat} {nm : Nat → ByteArray} {V U : Nat → Value} (h : MdS B g gm w N M Ao co Ar cr nm V U) {A7 : Option Addr} {p7 : Nat} {x : ByteArray} {v : Value} (hx : x.size ≤ 8) (hv : StrIn w v)
    (ho : OwnV B w' 108 2 (.slice A7 (N + 1) p7) (N + 1) (optV (fun j => if j = N then x else nm j) (fun j => if j = N then v else V j))) (hg : w.grownBy w' (Value.slice Ao N co).ownBlock) :
    MdE B g gm (w'.setCell ⟨gm, 0, none⟩ (.slice A7 (N + 1) p7)) (N + 1) M := by
  obtain ⟨cs, hh, _, _⟩ := h.row
  obtain ⟨cc, hc⟩ := h.cur.heap
  have n1 := own_ne h.oo hh (by decide)
  have n2 := own_ne h.oo hc (by decide)
  have row' : Row w' gm 66 2 (modelM (.slice Ao N co) (.slice Ar M cr)) := h.row.own hg n1
  obtain ⟨cs', hh', _, _⟩ := row'
  have c' : Cur B w' g := h.cur.own hg (fun r hr => ⟨(h.oo.lt hr).1, fun e => n2 (by rw [hr, e])⟩)
  have ng := c'.notype hh' (by decide)
  have kr : OwnV B w' 25 1 (.slice Ar M cr) M (valC U) := h.ro.grown hg (by
    cases e : (Value.slice Ao N co).ownBlock with
    | none => by_cases e2 : (Value.slice Ar M cr).ownBlock = none
              · exact .inl e2
              · exact .inr e2
    | some r =>
      right
      rw [← e]
      intro e2
      rw [e] at e2
      obtain ⟨_, ⟨hv, _⟩ | ⟨g', cap, cur, hv, _, hh2, _⟩⟩ := h.oo.own
      · rw [hv] at e; cases e
      · rw [hv] at e
        injection e with e
        subst e
        exact own_ne h.ro hh2 (by decide) e2)
  have K9 := (keep_own (T := 9) h.oo (by decide) hg).trans (keep_set (i := 0) hh' (by decide) (.slice A7 (N + 1) p7))
  have K54 := (keep_own (T := 54) h.oo (by decide) hg).trans (keep_set (i := 0) hh' (by decide) (.slice A7 (N + 1) p7))
  exact ⟨A7, p7, Ar, cr, _, _, U, c'.setCell h.gB ng _, h.gB, (row_setM (h.row.own hg n1) _).1, ho.far (own_ne ho hh' (by decide)) _, kr.far (own_ne kr hh' (by decide)) _, fun j hj => by
    by_cases e : j = N
    · subst e; simp only [if_true]; exact ⟨hx, hv.keep K9⟩
    · simp only [if_neg e]; exact ⟨(h.ov j (by omega)).1, (h.ov j (by omega)).2.keep K9⟩, fun j hj => (h.rv j hj).keep K54, fun rb e => ((h.res rb e).own hg (by obtain ⟨c3, h3, _, _⟩ := h.res rb e; exact own_ne h.oo h3 (by decide))).far (by show gm ≠ rb; omega) _⟩
/-- a rule more -/
theorem MdS.addR {B g gm N M : Nat} {w w' : World} {Ao Ar : Option Addr} {co cr : Nat} {nm : Nat → ByteArray} {V U : Nat → Value} (h : MdS B g gm w N M Ao co Ar cr nm V U) {A7 : Option Addr} {p7 : Nat} {v : Value} (hv : CndIn w v)
    (ho : OwnV B w' 25 1 (.slice A7 (M + 1) p7) (M + 1) (valC (fun j => if j = M then v else U j))) (hg : w.grownBy w' (Value.slice Ar M cr).ownBlock) :
    MdE B g gm (w'.setCell ⟨gm, 1, none⟩ (.slice A7 (M + 1) p7)) N (M + 1) := by
  obtain ⟨cs, hh, _, _⟩ := h.row
  obtain ⟨cc, hc⟩ := h.cur.heap
  have n1 := own_ne h.ro hh (by decide)
  have n2 := own_ne h.ro hc (by decide)
  have row' : Row w' gm 66 2 (modelM (.slice Ao N co) (.slice Ar M cr)) := h.row.own hg n1
  obtain ⟨cs', hh', _, _⟩ := row'
  have c' : Cur B w' g := h.cur.own hg (fun r hr => ⟨(h.ro.lt hr).1, fun e => n2 (by rw [hr, e])⟩)
  have ng := c'.notype hh' (by decide)
  have kr : OwnV B w' 108 2 (.slice Ao N co) N (optV nm V) := h.oo.grown hg (by
    cases e : (Value.slice Ar M cr).ownBlock with
    | none => by_cases e2 : (Value.slice Ao N co).ownBlock = none
              · exact .inl e2
              · exact .inr e2
    | some r =>
      right
      rw [← e]
      intro e2
      rw [e] at e2
      obtain ⟨_, ⟨hv, _⟩ | ⟨g', cap, cur, hv, _, hh2, _⟩⟩ := h.ro.own
      · rw [hv] at e; cases e
      · rw [hv] at e
        injection e with e
        subst e
        exact own_ne h.oo hh2 (by decide) e2)
  have K9 := (keep_own (T := 9) h.ro (by decide) hg).trans (keep_set (i := 1) hh' (by decide) (.slice A7 (M + 1) p7))
  have K54 := (keep_own (T := 54) h.ro (by decide) hg).trans (keep_set (i := 1) hh' (by decide) (.slice A7 (M + 1) p7))
  exact ⟨Ao, co, A7, p7, nm, V, _, c'.setCell h.gB ng _, h.gB, (row_setM (h.row.own hg n1) _).2, kr.far (own_ne kr hh' (by decide)) _, ho.far (own_ne ho hh' (by decide)) _, fun j hj => ⟨(h.ov j hj).1, (h.ov j hj).2.keep K9⟩, fun j hj => by
    by_cases e : j = M
    · subst e; simp only [if_true]; exact hv.keep K54
    · simp only [if_neg e]; exact (h.rv j (by omega)).keep K54, fun rb e => ((h.res rb e).own hg (by obtain ⟨c3, h3, _, _⟩ := h.res rb e; exact own_ne h.ro h3 (by decide))).far (by show gm ≠ rb; omega) _⟩
end Go.Proofs.Ytkkhaamklbolmaa
