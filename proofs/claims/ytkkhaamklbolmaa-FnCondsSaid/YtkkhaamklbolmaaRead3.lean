/-
  The reference's reader of conditions: what its cells hold; contracts of l6Take and l6Word.
-/
import Derived.Test.YtkkhaamklbolmaaRead1
namespace Go.Proofs.Ytkkhaamklbolmaa
open Go.RowKit Go.Sort
set_option linter.unusedVariables false
set_option linter.unusedSimpArgs false

def rsV (S : ByteArray) (s : St) (k : Int) (A : Option Addr) (c q : Nat) : Value := if q = 0 then .string S else if q = 1 then .int .i64 (s.i : Int) else if q = 2 then .slice A s.L.length c else if q = 3 then .bool s.bad else .int .i64 k
/-- block g is the reference's reader of S, in state s, k levels deep -/
structure RdS (S : ByteArray) (B g : Nat) (w : World) (s : St) (k : Int) (A : Option Addr) (c : Nat) : Prop where
  base : B ≤ g
  row : Row w g 91 5 (rsV S s k A c)
  own : OwnV B w 54 3 (.slice A s.L.length c) s.L.length (ndC s.L)
  ne : (Value.slice A s.L.length c).ownBlock ≠ some g
  le : s.i ≤ S.size
  max : S.size ≤ 1000000000
def RsE (S : ByteArray) (B g : Nat) (w w' : World) (s : St) (k : Int) : Prop := (∃ A c, RdS S B g w' s k A c) ∧ Below B w w'
section
variable {S : ByteArray} {B g : Nat} {w : World} {s : St} {k : Int} {A : Option Addr} {c : Nat}
theorem RdS.c0 (h : RdS S B g w s k A c) : w.cell? ⟨g, 0, none⟩ = some (.string S) := h.row.cell (i := 0) (by omega)
theorem RdS.c1 (h : RdS S B g w s k A c) : w.cell? ⟨g, 1, none⟩ = some (.int .i64 (s.i : Int)) := h.row.cell (i := 1) (by omega)
theorem RdS.c2 (h : RdS S B g w s k A c) : w.cell? ⟨g, 2, none⟩ = some (.slice A s.L.length c) := h.row.cell (i := 2) (by omega)
theorem RdS.c3 (h : RdS S B g w s k A c) : w.cell? ⟨g, 3, none⟩ = some (.bool s.bad) := h.row.cell (i := 3) (by omega)
theorem RdS.c4 (h : RdS S B g w s k A c) : w.cell? ⟨g, 4, none⟩ = some (.int .i64 k) := h.row.cell (i := 4) (by omega)
theorem RdS.lt (h : RdS S B g w s k A c) : g < w.heap.size := h.row.lt
theorem RdS.fr (h : RdS S B g w s k A c) (i : Nat) : w.frozen? ⟨g, i, none⟩ = false := h.row.frozen i
theorem RdS.call {w' : World} (h : RdS S B g w s k A c) (hb : Below w.heap.size w w') : RdS S B g w' s k A c := ⟨h.base, h.row.call hb, h.own.call hb, h.ne, h.le, h.max⟩
theorem RdS.drewN (h : RdS S B g w s k A c) (n : Nat) : RdS S B g (w.drewN n) s k A c := h.call ⟨rfl, rfl, rfl, Nat.le_refl _, fun _ _ => rfl⟩
theorem RdS.drew (h : RdS S B g w s k A c) : RdS S B g w.drew s k A c := h.call (Below.refl _ _).drew
theorem RdS.alloc (h : RdS S B g w s k A c) (o : Obj) : RdS S B g (w.alloc o) s k A c := h.call ((Below.refl _ _).alloc (Nat.le_refl _) _)
theorem RdS.set1 (h : RdS S B g w s k A c) {i : Nat} (hi : i ≤ S.size) : RdS S B g (w.setCell ⟨g, 1, none⟩ (.int .i64 (i : Int))) ⟨i, s.L, s.bad⟩ k A c :=
  ⟨h.base, (h.row.set 1 _).congr (fun q hq => by rcases (by omega : q = 0 ∨ q = 1 ∨ q = 2 ∨ q = 3 ∨ q = 4) with rfl | rfl | rfl | rfl | rfl <;> rfl), h.own.far (by exact h.ne) _, h.ne, hi, h.max⟩
theorem RdS.set3 (h : RdS S B g w s k A c) (b : Bool) : RdS S B g (w.setCell ⟨g, 3, none⟩ (.bool b)) ⟨s.i, s.L, b⟩ k A c :=
  ⟨h.base, (h.row.set 3 _).congr (fun q hq => by rcases (by omega : q = 0 ∨ q = 1 ∨ q = 2 ∨ q = 3 ∨ q = 4) with rfl | rfl | rfl | rfl | rfl <;> rfl), h.own.far (by exact h.ne) _, h.ne, h.le, h.max⟩
theorem RdS.set4 (h : RdS S B g w s k A c) (k' : Int) : RdS S B g (w.setCell ⟨g, 4, none⟩ (.int .i64 k')) s k' A c :=
  ⟨h.base, (h.row.set 4 _).congr (fun q hq => by rcases (by omega : q = 0 ∨ q = 1 ∨ q = 2 ∨ q = 3 ∨ q = 4) with rfl | rfl | rfl | rfl | rfl <;> rfl), h.own.far (by exact h.ne) _, h.ne, h.le, h.max⟩
theorem RdS.far (h : RdS S B g w s k A c) {p : Addr} (h1 : p.block ≠ g) (h2 : (Value.slice A s.L.length c).ownBlock ≠ some p.block) (v : Value) : RdS S B g (w.setCell p v) s k A c :=
  ⟨h.base, h.row.far h1 v, h.own.far h2 v, h.ne, h.le, h.max⟩
theorem RdS.put (hB : B ≤ g) (hr : Row w g 91 5 (rsV S s k A c)) (hle : s.i ≤ S.size) (hmx : S.size ≤ 1000000000) {L : List Nd} {A' : Option Addr} {c' : Nat}
    (ho : OwnV B w 54 3 (.slice A' L.length c') L.length (ndC L)) (hne : (Value.slice A' L.length c').ownBlock ≠ some g) : RdS S B g (w.setCell ⟨g, 2, none⟩ (.slice A' L.length c')) ⟨s.i, L, s.bad⟩ k A' c' :=
  ⟨hB, (hr.set 2 _).congr (fun q hq => by rcases (by omega : q = 0 ∨ q = 1 ∨ q = 2 ∨ q = 3 ∨ q = 4) with rfl | rfl | rfl | rfl | rfl <;> rfl), ho.far (by exact hne) _, hne, hle, hmx⟩
end
set_option maxHeartbeats 1000000 in
theorem spec_take (S : ByteArray) (B g : Nat) (w : World) (s : St) (k : Int) (A : Option Addr) (c : Nat) (h : RdS S B g w s k A c) (t : ByteArray) (ht : t.size ≤ 10) :
    Calls Try.prog 94 #[.pointer (some ⟨g, 0, none⟩), .string t] w fun e w' => e = .returned (.bool (isAt S s.i t)) ∧
      (if isAt S s.i t = true then RdS S B g w' ⟨s.i + t.size, s.L, s.bad⟩ k A c else RdS S B g w' s k A c) ∧ Below B w w' ∧ w.grownBy w' (some g) := by
  have H := Lib.hid h
  have c0 := h.c0
  have c1 := h.c1
  have hlt := h.lt
  have hle := h.le
  have hmx := h.max
  have z1 := h.fr 1
  have hbase := h.base
  clear h
  have u1 : IntKind.i64.wrap ((s.i : Int) + (t.size : Int)) = (s.i : Int) + (t.size : Int) := IntWalk.i64_in _ ⟨by omega, by omega⟩
  obtain ⟨q, hq⟩ : ∃ q, q = isAt S s.i t := ⟨_, rfl⟩
  rw [← hq]
  by_cases hfit : s.i + t.size ≤ S.size
  · have hf' : (s.i : Int) + (t.size : Int) ≤ (S.size : Int) := by omega
    have hf2 : (s.i : Int) ≤ (s.i : Int) + (t.size : Int) := by omega
    have hf3 : (0 : Int) ≤ (s.i : Int) + (t.size : Int) := by omega
    rw [isAt_eq hfit] at hq
    by_cases he : S.extract s.i (s.i + t.size) = t
    · obtain rfl : q = true := by rw [hq]; simp [he]
      have hx : ((S.extract s.i (s.i + t.size)).toList == t.toList) = true := by rw [he]; simp
      clear hq he
      go_enter Try.func94, Try.ntmps94
      go_wp2_with fail
      go_quiet (fail)
      go_wp2_with fail
      go_ret
      have h2 := (H.out.drewN nq).set1 (i := s.i + t.size) hfit
      exact ⟨rfl, by simpa using h2, below_set (below_drewN (Below.refl _ _) _) hbase _ _, grown_setCell (grown_drewN (World.grownBy.refl _ _) _) (.inl rfl) _⟩
    · obtain rfl : q = false := by rw [hq]; simp [he]
      have hx : ((S.extract s.i (s.i + t.size)).toList == t.toList) = false := txt_other he
      clear hq he
      go_enter Try.func94, Try.ntmps94
      go_wp2_with fail
      go_quiet (fail)
      go_wp2_with fail
      go_ret
      exact ⟨rfl, by simpa using H.out.drewN nq, below_drewN (Below.refl _ _) _, grown_drewN (World.grownBy.refl _ _) _⟩
  · obtain ⟨m, hm⟩ : ∃ m : Int, m = (s.i : Int) + (t.size : Int) := ⟨_, rfl⟩
    have hf' : ¬ m ≤ (S.size : Int) := by omega
    rw [← hm] at u1
    have u2 : IntKind.i64.wrap ((s.i : Int) + (t.size : Int)) = m := by rw [← hm]; exact u1
    obtain rfl : q = false := by rw [hq, isAt_no hfit]
    have hfd : decide (m ≤ (S.size : Int)) = false := decide_eq_false hf'
    clear hq hm u1 hfit hf'
    go_enter Try.func94, Try.ntmps94
    go_wp2_with fail
    go_quiet (fail)
    go_wp2_with fail
    go_ret
    exact ⟨rfl, by simpa using H.out.drewN nq, below_drewN (Below.refl _ _) _, grown_drewN (World.grownBy.refl _ _) _⟩
/-- where the reference's reader stands, as its cell says -/
def posOf (w : World) (g : Nat) : Nat := match w.cell? ⟨g, 1, none⟩ with
  | some v => (intOf v).toNat
  | none => 0
theorem RdS.pos {S : ByteArray} {B g : Nat} {w : World} {s : St} {k : Int} {A : Option Addr} {c : Nat} (h : RdS S B g w s k A c) : posOf w g = s.i := by
  unfold posOf; rw [h.c1]; simp [intOf]
set_option maxRecDepth 20000 in
set_option maxHeartbeats 4000000 in
theorem spec_word (S : ByteArray) (B g : Nat) (w : World) (s : St) (k : Int) (A : Option Addr) (c : Nat) (h : RdS S B g w s k A c) :
    Calls Try.prog 107 #[.pointer (some ⟨g, 0, none⟩)] w fun e w' => ∃ j, WEnd S s.i j ∧ e = .returned (.string (S.extract s.i j)) ∧
      RdS S B g w' ⟨j, s.L, s.bad⟩ k A c ∧ Below B w w' ∧ w.grownBy w' (some g) := by
  have H := Lib.hid h
  have c0 := h.c0
  have c1 := h.c1
  have hlt := h.lt
  have hle := h.le
  have hmx := h.max
  have hbase := h.base
  clear h
  go_enter Try.func107, Try.ntmps107
  go_wp2_with fail
  go_loopw [] (fun wr => ∃ p : Nat, s.i ≤ p ∧ RdS S B g wr ⟨p, s.L, s.bad⟩ k A c ∧ (Below B w wr ∧ w.grownBy wr (some g)) ∧ Hid (∀ j, s.i ≤ j → j < p → isW S j)) (fun wr => S.size - posOf wr g)
  case atStart => exact ⟨s.i, Nat.le_refl _, H.out, ⟨Below.refl _ _, World.grownBy.refl _ _⟩, Lib.hid (fun j h1 h2 => absurd h2 (by omega))⟩
  case round =>
    obtain ⟨p, hp, h2, b2, HK⟩ := hrel
    have H2 := Lib.hid h2
    have B2 := Lib.hid b2
    have d0 := h2.c0
    have d1 : wr.cell? ⟨g, 1, none⟩ = some (.int .i64 (p : Int)) := h2.c1
    have dlt := h2.lt
    have dz := h2.fr 1
    have dle : p ≤ S.size := h2.le
    have dp := h2.pos
    have u1 : IntKind.i64.wrap ((p : Int) + 1) = (p : Int) + 1 := IntWalk.i64_in _ ⟨by omega, by omega⟩
    clear h2 b2 c0 c1 hlt
    by_cases hlt2 : p < S.size
    · have hlt' : (p : Int) < (S.size : Int) := by omega
      have hb := byt_bd S p
      have he := byt_lt hlt2
      rw [he] at hb
      have hw : isW S p ↔ ((65 ≤ (S[p].toNat : Int) ∧ (S[p].toNat : Int) ≤ 90) ∨ (48 ≤ (S[p].toNat : Int) ∧ (S[p].toNat : Int) ≤ 57) ∨ (S[p].toNat : Int) = 45) := by
        unfold isW; rw [he]
      have HW := Lib.hid hw
      clear he hw
      by_cases hup : 65 ≤ (S[p].toNat : Int) ∧ (S[p].toNat : Int) ≤ 90
      · obtain ⟨u1', u2⟩ := hup
        have HI := Lib.hid (HW.out.2 (.inl ⟨u1', u2⟩))
        go_wp2_with fail
        go_quiet (fail)
        go_wp2_with fail
        have h3 := (H2.out.drewN nq).set1 (i := p + 1) (by show p + 1 ≤ S.size; omega)
        go_roundw
        case rel => exact ⟨p + 1, by omega, by simpa using h3, ⟨below_set (below_drewN B2.out.1 _) hbase _ _, grown_setCell (grown_drewN B2.out.2 _) (.inl rfl) _⟩, Lib.hid (fun j h1 h2 => by
          by_cases e : j = p
          · subst e; exact HI.out
          · exact HK.out j h1 (by omega))⟩
        case measure => rw [dp]; have e := h3.pos; simp at e; simp [e]; omega
      by_cases hdg : 48 ≤ (S[p].toNat : Int) ∧ (S[p].toNat : Int) ≤ 57
      · obtain ⟨d1, d2⟩ := hdg
        have HI := Lib.hid (HW.out.2 (.inr (.inl ⟨d1, d2⟩)))
        have f1 : decide (65 ≤ (S[p].toNat : Int)) = false := decide_eq_false (by omega)
        clear hup
        go_wp2_with fail
        go_quiet (fail)
        go_wp2_with fail
        have h3 := (H2.out.drewN nq).set1 (i := p + 1) (by show p + 1 ≤ S.size; omega)
        go_roundw
        case rel => exact ⟨p + 1, by omega, by simpa using h3, ⟨below_set (below_drewN B2.out.1 _) hbase _ _, grown_setCell (grown_drewN B2.out.2 _) (.inl rfl) _⟩, Lib.hid (fun j h1 h2 => by
          by_cases e : j = p
          · subst e; exact HI.out
          · exact HK.out j h1 (by omega))⟩
        case measure => rw [dp]; have e := h3.pos; simp at e; simp [e]; omega
      by_cases hda : (S[p].toNat : Int) = 45
      · have HI := Lib.hid (HW.out.2 (.inr (.inr hda)))
        have f1 : decide (65 ≤ (S[p].toNat : Int)) = false := decide_eq_false (by omega)
        have f2 : decide (48 ≤ (S[p].toNat : Int)) = false := decide_eq_false (by omega)
        have h6 : ((S[p].toNat : Int) == 45) = true := by simp [hda]
        clear hup hda hdg
        go_wp2_with fail
        go_quiet (fail)
        go_wp2_with fail
        have h3 := (H2.out.drewN nq).set1 (i := p + 1) (by show p + 1 ≤ S.size; omega)
        go_roundw
        case rel => exact ⟨p + 1, by omega, by simpa using h3, ⟨below_set (below_drewN B2.out.1 _) hbase _ _, grown_setCell (grown_drewN B2.out.2 _) (.inl rfl) _⟩, Lib.hid (fun j h1 h2 => by
          by_cases e : j = p
          · subst e; exact HI.out
          · exact HK.out j h1 (by omega))⟩
        case measure => rw [dp]; have e := h3.pos; simp at e; simp [e]; omega
      have HI := Lib.hid (show ¬ isW S p from fun e => by have := HW.out.1 e; omega)
      have h6 : ((S[p].toNat : Int) == 45) = false := by simp [hda]
      clear hda HW
      rcases (by omega : ((S[p].toNat : Int) < 48) ∨ (57 < (S[p].toNat : Int) ∧ (S[p].toNat : Int) < 65) ∨ 90 < (S[p].toNat : Int)) with q | q | q
      · have f1 : decide (65 ≤ (S[p].toNat : Int)) = false := decide_eq_false (by omega)
        have f2 : decide (48 ≤ (S[p].toNat : Int)) = false := decide_eq_false (by omega)
        clear hup hdg q
        go_wp2_with fail
        go_quiet (fail)
        go_wp2_with fail
        go_quiet (fail)
        go_wp2_with fail
        go_ret
        exact ⟨p, ⟨hp, dle, HK.out, fun _ => HI.out⟩, rfl, (H2.out.drewN _).drewN _, below_drewN (below_drewN B2.out.1 _) _, grown_drewN (grown_drewN B2.out.2 _) _⟩
      · have f1 : decide (65 ≤ (S[p].toNat : Int)) = false := decide_eq_false (by omega)
        have f2 : 48 ≤ (S[p].toNat : Int) := by omega
        have f3 : decide ((S[p].toNat : Int) ≤ 57) = false := decide_eq_false (by omega)
        clear hup hdg q
        go_wp2_with fail
        go_quiet (fail)
        go_wp2_with fail
        go_quiet (fail)
        go_wp2_with fail
        go_ret
        exact ⟨p, ⟨hp, dle, HK.out, fun _ => HI.out⟩, rfl, (H2.out.drewN _).drewN _, below_drewN (below_drewN B2.out.1 _) _, grown_drewN (grown_drewN B2.out.2 _) _⟩
      · have f1 : 65 ≤ (S[p].toNat : Int) := by omega
        have f4 : decide ((S[p].toNat : Int) ≤ 90) = false := decide_eq_false (by omega)
        have f2 : 48 ≤ (S[p].toNat : Int) := by omega
        have f3 : decide ((S[p].toNat : Int) ≤ 57) = false := decide_eq_false (by omega)
        clear hup hdg q
        go_wp2_with fail
        go_quiet (fail)
        go_wp2_with fail
        go_quiet (fail)
        go_wp2_with fail
        go_ret
        exact ⟨p, ⟨hp, dle, HK.out, fun _ => HI.out⟩, rfl, (H2.out.drewN _).drewN _, below_drewN (below_drewN B2.out.1 _) _, grown_drewN (grown_drewN B2.out.2 _) _⟩
    · have HI := Lib.hid (show ¬ isW S p from fun e => by have := isW_le e; omega)
      have f0 : decide ((p : Int) < (S.size : Int)) = false := decide_eq_false (by omega)
      have f0' : decide (p < S.size) = false := decide_eq_false (by omega)
      clear hlt2
      go_wp2_with fail
      go_quiet (fail)
      go_wp2_with fail
      go_quiet (fail)
      go_wp2_with fail
      go_ret
      exact ⟨p, ⟨hp, dle, HK.out, fun _ => HI.out⟩, rfl, (H2.out.drewN _).drewN _, below_drewN (below_drewN B2.out.1 _) _, grown_drewN (grown_drewN B2.out.2 _) _⟩
end Go.Proofs.Ytkkhaamklbolmaa
