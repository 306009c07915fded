/-
  The program's reader of conditions: contracts of not, and, or. (Printed by gen/read2.py.)
-/
import Derived.Test.YtkkhaamklbolmaaRead1
namespace Go.Proofs.Ytkkhaamklbolmaa
open Go.RowKit Go.Sort
set_option linter.unusedVariables false
set_option linter.unusedSimpArgs false

/-- parts with bars between them, each as f says -/
def BarR (S : ByteArray) (f : St → St → Prop) (s b : St) : Prop := ∃ a, f s a ∧ Tail S tBar (4, mt, mt) iAdd f a b
theorem barR_or {S : ByteArray} {f : St → St → Prop} {s b : St} : BarR S (AndR S iAdd f) s b ↔ OrR S iAdd f s b := Iff.rfl
/-- how much of the text is left, as the reader's cell says -/
def restOf (w : World) (g : Nat) : Nat := match w.cell? ⟨g, 0, none⟩ with
  | some (.string r) => r.size
  | _ => 0
theorem RdI.rest {S : ByteArray} {B g : Nat} {w : World} {s : St} {A : Option Addr} {c : Nat} (h : RdI S B g w s A c) : restOf w g = S.size - s.i := by
  unfold restOf; rw [h.c0]; exact rest_size h.le
/-- what a part of the program's reader does from state s -/
def RunI (S : ByteArray) (B g : Nat) (F : FuncId) (args : Array Value) (f : St → St → Prop) : Prop :=
  ∀ (w : World) (s : St) (A : Option Addr) (c : Nat), RdI S B g w s A c → s.bad = false → s.L.length ≤ 30 →
    Calls Try.prog F args w fun e w' => e = .returned (.tuple #[]) ∧ ∃ b, f s b ∧ RdE S B g w w' b
def HfI (S : ByteArray) (N : Nat) (f : St → St → Prop) : Prop := ∀ s a, s.bad = false → s.i ≤ S.size → s.L.length ≤ 30 → f s a → Step S N s a ∧ Small a

set_option maxRecDepth 20000 in
set_option maxHeartbeats 2000000 in
theorem impl_and (S : ByteArray) (B g : Nat) (k : Int) (f : St → St → Prop) (N : Nat) (hN : 31 ≤ N) (hN2 : N ≤ 500) (hf : HfI S N f) (F : RunI S B g 104 #[.pointer (some ⟨g, 0, none⟩), .int .i64 k] f) :
    RunI S B g 95 #[.pointer (some ⟨g, 0, none⟩), .int .i64 k] (AndR S iAdd f) := by
  intro w s A c h h0 hl
  have H := Lib.hid h
  have hle := h.le
  have FF := Lib.hid F
  have HF := Lib.hid hf
  have Z := Lib.hid h0
  clear F hf h h0
  go_enter Try.func95, Try.ntmps95
  go_wp2_with fail
  refine (FF.out w s A c H.out Z.out hl).mono ?_
  rintro e w1 ⟨rfl, a, ha, ⟨A1, c1, h1⟩, b1⟩
  have hst := HF.out s a Z.out hle hl ha
  have HA := Lib.hid ha
  have H1 := Lib.hid h1
  have B1 := Lib.hid b1
  have ST := Lib.hid hst
  clear ha h1 b1 hst
  go_wp2_with fail
  go_loopw [] (fun wr => ∃ (t : St) (A : Option Addr) (c : Nat), RdI S B g wr t A c ∧ Below B w wr ∧ Small t ∧ t.L.length ≤ N + 1 ∧ (∀ b, Tail S tAmp (3, mt, mt) iAdd f t b → Tail S tAmp (3, mt, mt) iAdd f a b)) (fun wr => restOf wr g)
  case atStart => exact ⟨a, A1, c1, H1.out, B1.out, ST.out.2, by have := ST.out.1.len; omega, fun b h => h⟩
  case round =>
    obtain ⟨t, A2, c2, h2, b2, s2, l2, t2⟩ := hrel
    have H2 := Lib.hid h2
    have B2 := Lib.hid b2
    have S2 := Lib.hid s2
    have T2 := Lib.hid t2
    have e2 := h2.rest
    have le2 := h2.le
    clear h2 b2 s2 t2
    cases hq : (!t.bad && isAt S t.i tAmp)
    · have HQ := Lib.hid hq
      clear hq
      go_wp2_with fail
      refine (impl_eat S B g _ t A2 c2 H2.out tAmp (by decide)).mono ?_
      rintro e w3 ⟨rfl, hr, b3⟩
      rw [HQ.out] at hr ⊢
      have H3 := Lib.hid (show RdI S B g w3 t A2 c2 by simpa using hr)
      have B3 := Lib.hid b3
      clear hr b3
      go_wp2_with fail
      go_end0
      refine ⟨rfl, t, ⟨a, HA.out, T2.out t (.stop (by have := HQ.out; simp at this; cases e : t.bad <;> simp_all))⟩, ⟨A2, c2, H3.out⟩, B2.out.trans B3.out⟩
    · have hq1 : t.bad = false := by simp at hq; exact hq.1
      have hq2 : isAt S t.i tAmp = true := by simp at hq; exact hq.2
      have HQ := Lib.hid hq
      have Q1 := Lib.hid hq1
      have Q2 := Lib.hid hq2
      have hfit := isAt_le hq2
      clear hq hq1 hq2
      go_wp2_with fail
      refine (impl_eat S B g _ t A2 c2 H2.out tAmp (by decide)).mono ?_
      rintro e w3 ⟨rfl, hr, b3⟩
      rw [HQ.out] at hr ⊢
      have H3 := Lib.hid (show RdI S B g w3 ⟨t.i + tAmp.size, t.L, false⟩ A2 c2 by rw [Q1.out] at hr; simpa using hr)
      have B3 := Lib.hid b3
      clear hr b3
      go_wp2_with fail
      refine (FF.out w3 _ A2 c2 H3.out rfl (S2.out Q1.out)).mono ?_
      rintro e w4 ⟨rfl, u, hu, ⟨A4, c4, h4⟩, b4⟩
      have hst := HF.out ⟨t.i + tAmp.size, t.L, false⟩ u rfl hfit (S2.out Q1.out) hu
      have HU := Lib.hid hu
      have H4 := Lib.hid h4
      have B4 := Lib.hid b4
      have ul : u.L.length ≤ N := hst.1.len
      have ui : t.i + tAmp.size ≤ u.i := hst.1.le
      have ut := hst.1.top
      clear hst hu h4 b4
      go_wp2_with fail
      refine (impl_add S B g w4 u A4 c4 H4.out (3, mt, mt) (by omega)).mono ?_
      rintro e w5 ⟨rfl, ⟨A5, c5, h5⟩, b5⟩
      have H5 := Lib.hid h5
      have B5 := Lib.hid b5
      have e5 := h5.rest
      clear h5 b5
      go_wp2_with fail
      go_roundw
      case rel => exact ⟨iAdd u (3, mt, mt), A5, c5, H5.out, B2.out.trans (B3.out.trans (B4.out.trans B5.out)), small_iAdd _ _, by show (u.L ++ _).length ≤ _; simp; omega, fun b hb => T2.out b (.more Q1.out Q2.out HU.out hb)⟩
      case measure => rw [e2, e5]; have hz : tAmp.size = 3 := rfl; show S.size - u.i < _; omega

set_option maxRecDepth 20000 in
set_option maxHeartbeats 2000000 in
theorem impl_or (S : ByteArray) (B g : Nat) (k : Int) (f : St → St → Prop) (N : Nat) (hN : 31 ≤ N) (hN2 : N ≤ 500) (hf : HfI S N f) (F : RunI S B g 95 #[.pointer (some ⟨g, 0, none⟩), .int .i64 k] f) :
    RunI S B g 70 #[.pointer (some ⟨g, 0, none⟩), .int .i64 k] (BarR S f) := by
  intro w s A c h h0 hl
  have H := Lib.hid h
  have hle := h.le
  have FF := Lib.hid F
  have HF := Lib.hid hf
  have Z := Lib.hid h0
  clear F hf h h0
  go_enter Try.func70, Try.ntmps70
  go_wp2_with fail
  refine (FF.out w s A c H.out Z.out hl).mono ?_
  rintro e w1 ⟨rfl, a, ha, ⟨A1, c1, h1⟩, b1⟩
  have hst := HF.out s a Z.out hle hl ha
  have HA := Lib.hid ha
  have H1 := Lib.hid h1
  have B1 := Lib.hid b1
  have ST := Lib.hid hst
  clear ha h1 b1 hst
  go_wp2_with fail
  go_loopw [] (fun wr => ∃ (t : St) (A : Option Addr) (c : Nat), RdI S B g wr t A c ∧ Below B w wr ∧ Small t ∧ t.L.length ≤ N + 1 ∧ (∀ b, Tail S tBar (4, mt, mt) iAdd f t b → Tail S tBar (4, mt, mt) iAdd f a b)) (fun wr => restOf wr g)
  case atStart => exact ⟨a, A1, c1, H1.out, B1.out, ST.out.2, by have := ST.out.1.len; omega, fun b h => h⟩
  case round =>
    obtain ⟨t, A2, c2, h2, b2, s2, l2, t2⟩ := hrel
    have H2 := Lib.hid h2
    have B2 := Lib.hid b2
    have S2 := Lib.hid s2
    have T2 := Lib.hid t2
    have e2 := h2.rest
    have le2 := h2.le
    clear h2 b2 s2 t2
    cases hq : (!t.bad && isAt S t.i tBar)
    · have HQ := Lib.hid hq
      clear hq
      go_wp2_with fail
      refine (impl_eat S B g _ t A2 c2 H2.out tBar (by decide)).mono ?_
      rintro e w3 ⟨rfl, hr, b3⟩
      rw [HQ.out] at hr ⊢
      have H3 := Lib.hid (show RdI S B g w3 t A2 c2 by simpa using hr)
      have B3 := Lib.hid b3
      clear hr b3
      go_wp2_with fail
      go_end0
      refine ⟨rfl, t, ⟨a, HA.out, T2.out t (.stop (by have := HQ.out; simp at this; cases e : t.bad <;> simp_all))⟩, ⟨A2, c2, H3.out⟩, B2.out.trans B3.out⟩
    · have hq1 : t.bad = false := by simp at hq; exact hq.1
      have hq2 : isAt S t.i tBar = true := by simp at hq; exact hq.2
      have HQ := Lib.hid hq
      have Q1 := Lib.hid hq1
      have Q2 := Lib.hid hq2
      have hfit := isAt_le hq2
      clear hq hq1 hq2
      go_wp2_with fail
      refine (impl_eat S B g _ t A2 c2 H2.out tBar (by decide)).mono ?_
      rintro e w3 ⟨rfl, hr, b3⟩
      rw [HQ.out] at hr ⊢
      have H3 := Lib.hid (show RdI S B g w3 ⟨t.i + tBar.size, t.L, false⟩ A2 c2 by rw [Q1.out] at hr; simpa using hr)
      have B3 := Lib.hid b3
      clear hr b3
      go_wp2_with fail
      refine (FF.out w3 _ A2 c2 H3.out rfl (S2.out Q1.out)).mono ?_
      rintro e w4 ⟨rfl, u, hu, ⟨A4, c4, h4⟩, b4⟩
      have hst := HF.out ⟨t.i + tBar.size, t.L, false⟩ u rfl hfit (S2.out Q1.out) hu
      have HU := Lib.hid hu
      have H4 := Lib.hid h4
      have B4 := Lib.hid b4
      have ul : u.L.length ≤ N := hst.1.len
      have ui : t.i + tBar.size ≤ u.i := hst.1.le
      have ut := hst.1.top
      clear hst hu h4 b4
      go_wp2_with fail
      refine (impl_add S B g w4 u A4 c4 H4.out (4, mt, mt) (by omega)).mono ?_
      rintro e w5 ⟨rfl, ⟨A5, c5, h5⟩, b5⟩
      have H5 := Lib.hid h5
      have B5 := Lib.hid b5
      have e5 := h5.rest
      clear h5 b5
      go_wp2_with fail
      go_roundw
      case rel => exact ⟨iAdd u (4, mt, mt), A5, c5, H5.out, B2.out.trans (B3.out.trans (B4.out.trans B5.out)), small_iAdd _ _, by show (u.L ++ _).length ≤ _; simp; omega, fun b hb => T2.out b (.more Q1.out Q2.out HU.out hb)⟩
      case measure => rw [e2, e5]; have hz : tBar.size = 3 := rfl; show S.size - u.i < _; omega

theorem HfI.and {S : ByteArray} {N : Nat} {f : St → St → Prop} (hN : 31 ≤ N) (h : HfI S N f) : HfI S (N + 1) (AndR S iAdd f) := fun s a h0 h1 h2 ha => iAnd_step hN h ha h0 h1 h2
theorem tTrue_code : isC tTrue = true := by decide
theorem tTrue_list : tTrue.toList = [84, 82, 85, 69] := by rw [ByteArray.toList_eq]; rfl
set_option maxRecDepth 20000 in
set_option maxHeartbeats 4000000 in
theorem impl_not (S : ByteArray) (B g : Nat) (d : Nat) : ∀ (k : Int), k = 31 - (d : Int) → d ≤ 31 → RunI S B g 104 #[.pointer (some ⟨g, 0, none⟩), .int .i64 k] (iNot S d) := by
  induction d with
  | zero =>
    intro k hk hd w s A c h h0 hl
    obtain rfl : k = 31 := by omega
    have H := Lib.hid h
    have k2 := h.c2
    have z2 := h.fr 2
    have hlt := h.lt
    have hbase := h.base
    rw [h0] at k2
    clear h hk
    go_enter Try.func104, Try.ntmps104
    go_wp2_with fail
    go_end0
    exact ⟨rfl, _, rfl, ⟨A, c, H.out.set2 true⟩, below_set (Below.refl _ _) hbase _ _⟩
  | succ d ih =>
    intro k hk hd
    have hk1 : ¬ 30 < k := by omega
    have hk2 : 0 ≤ k ∧ k ≤ 30 := by omega
    have u1 : IntKind.i64.wrap (k + 1) = k + 1 := IntWalk.i64_in _ ⟨by omega, by omega⟩
    have NN := Lib.hid (ih (k + 1) (by omega) (by omega))
    have hN : HfI S (31 + 3 * d) (iNot S d) := iNot_step S d
    have AN := Lib.hid (impl_and S B g (k + 1) (iNot S d) (31 + 3 * d) (by omega) (by omega) hN NN.out)
    have OR := Lib.hid (impl_or S B g (k + 1) (AndR S iAdd (iNot S d)) (31 + 3 * d + 1) (by omega) (by omega) (hN.and (by omega)) AN.out)
    have HN := Lib.hid hN
    clear ih hk hN AN
    intro w s A c h h0 hl
    have H := Lib.hid h
    have k2 := h.c2
    have hlt := h.lt
    have hbase := h.base
    have hle := h.le
    have hmx := h.max
    rw [h0] at k2
    have Z := Lib.hid h0
    clear h h0
    cases q1 : isAt S s.i tNot
    case true =>
      have Q1 := Lib.hid q1
      have hfit := isAt_le q1
      clear q1
      go_enter Try.func104, Try.ntmps104
      go_wp2_with fail
      refine (impl_eat S B g _ s A c H.out tNot (by decide)).mono ?_
      rintro e w3 ⟨rfl, hr, b3⟩
      rw [Z.out, Q1.out] at hr ⊢
      have H3 := Lib.hid (show RdI S B g w3 ⟨s.i + 1, s.L, false⟩ A c from (show RdI S B g w3 ⟨s.i + tNot.size, s.L, false⟩ A c by simpa using hr))
      have B3 := Lib.hid b3
      clear hr b3
      go_wp2_with fail
      refine (NN.out w3 _ A c H3.out rfl hl).mono ?_
      rintro e w4 ⟨rfl, u, hu, ⟨A4, c4, h4⟩, b4⟩
      have hst := HN.out ⟨s.i + 1, s.L, false⟩ u rfl hfit hl hu
      have HU := Lib.hid hu
      have H4 := Lib.hid h4
      have B4 := Lib.hid b4
      have ul := hst.1.len
      clear hst hu h4 b4
      go_wp2_with fail
      refine (impl_add S B g w4 u A4 c4 H4.out (2, mt, mt) (by omega)).mono ?_
      rintro e w5 ⟨rfl, ⟨A5, c5, h5⟩, b5⟩
      have H5 := Lib.hid h5
      have B5 := Lib.hid b5
      clear h5 b5
      go_wp2_with fail
      go_end0
      exact ⟨rfl, _, .inl ⟨Q1.out, u, HU.out, rfl⟩, ⟨A5, c5, H5.out⟩, B3.out.trans (B4.out.trans B5.out)⟩
    cases q2 : isAt S s.i tOpen
    case true =>
      have Q1 := Lib.hid q1
      have Q2 := Lib.hid q2
      have hfit := isAt_le q2
      clear q1 q2
      go_enter Try.func104, Try.ntmps104
      go_wp2_with fail
      refine (impl_eat S B g _ s A c H.out tNot (by decide)).mono ?_
      rintro e w2 ⟨rfl, hr, b2⟩
      rw [Z.out, Q1.out] at hr ⊢
      have H2 := Lib.hid (show RdI S B g w2 s A c by simpa using hr)
      have B2 := Lib.hid b2
      clear hr b2
      go_wp2_with fail
      refine (impl_eat S B g _ s A c H2.out tOpen (by decide)).mono ?_
      rintro e w3 ⟨rfl, hr, b3⟩
      rw [Z.out, Q2.out] at hr ⊢
      have H3 := Lib.hid (show RdI S B g w3 ⟨s.i + 1, s.L, false⟩ A c from (show RdI S B g w3 ⟨s.i + tOpen.size, s.L, false⟩ A c by simpa using hr))
      have B3 := Lib.hid (B2.out.trans b3)
      clear hr b3
      go_wp2_with fail
      refine (OR.out w3 _ A c H3.out rfl hl).mono ?_
      rintro e w4 ⟨rfl, u, hu, ⟨A4, c4, h4⟩, b4⟩
      have HU := Lib.hid (barR_or.1 hu)
      have H4 := Lib.hid h4
      have B4 := Lib.hid (B3.out.trans b4)
      clear hu h4 b4
      cases q3 : (!u.bad && isAt S u.i tShut)
      · have Q3 := Lib.hid q3
        clear q3
        go_wp2_with fail
        refine (impl_eat S B g _ u A4 c4 H4.out tShut (by decide)).mono ?_
        rintro e w5 ⟨rfl, hr, b5⟩
        rw [Q3.out] at hr ⊢
        have h5 : RdI S B g w5 u A4 c4 := by simpa using hr
        have H5 := Lib.hid h5
        have B5 := Lib.hid (B4.out.trans b5)
        have k5 := h5.c2
        have z5 := h5.fr 2
        have l5 := h5.lt
        clear hr b5 h5
        go_wp2_with fail
        go_end0
        exact ⟨rfl, _, .inr (.inl ⟨Q1.out, Q2.out, u, HU.out, .inr ⟨by have := Q3.out; simp at this; cases e : u.bad <;> simp_all, rfl⟩⟩), ⟨A4, c4, H5.out.set2 true⟩, below_set B5.out hbase _ _⟩
      · have q4 : u.bad = false := by simp at q3; exact q3.1
        have q5 : isAt S u.i tShut = true := by simp at q3; exact q3.2
        have Q3 := Lib.hid q3
        have Q4 := Lib.hid q4
        have Q5 := Lib.hid q5
        clear q3 q4 q5
        go_wp2_with fail
        refine (impl_eat S B g _ u A4 c4 H4.out tShut (by decide)).mono ?_
        rintro e w5 ⟨rfl, hr, b5⟩
        rw [Q3.out] at hr ⊢
        have H5 := Lib.hid (show RdI S B g w5 ⟨u.i + 1, u.L, false⟩ A4 c4 from (show RdI S B g w5 ⟨u.i + tShut.size, u.L, false⟩ A4 c4 by rw [Q4.out] at hr; simpa using hr))
        have B5 := Lib.hid (B4.out.trans b5)
        clear hr b5
        go_wp2_with fail
        go_end0
        exact ⟨rfl, _, .inr (.inl ⟨Q1.out, Q2.out, u, HU.out, .inl ⟨Q4.out, Q5.out, rfl⟩⟩), ⟨A4, c4, H5.out⟩, B5.out⟩
    case false =>
      have Q1 := Lib.hid q1
      have Q2 := Lib.hid q2
      clear q1 q2
      go_enter Try.func104, Try.ntmps104
      go_wp2_with fail
      refine (impl_eat S B g _ s A c H.out tNot (by decide)).mono ?_
      rintro e w2 ⟨rfl, hr, b2⟩
      rw [Z.out, Q1.out] at hr ⊢
      have H2 := Lib.hid (show RdI S B g w2 s A c by simpa using hr)
      have B2 := Lib.hid b2
      clear hr b2
      go_wp2_with fail
      refine (impl_eat S B g _ s A c H2.out tOpen (by decide)).mono ?_
      rintro e w3 ⟨rfl, hr, b3⟩
      rw [Z.out, Q2.out] at hr ⊢
      have H3 := Lib.hid (show RdI S B g w3 s A c by simpa using hr)
      have B3 := Lib.hid (B2.out.trans b3)
      clear hr b3
      go_wp2_with fail
      refine (impl_code S B g _ s A c H3.out).mono ?_
      rintro e w4 ⟨j, hj, rfl, h4, b4⟩
      rw [Z.out, Bool.false_or] at h4
      have HJ := Lib.hid hj
      have B4 := Lib.hid (B3.out.trans b4)
      obtain ⟨C, hC⟩ : ∃ C, C = S.extract s.i j := ⟨_, rfl⟩
      rw [← hC] at h4 ⊢
      have HC := Lib.hid hC
      clear hj hC b4
      cases q3 : isC C
      · have Q3 := Lib.hid q3
        have hne : ¬ C = tTrue := fun e => by rw [e, tTrue_code] at q3; cases q3
        have hx : (C.toList == [84, 82, 85, 69]) = false := by rw [← tTrue_list]; exact txt_other hne
        rw [q3] at h4
        have H4 := Lib.hid (show RdI S B g w4 ⟨j, s.L, true⟩ A c from h4)
        clear q3 hne h4
        go_wp2_with fail
        refine (impl_eat S B g _ _ A c H4.out tEq (by decide)).mono ?_
        rintro e w5 ⟨rfl, hr, b5⟩
        have h5 : RdI S B g w5 ⟨j, s.L, true⟩ A c := by simpa using hr
        have H5 := Lib.hid h5
        have B5 := Lib.hid (B4.out.trans b5)
        have k5 : w5.cell? ⟨g, 2, none⟩ = some (.bool true) := h5.c2
        have z5 := h5.fr 2
        have l5 := h5.lt
        clear hr b5 h5
        go_wp2_with fail
        go_end0
        exact ⟨rfl, _, .inr (.inr ⟨Q1.out, Q2.out, j, HJ.out, .inl ⟨by rw [← HC.out]; exact Q3.out, rfl⟩⟩), ⟨A, c, H5.out.set2 true⟩, below_set B5.out hbase _ _⟩
      · have Q3 := Lib.hid q3
        rw [q3] at h4
        have H4 := Lib.hid (show RdI S B g w4 ⟨j, s.L, false⟩ A c from h4)
        clear q3 h4
        cases q4 : isAt S j tEq
        · have Q4 := Lib.hid q4
          clear q4
          by_cases he : C = tTrue
          · have hx : (C.toList == [84, 82, 85, 69]) = true := by rw [← tTrue_list, he]; simp
            have HE := Lib.hid he
            clear he
            go_wp2_with fail
            refine (impl_eat S B g _ _ A c H4.out tEq (by decide)).mono ?_
            rintro e w5 ⟨rfl, hr, b5⟩
            dsimp only at hr ⊢
            rw [Q4.out] at hr ⊢
            have H5 := Lib.hid (show RdI S B g w5 ⟨j, s.L, false⟩ A c by simpa using hr)
            have B5 := Lib.hid (B4.out.trans b5)
            clear hr b5
            go_wp2_with fail
            refine (impl_add S B g w5 _ A c H5.out (0, mt, mt) (by show s.L.length ≤ _; omega)).mono ?_
            rintro e w6 ⟨rfl, ⟨A6, c6, h6⟩, b6⟩
            have H6 := Lib.hid h6
            have B6 := Lib.hid (B5.out.trans b6)
            clear h6 b6
            go_wp2_with fail
            go_end0
            exact ⟨rfl, _, .inr (.inr ⟨Q1.out, Q2.out, j, HJ.out, .inr (.inr (.inl ⟨by rw [← HC.out]; exact Q3.out, Q4.out, by rw [← HC.out]; exact HE.out, rfl⟩))⟩), ⟨A6, c6, H6.out⟩, B6.out⟩
          · have hx : (C.toList == [84, 82, 85, 69]) = false := by rw [← tTrue_list]; exact txt_other he
            have HE := Lib.hid he
            clear he
            go_wp2_with fail
            refine (impl_eat S B g _ _ A c H4.out tEq (by decide)).mono ?_
            rintro e w5 ⟨rfl, hr, b5⟩
            dsimp only at hr ⊢
            rw [Q4.out] at hr ⊢
            have h5 : RdI S B g w5 ⟨j, s.L, false⟩ A c := by simpa using hr
            have H5 := Lib.hid h5
            have B5 := Lib.hid (B4.out.trans b5)
            have k5 : w5.cell? ⟨g, 2, none⟩ = some (.bool false) := h5.c2
            have z5 := h5.fr 2
            have l5 := h5.lt
            clear hr b5 h5
            go_wp2_with fail
            go_end0
            exact ⟨rfl, _, .inr (.inr ⟨Q1.out, Q2.out, j, HJ.out, .inr (.inr (.inr ⟨by rw [← HC.out]; exact Q3.out, Q4.out, by rw [← HC.out]; exact HE.out, rfl⟩))⟩), ⟨A, c, H5.out.set2 true⟩, below_set B5.out hbase _ _⟩
        · have Q4 := Lib.hid q4
          clear q4
          go_wp2_with fail
          refine (impl_eat S B g _ _ A c H4.out tEq (by decide)).mono ?_
          rintro e w5 ⟨rfl, hr, b5⟩
          dsimp only at hr ⊢
          rw [Q4.out] at hr ⊢
          have H5 := Lib.hid (show RdI S B g w5 ⟨j + 1, s.L, false⟩ A c from (show RdI S B g w5 ⟨j + tEq.size, s.L, false⟩ A c by simpa using hr))
          have B5 := Lib.hid (B4.out.trans b5)
          clear hr b5
          go_wp2_with fail
          refine (impl_code S B g _ _ A c H5.out).mono ?_
          rintro e w6 ⟨m, hm, rfl, h6, b6⟩
          have H6 := Lib.hid (show RdI S B g w6 ⟨m, s.L, !isC (S.extract (j + 1) m)⟩ A c by simpa using h6)
          have HM := Lib.hid hm
          have B6 := Lib.hid (B5.out.trans b6)
          clear hm h6 b6
          go_wp2_with fail
          refine (impl_add S B g w6 _ A c H6.out (1, C, S.extract (j + 1) m) (by show s.L.length ≤ _; omega)).mono ?_
          rintro e w7 ⟨rfl, ⟨A7, c7, h7⟩, b7⟩
          have H7 := Lib.hid h7
          have B7 := Lib.hid (B6.out.trans b7)
          clear h7 b7
          go_wp2_with fail
          go_end0
          exact ⟨rfl, _, .inr (.inr ⟨Q1.out, Q2.out, j, HJ.out, .inr (.inl ⟨by rw [← HC.out]; exact Q3.out, Q4.out, m, HM.out, by rw [← HC.out]⟩)⟩), ⟨A7, c7, H7.out⟩, B7.out⟩
end Go.Proofs.Ytkkhaamklbolmaa
