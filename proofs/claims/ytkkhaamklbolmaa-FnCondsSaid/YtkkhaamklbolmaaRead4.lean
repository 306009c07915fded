/-
  The reference's reader of conditions: contracts of l6And, l6Or, l6Simple. (Printed by gen/read4.py.)
-/
import Derived.Test.YtkkhaamklbolmaaRead3
import Derived.Test.YtkkhaamklbolmaaRead2
namespace Go.Proofs.Ytkkhaamklbolmaa
open Go.RowKit Go.Sort
set_option linter.unusedVariables false
set_option linter.unusedSimpArgs false

/-- what a part of the reference's reader does from state s -/
def RunS (S : ByteArray) (B g : Nat) (F : FuncId) (k : Int) (f : St → St → Prop) : Prop :=
  ∀ (w : World) (s : St) (A : Option Addr) (c : Nat), RdS S B g w s k A c → s.bad = false → s.L.length ≤ 600 →
    Calls Try.prog F #[.pointer (some ⟨g, 0, none⟩)] w fun e w' => e = .returned (.tuple #[]) ∧ ∃ b, f s b ∧ RsE S B g w w' b k
def HfS (S : ByteArray) (N : Nat) (f : St → St → Prop) : Prop := ∀ s a, s.bad = false → s.i ≤ S.size → f s a → (s.L.length ≤ 30 → Step S N s a) ∧ (30 < s.L.length → a = ⟨s.i, s.L, true⟩)
/-- parts with bars between them, each as f says -/
def BarS (S : ByteArray) (f : St → St → Prop) (s b : St) : Prop := ∃ a, f s a ∧ Tail S tBar (4, mt, mt) sAdd f a b
theorem barS_or {S : ByteArray} {f : St → St → Prop} {s b : St} : BarS S (AndR S sAdd f) s b ↔ OrR S sAdd f s b := Iff.rfl
theorem HfS.and {S : ByteArray} {N : Nat} {f : St → St → Prop} (hN : 31 ≤ N) (h : HfS S N f) : HfS S (N + 2) (AndR S sAdd f) := fun s a h0 h1 ha => sAnd_step hN h ha h0 h1
theorem HfS.len {S : ByteArray} {N M : Nat} {f : St → St → Prop} (h : HfS S N f) {s a : St} (h0 : s.bad = false) (h1 : s.i ≤ S.size) (ha : f s a) (hs : s.L.length ≤ M) (hm : N ≤ M) : a.L.length ≤ M ∧ s.i ≤ a.i ∧ a.i ≤ S.size ∧ (a.bad = false → a.L.length ≤ N) := by
  obtain ⟨g1, g2⟩ := h s a h0 h1 ha
  by_cases e : s.L.length ≤ 30
  · have := g1 e; exact ⟨by have := this.len; omega, this.le, this.top, fun _ => this.len⟩
  · have := g2 (by omega); subst this; exact ⟨hs, Nat.le_refl _, h1, fun h => by cases h⟩

set_option maxRecDepth 20000 in
set_option maxHeartbeats 4000000 in
theorem spec_l6And (S : ByteArray) (B g : Nat) (k : Int) (f : St → St → Prop) (N : Nat) (hN : 31 ≤ N) (hN2 : N ≤ 500) (hf : HfS S N f) (F : RunS S B g 103 k f) :
    RunS S B g 93 k (AndR S sAdd f) := by
  obtain ⟨i0, hi0, hz0, hs0, hb0⟩ := info_parts condNode_info
  intro w s A c h h0 hl
  have H := Lib.hid h
  have hle := h.le
  have hbase := h.base
  have FF := Lib.hid F
  have HF := Lib.hid hf
  have Z := Lib.hid h0
  clear F hf h h0
  go_enter Try.func93, Try.ntmps93
  go_wp2_with fail
  refine (FF.out w s A c H.out Z.out hl).mono ?_
  rintro e w1 ⟨rfl, a, ha, ⟨A1, c1, h1⟩, b1⟩
  have hst := HF.out.len (M := 600) Z.out hle ha hl (by omega)
  have HA := Lib.hid ha
  have H1 := Lib.hid h1
  have B1 := Lib.hid b1
  have ST := Lib.hid hst
  clear ha h1 b1 hst
  go_wp2_with fail
  go_loopw [] (fun wr => ∃ (t : St) (A : Option Addr) (c : Nat), RdS S B g wr t k A c ∧ Below B w wr ∧ (t.bad = false → t.L.length ≤ N + 1) ∧ t.L.length ≤ 600 ∧ (∀ b, Tail S tAmp (3, mt, mt) sAdd f t b → Tail S tAmp (3, mt, mt) sAdd f a b)) (fun wr => S.size - posOf wr g)
  case atStart => exact ⟨a, A1, c1, H1.out, B1.out, fun e => by have := ST.out.2.2.2 e; omega, ST.out.1, fun b h => h⟩
  case round =>
    obtain ⟨t, A2, c2, h2, b2, s2, l2, t2⟩ := hrel
    have H2 := Lib.hid h2
    have B2 := Lib.hid b2
    have S2 := Lib.hid s2
    have T2 := Lib.hid t2
    have e2 := h2.pos
    have le2 := h2.le
    have k2 := h2.c3
    have lt2 := h2.lt
    clear h2 b2 s2 t2
    by_cases hq1 : t.bad = true
    · rw [hq1] at k2
      have Q1 := Lib.hid hq1
      clear hq1
      go_wp2_with fail
      go_end0
      exact ⟨rfl, t, ⟨a, HA.out, T2.out t (.stop (.inl Q1.out))⟩, ⟨A2, c2, H2.out⟩, B2.out⟩
    have hq1 : t.bad = false := by simpa using hq1
    rw [hq1] at k2
    have Q1 := Lib.hid hq1
    clear hq1
    cases hq : isAt S t.i tAmp
    · have HQ := Lib.hid hq
      clear hq
      go_wp2_with fail
      refine (spec_take S B g _ t k A2 c2 H2.out tAmp (by decide)).mono ?_
      rintro e w3 ⟨rfl, hr, b3, _⟩
      rw [HQ.out] at hr ⊢
      have H3 := Lib.hid (show RdS S B g w3 t k A2 c2 by simpa using hr)
      have B3 := Lib.hid b3
      clear hr b3
      go_wp2_with fail
      go_end0
      exact ⟨rfl, t, ⟨a, HA.out, T2.out t (.stop (.inr HQ.out))⟩, ⟨A2, c2, H3.out⟩, B2.out.trans B3.out⟩
    · have HQ := Lib.hid hq
      have hfit := isAt_le hq
      clear hq
      go_wp2_with fail
      refine (spec_take S B g _ t k A2 c2 H2.out tAmp (by decide)).mono ?_
      rintro e w3 ⟨rfl, hr, b3, _⟩
      rw [HQ.out] at hr ⊢
      have H3 := Lib.hid (show RdS S B g w3 ⟨t.i + tAmp.size, t.L, false⟩ k A2 c2 by rw [Q1.out] at hr; simpa using hr)
      have B3 := Lib.hid b3
      clear hr b3
      have tl := S2.out Q1.out
      go_wp2_with fail
      refine (FF.out w3 _ A2 c2 H3.out rfl l2).mono ?_
      rintro e w4 ⟨rfl, u, hu, ⟨A4, c4, h4⟩, b4⟩
      have hst := HF.out.len (s := ⟨t.i + tAmp.size, t.L, false⟩) (M := N + 1) rfl hfit hu tl (by omega)
      have HU := Lib.hid hu
      have H4 := Lib.hid h4
      have B4 := Lib.hid (B2.out.trans (B3.out.trans b4))
      have k4 := h4.c2
      have z4 := h4.fr 2
      have lt4 := h4.lt
      have ul : u.L.length ≤ N + 1 := hst.1
      have ui : t.i + tAmp.size ≤ u.i := hst.2.1
      have ut := hst.2.2.1
      have ub := hst.2.2.2
      have uv := h4.own
      have VO7 := Lib.hid uv
      clear hst hu h4 b4 uv k2 lt2
      go_wp2_with (at_builtin; refine appS w4 rfl _ _ 25 rfl (B := B) (i := i0) (z := .agg #[.int .i64 0, .string ByteArray.empty, .string ByteArray.empty]) (s := 3) (bytes := 40) (F := ndC (u.L ++ [(3, mt, mt)])) (v := .slice A4 u.L.length c4) (n := u.L.length) (xs := #[.int .i64 3, .string mt, .string mt]) Try.underlying25 hi0 hz0 hs0 hb0 rfl (by decide) rfl ((H4.out.own).congr (fun a b ha hb => ndC_app u.L [(3, mt, mt)] ha)) (by omega) rfl (fun q hq => by rw [ndC_last]; rcases (by omega : q = 0 ∨ q = 1 ∨ q = 2) with rfl | rfl | rfl <;> rfl) (fun q hq => ndC_one _ _ _) (by omega) (by decide) ?_)
      intro v7 w7 hv7 hg7 hb7
      obtain ⟨A7, p7, rfl, _, _⟩ := hv7.slice
      have EL7 : (u.L ++ [(3, mt, mt)]).length = u.L.length + 1 := by simp
      have V7 := Lib.hid hv7
      have R7 := Lib.hid ((H4.out.row).own hg7 (H4.out.ne))
      have N7 := Lib.hid (show (Value.slice A7 (u.L.length + 1) p7).ownBlock ≠ some g from fun e => by (rcases hb7 with k1 | ⟨k2, k3, k4⟩; exact (H4.out.ne) (by rw [← k1]; exact e); rw [k3] at e; injection e with e; omega))
      have B7 := Lib.hid (below_own (B := B) (B4.out) hg7 (fun r hr => (VO7.out.lt hr).1) (by omega))
      have z7 := R7.out.frozen 2
      have k7 : w7.cell? ⟨g, 2, none⟩ = some (.slice A4 u.L.length c4) := R7.out.cell (i := 2) (by omega)
      have l7 := R7.out.lt
      clear hv7 hg7 hb7
      go_wp2_with fail
      have h8 := RdS.put (L := u.L ++ [(3, mt, mt)]) (A' := A7) (c' := p7) hbase R7.out ut H4.out.max (by rw [EL7]; exact V7.out) (by rw [EL7]; exact N7.out)
      rw [EL7] at h8
      have e8 := h8.pos
      go_roundw
      case rel => exact ⟨sAdd u (3, mt, mt), A7, p7, by rw [show (sAdd u (3, mt, mt)) = ⟨u.i, u.L ++ [(3, mt, mt)], u.bad⟩ from rfl]; exact h8, below_set B7.out hbase _ _, fun e => by have := ub e; show (u.L ++ _).length ≤ _; simp; omega, by show (u.L ++ _).length ≤ _; simp; omega, fun b hb => T2.out b (.more Q1.out HQ.out HU.out hb)⟩
      case measure => rw [e2, e8]; have hz : tAmp.size = 3 := rfl; show S.size - u.i < _; omega

set_option maxRecDepth 20000 in
set_option maxHeartbeats 4000000 in
theorem spec_l6Or (S : ByteArray) (B g : Nat) (k : Int) (f : St → St → Prop) (N : Nat) (hN : 31 ≤ N) (hN2 : N ≤ 500) (hf : HfS S N f) (F : RunS S B g 93 k f) :
    RunS S B g 69 k (BarS S f) := by
  obtain ⟨i0, hi0, hz0, hs0, hb0⟩ := info_parts condNode_info
  intro w s A c h h0 hl
  have H := Lib.hid h
  have hle := h.le
  have hbase := h.base
  have FF := Lib.hid F
  have HF := Lib.hid hf
  have Z := Lib.hid h0
  clear F hf h h0
  go_enter Try.func69, Try.ntmps69
  go_wp2_with fail
  refine (FF.out w s A c H.out Z.out hl).mono ?_
  rintro e w1 ⟨rfl, a, ha, ⟨A1, c1, h1⟩, b1⟩
  have hst := HF.out.len (M := 600) Z.out hle ha hl (by omega)
  have HA := Lib.hid ha
  have H1 := Lib.hid h1
  have B1 := Lib.hid b1
  have ST := Lib.hid hst
  clear ha h1 b1 hst
  go_wp2_with fail
  go_loopw [] (fun wr => ∃ (t : St) (A : Option Addr) (c : Nat), RdS S B g wr t k A c ∧ Below B w wr ∧ (t.bad = false → t.L.length ≤ N + 1) ∧ t.L.length ≤ 600 ∧ (∀ b, Tail S tBar (4, mt, mt) sAdd f t b → Tail S tBar (4, mt, mt) sAdd f a b)) (fun wr => S.size - posOf wr g)
  case atStart => exact ⟨a, A1, c1, H1.out, B1.out, fun e => by have := ST.out.2.2.2 e; omega, ST.out.1, fun b h => h⟩
  case round =>
    obtain ⟨t, A2, c2, h2, b2, s2, l2, t2⟩ := hrel
    have H2 := Lib.hid h2
    have B2 := Lib.hid b2
    have S2 := Lib.hid s2
    have T2 := Lib.hid t2
    have e2 := h2.pos
    have le2 := h2.le
    have k2 := h2.c3
    have lt2 := h2.lt
    clear h2 b2 s2 t2
    by_cases hq1 : t.bad = true
    · rw [hq1] at k2
      have Q1 := Lib.hid hq1
      clear hq1
      go_wp2_with fail
      go_end0
      exact ⟨rfl, t, ⟨a, HA.out, T2.out t (.stop (.inl Q1.out))⟩, ⟨A2, c2, H2.out⟩, B2.out⟩
    have hq1 : t.bad = false := by simpa using hq1
    rw [hq1] at k2
    have Q1 := Lib.hid hq1
    clear hq1
    cases hq : isAt S t.i tBar
    · have HQ := Lib.hid hq
      clear hq
      go_wp2_with fail
      refine (spec_take S B g _ t k A2 c2 H2.out tBar (by decide)).mono ?_
      rintro e w3 ⟨rfl, hr, b3, _⟩
      rw [HQ.out] at hr ⊢
      have H3 := Lib.hid (show RdS S B g w3 t k A2 c2 by simpa using hr)
      have B3 := Lib.hid b3
      clear hr b3
      go_wp2_with fail
      go_end0
      exact ⟨rfl, t, ⟨a, HA.out, T2.out t (.stop (.inr HQ.out))⟩, ⟨A2, c2, H3.out⟩, B2.out.trans B3.out⟩
    · have HQ := Lib.hid hq
      have hfit := isAt_le hq
      clear hq
      go_wp2_with fail
      refine (spec_take S B g _ t k A2 c2 H2.out tBar (by decide)).mono ?_
      rintro e w3 ⟨rfl, hr, b3, _⟩
      rw [HQ.out] at hr ⊢
      have H3 := Lib.hid (show RdS S B g w3 ⟨t.i + tBar.size, t.L, false⟩ k A2 c2 by rw [Q1.out] at hr; simpa using hr)
      have B3 := Lib.hid b3
      clear hr b3
      have tl := S2.out Q1.out
      go_wp2_with fail
      refine (FF.out w3 _ A2 c2 H3.out rfl l2).mono ?_
      rintro e w4 ⟨rfl, u, hu, ⟨A4, c4, h4⟩, b4⟩
      have hst := HF.out.len (s := ⟨t.i + tBar.size, t.L, false⟩) (M := N + 1) rfl hfit hu tl (by omega)
      have HU := Lib.hid hu
      have H4 := Lib.hid h4
      have B4 := Lib.hid (B2.out.trans (B3.out.trans b4))
      have k4 := h4.c2
      have z4 := h4.fr 2
      have lt4 := h4.lt
      have ul : u.L.length ≤ N + 1 := hst.1
      have ui : t.i + tBar.size ≤ u.i := hst.2.1
      have ut := hst.2.2.1
      have ub := hst.2.2.2
      have uv := h4.own
      have VO7 := Lib.hid uv
      clear hst hu h4 b4 uv k2 lt2
      go_wp2_with (at_builtin; refine appS w4 rfl _ _ 25 rfl (B := B) (i := i0) (z := .agg #[.int .i64 0, .string ByteArray.empty, .string ByteArray.empty]) (s := 3) (bytes := 40) (F := ndC (u.L ++ [(4, mt, mt)])) (v := .slice A4 u.L.length c4) (n := u.L.length) (xs := #[.int .i64 4, .string mt, .string mt]) Try.underlying25 hi0 hz0 hs0 hb0 rfl (by decide) rfl ((H4.out.own).congr (fun a b ha hb => ndC_app u.L [(4, mt, mt)] ha)) (by omega) rfl (fun q hq => by rw [ndC_last]; rcases (by omega : q = 0 ∨ q = 1 ∨ q = 2) with rfl | rfl | rfl <;> rfl) (fun q hq => ndC_one _ _ _) (by omega) (by decide) ?_)
      intro v7 w7 hv7 hg7 hb7
      obtain ⟨A7, p7, rfl, _, _⟩ := hv7.slice
      have EL7 : (u.L ++ [(4, mt, mt)]).length = u.L.length + 1 := by simp
      have V7 := Lib.hid hv7
      have R7 := Lib.hid ((H4.out.row).own hg7 (H4.out.ne))
      have N7 := Lib.hid (show (Value.slice A7 (u.L.length + 1) p7).ownBlock ≠ some g from fun e => by (rcases hb7 with k1 | ⟨k2, k3, k4⟩; exact (H4.out.ne) (by rw [← k1]; exact e); rw [k3] at e; injection e with e; omega))
      have B7 := Lib.hid (below_own (B := B) (B4.out) hg7 (fun r hr => (VO7.out.lt hr).1) (by omega))
      have z7 := R7.out.frozen 2
      have k7 : w7.cell? ⟨g, 2, none⟩ = some (.slice A4 u.L.length c4) := R7.out.cell (i := 2) (by omega)
      have l7 := R7.out.lt
      clear hv7 hg7 hb7
      go_wp2_with fail
      have h8 := RdS.put (L := u.L ++ [(4, mt, mt)]) (A' := A7) (c' := p7) hbase R7.out ut H4.out.max (by rw [EL7]; exact V7.out) (by rw [EL7]; exact N7.out)
      rw [EL7] at h8
      have e8 := h8.pos
      go_roundw
      case rel => exact ⟨sAdd u (4, mt, mt), A7, p7, by rw [show (sAdd u (4, mt, mt)) = ⟨u.i, u.L ++ [(4, mt, mt)], u.bad⟩ from rfl]; exact h8, below_set B7.out hbase _ _, fun e => by have := ub e; show (u.L ++ _).length ≤ _; simp; omega, by show (u.L ++ _).length ≤ _; simp; omega, fun b hb => T2.out b (.more Q1.out HQ.out HU.out hb)⟩
      case measure => rw [e2, e8]; have hz : tBar.size = 3 := rfl; show S.size - u.i < _; omega

set_option maxRecDepth 20000 in
set_option maxHeartbeats 8000000 in
theorem spec_simple (S : ByteArray) (B g : Nat) (d : Nat) : ∀ (k : Int), k = 31 - (d : Int) → d ≤ 31 → RunS S B g 103 k (sNot S d) := by
  obtain ⟨i0, hi0, hz0, hs0, hb0⟩ := info_parts condNode_info
  induction d with
  | zero =>
    intro k hk hd w s A c h h0 hl
    obtain rfl : k = 31 := by omega
    have H := Lib.hid h
    have k2 := h.c2
    have k3 := h.c3
    have k4 := h.c4
    have z3 := h.fr 3
    have hlt := h.lt
    have hbase := h.base
    clear h hk h0
    by_cases hbig : (30 : Int) < (s.L.length : Int)
    all_goals
      go_enter Try.func103, Try.ntmps103
      go_wp2_with fail
      ((try simp only [Exit.inBlock, Exit.then]); refine bodyPost_ret (results_none rfl _ _ _) rfl ?_)
      exact ⟨rfl, _, rfl, ⟨A, c, H.out.set3 true⟩, below_set (Below.refl _ _) hbase _ _⟩
  | succ d ih =>
    intro k hk hd
    have hk1 : ¬ 30 < k := by omega
    have hk2 : 0 ≤ k ∧ k ≤ 30 := by omega
    have u1 : IntKind.i64.wrap (k + 1) = k + 1 := IntWalk.i64_in _ ⟨by omega, by omega⟩
    have u2 : IntKind.i64.wrap (k + 1 - 1) = k := by rw [show k + 1 - 1 = k from by omega]; exact IntWalk.i64_in _ ⟨by omega, by omega⟩
    have NN := Lib.hid (ih (k + 1) (by omega) (by omega))
    have hN : HfS S (31 + 5 * d) (sNot S d) := sNot_step S d
    have AN := Lib.hid (spec_l6And S B g (k + 1) (sNot S d) (31 + 5 * d) (by omega) (by omega) hN NN.out)
    have OR := Lib.hid (spec_l6Or S B g (k + 1) (AndR S sAdd (sNot S d)) (31 + 5 * d + 2) (by omega) (by omega) (hN.and (by omega)) AN.out)
    have HN := Lib.hid hN
    clear ih hk hN AN
    intro w s A c h h0 hl
    have H := Lib.hid h
    have k2 := h.c2
    have k3 := h.c3
    have k4 := h.c4
    have z3 := h.fr 3
    have z4 := h.fr 4
    have hlt := h.lt
    have hbase := h.base
    have hle := h.le
    have hmx := h.max
    rw [h0] at k3
    have Z := Lib.hid h0
    clear h h0
    by_cases hbig : (30 : Int) < (s.L.length : Int)
    · go_enter Try.func103, Try.ntmps103
      go_wp2_with fail
      ((try simp only [Exit.inBlock, Exit.then]); refine bodyPost_ret (results_none rfl _ _ _) rfl ?_)
      exact ⟨rfl, _, .inl ⟨by omega, rfl⟩, ⟨A, c, H.out.set3 true⟩, below_set (Below.refl _ _) hbase _ _⟩
    have hsm : s.L.length ≤ 30 := by omega
    have H1 := Lib.hid (H.out.set4 (k + 1))
    have B1 := Lib.hid (below_set (Below.refl B w) hbase 4 (.int .i64 (k + 1)))
    obtain ⟨w1, hw1⟩ : ∃ w1, w1 = w.setCell ⟨g, 4, none⟩ (.int .i64 (k + 1)) := ⟨_, rfl⟩
    rw [← hw1] at H1 B1
    have HW1 := Lib.hid hw1
    clear hw1
    cases q1 : isAt S s.i tOpen
    case true =>
      have Q1 := Lib.hid q1
      have hfit := isAt_le q1
      clear q1
      go_enter Try.func103, Try.ntmps103
      go_wp2_with fail
      rw [← HW1.out]
      refine (spec_take S B g _ s (k + 1) A c H1.out tOpen (by decide)).mono ?_
      rintro e w3 ⟨rfl, hr, b3, _⟩
      rw [Q1.out] at hr ⊢
      have H3 := Lib.hid (show RdS S B g w3 ⟨s.i + 1, s.L, false⟩ (k + 1) A c from (show RdS S B g w3 ⟨s.i + tOpen.size, s.L, false⟩ (k + 1) A c by rw [Z.out] at hr; simpa using hr))
      have B3 := Lib.hid (B1.out.trans b3)
      clear hr b3 k2 k3 k4 z3 z4 hlt
      go_wp2_with fail
      refine (OR.out w3 _ A c H3.out rfl hl).mono ?_
      rintro e w4 ⟨rfl, u, hu, ⟨A4, c4, h4⟩, b4⟩
      have HU := Lib.hid (barS_or.1 hu)
      have H4 := Lib.hid h4
      have B4 := Lib.hid (B3.out.trans b4)
      clear hu h4 b4
      cases q3 : isAt S u.i tShut
      · have Q3 := Lib.hid q3
        clear q3
        go_wp2_with fail
        refine (spec_take S B g _ u (k + 1) A4 c4 H4.out tShut (by decide)).mono ?_
        rintro e w5 ⟨rfl, hr, b5, _⟩
        rw [Q3.out] at hr ⊢
        have h5 : RdS S B g w5 u (k + 1) A4 c4 := by simpa using hr
        have H5 := Lib.hid h5
        have B5 := Lib.hid (B4.out.trans b5)
        have j3 := h5.c3
        have j4 := h5.c4
        have y3 := h5.fr 3
        have y4 := h5.fr 4
        have l5 := h5.lt
        clear hr b5 h5
        go_wp2_with fail
        go_end0
        exact ⟨rfl, _, .inr (.inl ⟨hsm, Q1.out, u, HU.out, .inr ⟨Q3.out, rfl⟩⟩), ⟨A4, c4, (H5.out.set3 true).set4 k⟩, below_set (below_set B5.out hbase _ _) hbase _ _⟩
      · have Q3 := Lib.hid q3
        clear q3
        go_wp2_with fail
        refine (spec_take S B g _ u (k + 1) A4 c4 H4.out tShut (by decide)).mono ?_
        rintro e w5 ⟨rfl, hr, b5, _⟩
        rw [Q3.out] at hr ⊢
        have h5 : RdS S B g w5 ⟨u.i + 1, u.L, u.bad⟩ (k + 1) A4 c4 := (show RdS S B g w5 ⟨u.i + tShut.size, u.L, u.bad⟩ (k + 1) A4 c4 by simpa using hr)
        have H5 := Lib.hid h5
        have B5 := Lib.hid (B4.out.trans b5)
        have j4 := h5.c4
        have y4 := h5.fr 4
        have l5 := h5.lt
        clear hr b5 h5
        go_wp2_with fail
        go_end0
        exact ⟨rfl, _, .inr (.inl ⟨hsm, Q1.out, u, HU.out, .inl ⟨Q3.out, rfl⟩⟩), ⟨A4, c4, H5.out.set4 k⟩, below_set B5.out hbase _ _⟩
    cases q2 : isAt S s.i tNot
    case true =>
      have Q1 := Lib.hid q1
      have Q2 := Lib.hid q2
      have hfit := isAt_le q2
      clear q1 q2
      go_enter Try.func103, Try.ntmps103
      go_wp2_with fail
      rw [← HW1.out]
      refine (spec_take S B g _ s (k + 1) A c H1.out tOpen (by decide)).mono ?_
      rintro e w2 ⟨rfl, hr, b2, _⟩
      rw [Q1.out] at hr ⊢
      have H2 := Lib.hid (show RdS S B g w2 s (k + 1) A c by simpa using hr)
      have B2 := Lib.hid (B1.out.trans b2)
      clear hr b2 k2 k3 k4 z3 z4 hlt
      go_wp2_with fail
      refine (spec_take S B g _ s (k + 1) A c H2.out tNot (by decide)).mono ?_
      rintro e w3 ⟨rfl, hr, b3, _⟩
      rw [Q2.out] at hr ⊢
      have H3 := Lib.hid (show RdS S B g w3 ⟨s.i + 1, s.L, false⟩ (k + 1) A c from (show RdS S B g w3 ⟨s.i + tNot.size, s.L, false⟩ (k + 1) A c by rw [Z.out] at hr; simpa using hr))
      have B3 := Lib.hid (B2.out.trans b3)
      clear hr b3
      go_wp2_with fail
      refine (NN.out w3 _ A c H3.out rfl hl).mono ?_
      rintro e w4 ⟨rfl, u, hu, ⟨A4, c4, h4⟩, b4⟩
      have ul := (HN.out.len (s := ⟨s.i + 1, s.L, false⟩) (M := 31 + 5 * d) rfl hfit hu (by show s.L.length ≤ _; omega) (by omega)).1
      have HU := Lib.hid hu
      have H4 := Lib.hid h4
      have B4 := Lib.hid (B3.out.trans b4)
      have k4 := h4.c2
      have z4 := h4.fr 2
      have lt4 := h4.lt
      have uv := h4.own
      have ut := h4.le
      have VO7 := Lib.hid uv
      have RR := Lib.hid h4.row
      have rk4 := h4.c4
      clear hu h4 b4 uv
      go_wp2_with (at_builtin; refine appS w4 rfl _ _ 25 rfl (B := B) (i := i0) (z := .agg #[.int .i64 0, .string ByteArray.empty, .string ByteArray.empty]) (s := 3) (bytes := 40) (F := ndC (u.L ++ [(2, mt, mt)])) (v := .slice A4 u.L.length c4) (n := u.L.length) (xs := #[.int .i64 2, .string mt, .string mt]) Try.underlying25 hi0 hz0 hs0 hb0 rfl (by decide) rfl ((H4.out.own).congr (fun a b ha hb => ndC_app u.L [(2, mt, mt)] ha)) (by omega) rfl (fun q hq => by rw [ndC_last]; rcases (by omega : q = 0 ∨ q = 1 ∨ q = 2) with rfl | rfl | rfl <;> rfl) (fun q hq => ndC_one _ _ _) (by omega) (by decide) ?_)
      intro v7 w7 hv7 hg7 hb7
      obtain ⟨A7, p7, rfl, _, _⟩ := hv7.slice
      have EL7 : (u.L ++ [(2, mt, mt)]).length = u.L.length + 1 := by simp
      have V7 := Lib.hid hv7
      have R7 := Lib.hid ((RR.out).own hg7 (H4.out.ne))
      have N7 := Lib.hid (show (Value.slice A7 (u.L.length + 1) p7).ownBlock ≠ some g from fun e => by (rcases hb7 with k1 | ⟨k2, k3, k4⟩; exact (H4.out.ne) (by rw [← k1]; exact e); rw [k3] at e; injection e with e; omega))
      have B7 := Lib.hid (below_own (B := B) (B4.out) hg7 (fun r hr => (VO7.out.lt hr).1) (by omega))
      have z7 := R7.out.frozen 2
      have k7 : w7.cell? ⟨g, 2, none⟩ = some (.slice A4 u.L.length c4) := R7.out.cell (i := 2) (by omega)
      have l7 := R7.out.lt
      clear hv7 hg7 hb7
      have m7 : w7.cell? ⟨g, 4, none⟩ = some (.int .i64 (k + 1)) := R7.out.cell (i := 4) (by omega)
      have y7 := R7.out.frozen 4
      go_wp2_with fail
      go_end0
      have h8 := RdS.put (L := u.L ++ [(2, mt, mt)]) (A' := A7) (c' := p7) hbase R7.out ut H4.out.max (by rw [EL7]; exact V7.out) (by rw [EL7]; exact N7.out)
      rw [EL7] at h8
      exact ⟨rfl, _, .inr (.inr (.inl ⟨hsm, Q1.out, Q2.out, u, HU.out, rfl⟩)), ⟨A7, p7, h8.set4 k⟩, below_set (below_set B7.out hbase _ _) hbase _ _⟩
    case false =>
      have Q1 := Lib.hid q1
      have Q2 := Lib.hid q2
      clear q1 q2
      go_enter Try.func103, Try.ntmps103
      go_wp2_with fail
      rw [← HW1.out]
      refine (spec_take S B g _ s (k + 1) A c H1.out tOpen (by decide)).mono ?_
      rintro e w2 ⟨rfl, hr, b2, _⟩
      rw [Q1.out] at hr ⊢
      have H2 := Lib.hid (show RdS S B g w2 s (k + 1) A c by simpa using hr)
      have B2 := Lib.hid (B1.out.trans b2)
      clear hr b2 k2 k3 k4 z3 z4 hlt
      go_wp2_with fail
      refine (spec_take S B g _ s (k + 1) A c H2.out tNot (by decide)).mono ?_
      rintro e w3 ⟨rfl, hr, b3, _⟩
      rw [Q2.out] at hr ⊢
      have H3 := Lib.hid (show RdS S B g w3 s (k + 1) A c by simpa using hr)
      have B3 := Lib.hid (B2.out.trans b3)
      clear hr b3
      go_wp2_with fail
      refine (spec_word S B g _ s (k + 1) A c H3.out).mono ?_
      rintro e w4 ⟨j, hj, rfl, h4, b4, _⟩
      rw [Z.out] at h4
      have HJ := Lib.hid hj
      have B4 := Lib.hid (B3.out.trans b4)
      have H4 := Lib.hid h4
      have lt4 := h4.lt
      obtain ⟨C, hC⟩ : ∃ C, C = S.extract s.i j := ⟨_, rfl⟩
      rw [← hC]
      have HC := Lib.hid hC
      clear hj hC b4 h4
      have H5 := Lib.hid (H4.out.alloc (.cells #[.int .i64 0, .string mt, .string mt] 54))
      have X5 := Lib.hid (row_lit w4 #[.int .i64 0, .string mt, .string mt] 54 3 (fun i => if i = 0 then .int .i64 0 else .string mt) (by simp) (fun i hi => by rcases (by omega : i = 0 ∨ i = 1 ∨ i = 2) with rfl | rfl | rfl <;> rfl))
      have B5 := Lib.hid (B4.out.alloc (by omega) (.cells #[.int .i64 0, .string mt, .string mt] 54))
      cases q3 : isAt S j tEq
      · have Q3 := Lib.hid q3
        clear q3
        by_cases he : C = tTrue
        · have hx : (C.toList == [84, 82, 85, 69]) = true := by rw [← tTrue_list, he]; simp
          have HE := Lib.hid he
          clear he
          go_wp2_with fail
          refine (spec_take S B g _ _ (k + 1) A c H5.out tEq (by decide)).mono ?_
          rintro e w6 ⟨rfl, hr, b6, g6⟩
          dsimp only at hr ⊢
          rw [Q3.out] at hr ⊢
          have H9 := Lib.hid (show RdS S B g w6 ⟨j, s.L, false⟩ (k + 1) A c by simpa using hr)
          have X9 := Lib.hid (X5.out.grown g6 (by omega))
          have B9 := Lib.hid (B5.out.trans b6)
          have gs6 := g6.size
          simp only [World.size_alloc] at gs6
          clear hr b6 g6
          go_wp2_with fail
          have r2 := H9.out.c2
          have r4 := H9.out.c4
          have rz := H9.out.fr 2
          have rl := H9.out.lt
          have VO7 := Lib.hid H9.out.own
          have RR := Lib.hid H9.out.row
          have NE := Lib.hid H9.out.ne
          have x0 : w6.cell? ⟨w4.heap.size, 0, none⟩ = some (.int .i64 0) := X9.out.cell (i := 0) (by omega)
          have x1 : w6.cell? ⟨w4.heap.size, 1, none⟩ = some (.string mt) := X9.out.cell (i := 1) (by omega)
          have x2 : w6.cell? ⟨w4.heap.size, 2, none⟩ = some (.string mt) := X9.out.cell (i := 2) (by omega)
          have xl := X9.out.lt
          go_region_law ((refine step_appS w6 rfl _ _ 25 rfl (B := B) (i := i0) (z := .agg #[.int .i64 0, .string ByteArray.empty, .string ByteArray.empty]) (s := 3) (bytes := 40) (F := ndC (s.L ++ [(0, mt, mt)])) (v := .slice A s.L.length c) (n := s.L.length) (xs := #[.int .i64 0, .string mt, .string mt]) Try.underlying25 hi0 hz0 hs0 hb0 rfl (by decide) rfl (VO7.out.congr (fun a b ha hb => ndC_app s.L [(0, mt, mt)] ha)) (by omega) ⟨rfl, rfl, rfl, rfl⟩ rfl (fun q hq => by rw [ndC_last]; rcases (by omega : q = 0 ∨ q = 1 ∨ q = 2) with rfl | rfl | rfl <;> rfl) (fun q hq => ndC_one _ _ _) (by omega) (by decide) ?_; intro v7 w7 hv7 hg7 hb7; obtain ⟨A7, p7, rfl, _, _⟩ := hv7.slice; have V7 := Lib.hid hv7; have R7 := Lib.hid (RR.out.own hg7 NE.out); have N7 := Lib.hid (show (Value.slice A7 (s.L.length + 1) p7).ownBlock ≠ some g from fun e => by (rcases hb7 with k1 | ⟨k2, k3, k4⟩; exact NE.out (by rw [← k1]; exact e); rw [k3] at e; injection e with e; omega)); have B7 := Lib.hid (below_own (B := B) B9.out hg7 (fun r hr => (VO7.out.lt hr).1) (by omega)); have z7 := R7.out.frozen 2; have k7 : w7.cell? ⟨g, 2, none⟩ = some (.slice A s.L.length c) := R7.out.cell (i := 2) (by omega); have m7 : w7.cell? ⟨g, 4, none⟩ = some (.int .i64 (k + 1)) := R7.out.cell (i := 4) (by omega); have y7 := R7.out.frozen 4; have l7 := R7.out.lt; clear hv7 hg7 hb7))
          all_goals
            go_wp2_with fail
            go_end0
            have EL7 : (s.L ++ [(0, mt, mt)]).length = s.L.length + 1 := by simp
            have h8 := RdS.put (L := s.L ++ [(0, mt, mt)]) (A' := A7) (c' := p7) hbase R7.out H9.out.le H9.out.max (by rw [EL7]; exact V7.out) (by rw [EL7]; exact N7.out)
            rw [EL7] at h8
            exact ⟨rfl, _, .inr (.inr (.inr ⟨hsm, Q1.out, Q2.out, j, HJ.out, (.inr (.inl ⟨Q3.out, by rw [← HC.out]; exact HE.out, rfl⟩))⟩)), ⟨A7, p7, h8.set4 k⟩, below_set (below_set B7.out hbase _ _) hbase _ _⟩
        · have hx : (C.toList == [84, 82, 85, 69]) = false := by rw [← tTrue_list]; exact txt_other he
          have HE := Lib.hid he
          clear he
          go_wp2_with fail
          refine (spec_take S B g _ _ (k + 1) A c H5.out tEq (by decide)).mono ?_
          rintro e w6 ⟨rfl, hr, b6, g6⟩
          dsimp only at hr ⊢
          rw [Q3.out] at hr ⊢
          have h6 : RdS S B g w6 ⟨j, s.L, false⟩ (k + 1) A c := by simpa using hr
          have j3 : w6.cell? ⟨g, 3, none⟩ = some (.bool false) := h6.c3
          have y3 := h6.fr 3
          have l6 := h6.lt
          have H9 := Lib.hid (h6.set3 true)
          have X9 := Lib.hid ((X5.out.grown g6 (by omega)).far (p := ⟨g, 3, none⟩) (by show g ≠ w4.heap.size; omega) (.bool true))
          have B9 := Lib.hid (below_set (B5.out.trans b6) hbase 3 (.bool true))
          have gs6 := g6.size
          simp only [World.size_alloc] at gs6
          obtain ⟨w8, hw8⟩ : ∃ w8, w8 = w6.setCell ⟨g, 3, none⟩ (.bool true) := ⟨_, rfl⟩
          rw [← hw8] at H9 X9 B9
          have HW8 := Lib.hid hw8
          clear hr b6 g6 h6 hw8
          go_wp2_with fail
          rw [← HW8.out]
          have r2 := H9.out.c2
          have r4 := H9.out.c4
          have rz := H9.out.fr 2
          have rl := H9.out.lt
          have VO7 := Lib.hid H9.out.own
          have RR := Lib.hid H9.out.row
          have NE := Lib.hid H9.out.ne
          have x0 : w8.cell? ⟨w4.heap.size, 0, none⟩ = some (.int .i64 0) := X9.out.cell (i := 0) (by omega)
          have x1 : w8.cell? ⟨w4.heap.size, 1, none⟩ = some (.string mt) := X9.out.cell (i := 1) (by omega)
          have x2 : w8.cell? ⟨w4.heap.size, 2, none⟩ = some (.string mt) := X9.out.cell (i := 2) (by omega)
          have xl := X9.out.lt
          go_region_law ((refine step_appS w8 rfl _ _ 25 rfl (B := B) (i := i0) (z := .agg #[.int .i64 0, .string ByteArray.empty, .string ByteArray.empty]) (s := 3) (bytes := 40) (F := ndC (s.L ++ [(0, mt, mt)])) (v := .slice A s.L.length c) (n := s.L.length) (xs := #[.int .i64 0, .string mt, .string mt]) Try.underlying25 hi0 hz0 hs0 hb0 rfl (by decide) rfl (VO7.out.congr (fun a b ha hb => ndC_app s.L [(0, mt, mt)] ha)) (by omega) ⟨rfl, rfl, rfl, rfl⟩ rfl (fun q hq => by rw [ndC_last]; rcases (by omega : q = 0 ∨ q = 1 ∨ q = 2) with rfl | rfl | rfl <;> rfl) (fun q hq => ndC_one _ _ _) (by omega) (by decide) ?_; intro v7 w7 hv7 hg7 hb7; obtain ⟨A7, p7, rfl, _, _⟩ := hv7.slice; have V7 := Lib.hid hv7; have R7 := Lib.hid (RR.out.own hg7 NE.out); have N7 := Lib.hid (show (Value.slice A7 (s.L.length + 1) p7).ownBlock ≠ some g from fun e => by (rcases hb7 with k1 | ⟨k2, k3, k4⟩; exact NE.out (by rw [← k1]; exact e); rw [k3] at e; injection e with e; omega)); have B7 := Lib.hid (below_own (B := B) B9.out hg7 (fun r hr => (VO7.out.lt hr).1) (by omega)); have z7 := R7.out.frozen 2; have k7 : w7.cell? ⟨g, 2, none⟩ = some (.slice A s.L.length c) := R7.out.cell (i := 2) (by omega); have m7 : w7.cell? ⟨g, 4, none⟩ = some (.int .i64 (k + 1)) := R7.out.cell (i := 4) (by omega); have y7 := R7.out.frozen 4; have l7 := R7.out.lt; clear hv7 hg7 hb7))
          all_goals
            go_wp2_with fail
            go_end0
            have EL7 : (s.L ++ [(0, mt, mt)]).length = s.L.length + 1 := by simp
            have h8 := RdS.put (L := s.L ++ [(0, mt, mt)]) (A' := A7) (c' := p7) hbase R7.out H9.out.le H9.out.max (by rw [EL7]; exact V7.out) (by rw [EL7]; exact N7.out)
            rw [EL7] at h8
            exact ⟨rfl, _, .inr (.inr (.inr ⟨hsm, Q1.out, Q2.out, j, HJ.out, (.inr (.inr ⟨Q3.out, by rw [← HC.out]; exact HE.out, rfl⟩))⟩)), ⟨A7, p7, h8.set4 k⟩, below_set (below_set B7.out hbase _ _) hbase _ _⟩
      · have Q3 := Lib.hid q3
        clear q3
        go_wp2_with fail
        refine (spec_take S B g _ _ (k + 1) A c H5.out tEq (by decide)).mono ?_
        rintro e w6 ⟨rfl, hr, b6, g6⟩
        dsimp only at hr ⊢
        rw [Q3.out] at hr ⊢
        have H6 := Lib.hid (show RdS S B g w6 ⟨j + 1, s.L, false⟩ (k + 1) A c from (show RdS S B g w6 ⟨j + tEq.size, s.L, false⟩ (k + 1) A c by simpa using hr))
        have X6 := Lib.hid (X5.out.grown g6 (by omega))
        have B6 := Lib.hid (B5.out.trans b6)
        have gs6 := g6.size
        simp only [World.size_alloc] at gs6
        clear hr b6 g6
        go_wp2_with fail
        refine (spec_word S B g _ _ (k + 1) A c H6.out).mono ?_
        rintro e w9 ⟨m, hm, rfl, h9, b9, g9⟩
        have HM := Lib.hid hm
        have x9 := X6.out.grown g9 (by omega)
        have t0 := x9.frozen 0
        have t1 := x9.frozen 1
        have t2 := x9.frozen 2
        have s0 : w9.cell? ⟨w4.heap.size, 0, none⟩ = some (.int .i64 0) := x9.cell (i := 0) (by omega)
        have s1 : w9.cell? ⟨w4.heap.size, 1, none⟩ = some (.string mt) := x9.cell (i := 1) (by omega)
        have s2 : w9.cell? ⟨w4.heap.size, 2, none⟩ = some (.string mt) := x9.cell (i := 2) (by omega)
        have tl := x9.lt
        obtain ⟨D, hD⟩ : ∃ D, D = S.extract (j + 1) m := ⟨_, rfl⟩
        rw [← hD]
        have HD := Lib.hid hD
        have H9a := Lib.hid h9
        have X9a := Lib.hid x9
        have B9a := Lib.hid (B6.out.trans b9)
        clear hm h9 b9 g9 x9 hD
        go_wp2_with fail
        have NX := Lib.hid (show (Value.slice A s.L.length c).ownBlock ≠ some w4.heap.size from fun e => by have := (H4.out.own.lt e).2; omega)
        have H9 := Lib.hid (((H9a.out.far (p := ⟨w4.heap.size, 0, none⟩) (by show w4.heap.size ≠ g; omega) NX.out (.int .i64 1)).far (p := ⟨w4.heap.size, 1, none⟩) (by show w4.heap.size ≠ g; omega) NX.out (.string C)).far (p := ⟨w4.heap.size, 2, none⟩) (by show w4.heap.size ≠ g; omega) NX.out (.string D))
        have X9 := Lib.hid (((X9a.out.set 0 (.int .i64 1)).set 1 (.string C)).set 2 (.string D))
        have hbw : B ≤ w4.heap.size := by omega
        have B9 := Lib.hid (below_set (below_set (below_set B9a.out hbw 0 (.int .i64 1)) hbw 1 (.string C)) hbw 2 (.string D))
        obtain ⟨w8, hw8⟩ : ∃ w8, w8 = ((w9.setCell ⟨w4.heap.size, 0, none⟩ (.int .i64 1)).setCell ⟨w4.heap.size, 1, none⟩ (.string C)).setCell ⟨w4.heap.size, 2, none⟩ (.string D) := ⟨_, rfl⟩
        rw [← hw8] at H9 X9 B9
        rw [← hw8]
        clear hw8 s0 s1 s2 t0 t1 t2 tl
        have r2 := H9.out.c2
        have r4 := H9.out.c4
        have rz := H9.out.fr 2
        have rl := H9.out.lt
        have VO7 := Lib.hid H9.out.own
        have RR := Lib.hid H9.out.row
        have NE := Lib.hid H9.out.ne
        have x0 : w8.cell? ⟨w4.heap.size, 0, none⟩ = some (.int .i64 1) := X9.out.cell (i := 0) (by omega)
        have x1 : w8.cell? ⟨w4.heap.size, 1, none⟩ = some (.string C) := X9.out.cell (i := 1) (by omega)
        have x2 : w8.cell? ⟨w4.heap.size, 2, none⟩ = some (.string D) := X9.out.cell (i := 2) (by omega)
        have xl := X9.out.lt
        go_region_law ((refine step_appS w8 rfl _ _ 25 rfl (B := B) (i := i0) (z := .agg #[.int .i64 0, .string ByteArray.empty, .string ByteArray.empty]) (s := 3) (bytes := 40) (F := ndC (s.L ++ [(1, C, D)])) (v := .slice A s.L.length c) (n := s.L.length) (xs := #[.int .i64 1, .string C, .string D]) Try.underlying25 hi0 hz0 hs0 hb0 rfl (by decide) rfl (VO7.out.congr (fun a b ha hb => ndC_app s.L [(1, C, D)] ha)) (by omega) ⟨rfl, rfl, rfl, rfl⟩ rfl (fun q hq => by rw [ndC_last]; rcases (by omega : q = 0 ∨ q = 1 ∨ q = 2) with rfl | rfl | rfl <;> rfl) (fun q hq => ndC_one _ _ _) (by omega) (by decide) ?_; intro v7 w7 hv7 hg7 hb7; obtain ⟨A7, p7, rfl, _, _⟩ := hv7.slice; have V7 := Lib.hid hv7; have R7 := Lib.hid (RR.out.own hg7 NE.out); have N7 := Lib.hid (show (Value.slice A7 (s.L.length + 1) p7).ownBlock ≠ some g from fun e => by (rcases hb7 with k1 | ⟨k2, k3, k4⟩; exact NE.out (by rw [← k1]; exact e); rw [k3] at e; injection e with e; omega)); have B7 := Lib.hid (below_own (B := B) B9.out hg7 (fun r hr => (VO7.out.lt hr).1) (by omega)); have z7 := R7.out.frozen 2; have k7 : w7.cell? ⟨g, 2, none⟩ = some (.slice A s.L.length c) := R7.out.cell (i := 2) (by omega); have m7 : w7.cell? ⟨g, 4, none⟩ = some (.int .i64 (k + 1)) := R7.out.cell (i := 4) (by omega); have y7 := R7.out.frozen 4; have l7 := R7.out.lt; clear hv7 hg7 hb7))
        all_goals
          go_wp2_with fail
          go_end0
          have EL7 : (s.L ++ [(1, C, D)]).length = s.L.length + 1 := by simp
          have h8 := RdS.put (L := s.L ++ [(1, C, D)]) (A' := A7) (c' := p7) hbase R7.out H9.out.le H9.out.max (by rw [EL7]; exact V7.out) (by rw [EL7]; exact N7.out)
          rw [EL7] at h8
          exact ⟨rfl, _, .inr (.inr (.inr ⟨hsm, Q1.out, Q2.out, j, HJ.out, (.inl ⟨Q3.out, m, HM.out, by rw [← HC.out, ← HD.out]⟩)⟩)), ⟨A7, p7, h8.set4 k⟩, below_set (below_set B7.out hbase _ _) hbase _ _⟩
end Go.Proofs.Ytkkhaamklbolmaa
