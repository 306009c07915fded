/-
  Contracts of the functions that draw tables of units, units and quantities. (Printed by gen/drawunit.py.)
-/
import Derived.Test.YtccejhhhengpcaaPick
import Derived.Test.YtccejhhhengpcaaDrawRatio6
import Derived.Test.YtccejhhhengpcaaReachSt
import Derived.Test.YtccejhhhengpcaaQuietTail
import Derived.Lib.QuietBelow
namespace Go.Proofs.Ytccejhhhengpcaa
open Go.RowKit Go.Sort num
set_option linter.unusedVariables false
set_option linter.unusedSimpArgs false

structure RulesOk (n : Nat) (fr to : Nat → ByteArray) (nu de : Nat → Int) : Prop where
  le : n ≤ 5
  f : ∀ i, i < n → (fr i).size ≤ 8
  t : ∀ i, i < n → (to i).size ≤ 8
  bn : ∀ i, i < n → -9223372036854775808 ≤ nu i ∧ nu i ≤ 9223372036854775807
  bd : ∀ i, i < n → -9223372036854775808 ≤ de i ∧ de i ≤ 9223372036854775807
theorem own_rules {B : Nat} {w : World} {v : Value} {n : Nat} {fr to : Nat → ByteArray} {nu de : Nat → Int} (h : OwnV B w 59 4 v n (unitRuleC fr to nu de)) (k : RulesOk n fr to nu de) : ∃ A c, v = .slice A n c ∧ UnitRuleF w A n c fr to nu de := by
  obtain ⟨A, c, e, hS, _⟩ := h.slice
  exact ⟨A, c, e, hS, k.bn, k.bd, fun i hi => by have := k.f i hi; omega, fun i hi => by have := k.t i hi; omega⟩
def uNames (i : Nat) : ByteArray := [⟨#[80, 67]⟩, ⟨#[68, 79, 90]⟩, ⟨#[71, 82, 79, 83]⟩, ⟨#[66, 79, 88]⟩, ⟨#[80, 65, 76]⟩, ⟨#[75, 71]⟩].getD i ⟨#[]⟩
def uWorth (i : Nat) : Int := [1, 12, 144, 10, 1000, 5].getD i 0
theorem uNames_size (i : Nat) (h : i < 6) : (uNames i).size ≤ 8 := by
  rcases (by omega : i = 0 ∨ i = 1 ∨ i = 2 ∨ i = 3 ∨ i = 4 ∨ i = 5) with rfl | rfl | rfl | rfl | rfl | rfl <;> decide
/-- one rule more -/
def upd {α : Type} (f : Nat → α) (n : Nat) (x : α) (i : Nat) : α := if i = n then x else f i
theorem upd_new {α : Type} (f : Nat → α) (n : Nat) (x : α) : upd f n x n = x := by unfold upd; rw [if_pos rfl]
theorem upd_old {α : Type} (f : Nat → α) {n i : Nat} (x : α) (h : i ≠ n) : upd f n x i = f i := by unfold upd; rw [if_neg h]
theorem rules_more {n : Nat} {fr to : Nat → ByteArray} {nu de : Nat → Int} (k : RulesOk n fr to nu de) {a b : ByteArray} {x y : Int} (hn : n + 1 ≤ 5) (ha : a.size ≤ 8) (hb : b.size ≤ 8) (hx : -9223372036854775808 ≤ x ∧ x ≤ 9223372036854775807) (hy : -9223372036854775808 ≤ y ∧ y ≤ 9223372036854775807) : RulesOk (n + 1) (upd fr n a) (upd to n b) (upd nu n x) (upd de n y) := by
  refine ⟨hn, fun i hi => ?_, fun i hi => ?_, fun i hi => ?_, fun i hi => ?_⟩
  · by_cases e : i = n
    · subst e; rw [upd_new]; exact ha
    · rw [upd_old _ _ e]; exact k.f i (by omega)
  · by_cases e : i = n
    · subst e; rw [upd_new]; exact hb
    · rw [upd_old _ _ e]; exact k.t i (by omega)
  · by_cases e : i = n
    · subst e; rw [upd_new]; exact hx
    · rw [upd_old _ _ e]; exact k.bn i (by omega)
  · by_cases e : i = n
    · subst e; rw [upd_new]; exact hy
    · rw [upd_old _ _ e]; exact k.bd i (by omega)
theorem upd_cell {n : Nat} (fr to : Nat → ByteArray) (nu de : Nat → Int) (a b : ByteArray) (x y : Int) {j q : Nat} (h : j < n) : unitRuleC fr to nu de j q = unitRuleC (upd fr n a) (upd to n b) (upd nu n x) (upd de n y) j q := by
  unfold unitRuleC
  rw [upd_old _ _ (by omega), upd_old _ _ (by omega), upd_old _ _ (by omega), upd_old _ _ (by omega)]
theorem rules_fac {n : Nat} {fr to : Nat → ByteArray} {nu de : Nat → Int} (k : RulesOk n fr to nu de) {x y : Int} (hx : -9223372036854775808 ≤ x ∧ x ≤ 9223372036854775807) (hy : -9223372036854775808 ≤ y ∧ y ≤ 9223372036854775807) : RulesOk n fr to (upd nu 0 x) (upd de 0 y) := by
  refine ⟨k.le, k.f, k.t, fun i hi => ?_, fun i hi => ?_⟩
  · by_cases e : i = 0
    · subst e; rw [upd_new]; exact hx
    · rw [upd_old _ _ e]; exact k.bn i hi
  · by_cases e : i = 0
    · subst e; rw [upd_new]; exact hy
    · rw [upd_old _ _ e]; exact k.bd i hi
theorem fac_cell (fr to : Nat → ByteArray) (nu de : Nat → Int) (x y : Int) {j q : Nat} (hq : q < 4) : (if j = 0 ∧ q = 3 then Value.int .i64 y else if j = 0 ∧ q = 2 then Value.int .i64 x else unitRuleC fr to nu de j q) = unitRuleC fr to (upd nu 0 x) (upd de 0 y) j q := by
  unfold unitRuleC
  by_cases hj : j = 0
  · subst hj
    rw [upd_new, upd_new]
    rcases (by omega : q = 0 ∨ q = 1 ∨ q = 2 ∨ q = 3) with rfl | rfl | rfl | rfl <;> simp
  · rw [upd_old _ _ hj, upd_old _ _ hj]
    simp [hj]
theorem l5Unit_any (B g : Nat) (w : World) (c : Cur B w g) : Calls Try.prog 47 #[.pointer (some ⟨g, 0, none⟩)] w (Drawn B g w (Short 8)) := by
  have hlt := c.lt
  have hB := c.base
  go_enter Try.func47, Try.ntmps47
  go_wp2_with fail
  refine (l1Pick_any B g w.heap.size 8 8 _ (Short 8) ?c1 ?c2 ?c3 ?c4 ?c5 ?c6).mono ?_
  case c1 => exact c.alloc _
  case c2 => omega
  case c3 => omega
  case c4 => omega
  case c5 => simp
  case c6 =>
    refine pick_str (P := Short 8) rfl ?_
    intro v hv
    simp at hv
    rcases hv with rfl | rfl | rfl | rfl | rfl | rfl | rfl | rfl <;> exact ⟨_, rfl, _, rfl, by decide⟩
  rintro e w1 ⟨v, rfl, ⟨z, rfl, hz⟩, c1, hg1⟩
  have G1 := Lib.hid (grown_trans (grown_alloc (World.grownBy.refl w (some g)) (.cells #[.string ⟨#[80, 67]⟩, .string ⟨#[68, 79, 90]⟩, .string ⟨#[71, 82, 79, 83]⟩, .string ⟨#[66, 79, 88]⟩, .string ⟨#[80, 65, 76]⟩, .string ⟨#[75, 71]⟩, .string ⟨#[88]⟩, .string ⟨#[]⟩] 9)) hg1)
  have C1 := Lib.hid c1
  clear hg1 c1
  go_wp2_with fail
  go_ret
  exact ⟨_, rfl, ⟨_, rfl, hz⟩, C1.out, G1.out⟩
theorem l5Quantity_any (B g : Nat) (w : World) (c : Cur B w g) : Calls Try.prog 55 #[.pointer (some ⟨g, 0, none⟩)] w (Drawn B g w AnyInt) := by
  go_enter Try.func55, Try.ntmps55
  go_wp2_with fail
  refine (l1Once_any B g _ 12 c (by omega) (by omega)).mono ?_
  rintro e w1 ⟨v, rfl, ⟨b, rfl⟩, c1, hg1⟩
  cases b
  · go_wp2_with fail
    refine (l1Below_any B g _ 500 c1 (by omega) (by omega)).mono ?_
    rintro e w2 ⟨v, rfl, ⟨x, rfl, h0, h1⟩, c2, hg2⟩
    have G2 := Lib.hid (grown_trans hg1 hg2)
    have C2 := Lib.hid c2
    clear hg1 hg2 c1 c2
    go_wp2_with fail
    go_ret
    exact ⟨_, rfl, ⟨x, rfl, by omega, by omega⟩, C2.out, G2.out⟩
  · go_wp2_with fail
    refine (l1Odd_any B g _ c1).mono ?_
    rintro e w2 ⟨v, rfl, ⟨x, rfl, h0, h1⟩, c2, hg2⟩
    have G2 := Lib.hid (grown_trans hg1 hg2)
    have C2 := Lib.hid c2
    clear hg1 hg2 c1 c2
    go_wp2_with fail
    go_ret
    exact ⟨_, rfl, ⟨x, rfl, h0, h1⟩, C2.out, G2.out⟩
theorem unitRule_parts : ∃ i, Try.prog.info? 59 = some i ∧ i.zero = some (.agg #[.string ByteArray.empty, .string ByteArray.empty, .int .i64 0, .int .i64 0]) ∧ i.size = 4 ∧ i.bytes = 48 := info_parts unitRule_info
set_option maxRecDepth 20000 in
set_option maxHeartbeats 4000000 in
theorem l5Table_any (B g : Nat) (w : World) (c : Cur B w g) : Calls Try.prog 46 #[.pointer (some ⟨g, 0, none⟩)] w fun e w' => ∃ (v : Value) (n : Nat) (fr to : Nat → ByteArray) (nu de : Nat → Int), e = .returned v ∧ OwnV w.heap.size w' 59 4 v n (unitRuleC fr to nu de) ∧ RulesOk n fr to nu de ∧ Cur B w' g ∧ w.grownBy w' (some g) := by
  obtain ⟨i0, hi0, hz0, hs0, hb0⟩ := unitRule_parts
  have hlt := c.lt
  have hB := c.base
  go_enter Try.func46, Try.ntmps46
  go_wp2_with fail
  obtain ⟨W0, hW0⟩ : ∃ W0, W0 = ((w.alloc (.cells #[.int .i64 1, .int .i64 12, .int .i64 144, .int .i64 10, .int .i64 1000, .int .i64 5] 3)).alloc (.cells #[.string ⟨#[80, 67]⟩, .string ⟨#[68, 79, 90]⟩, .string ⟨#[71, 82, 79, 83]⟩, .string ⟨#[66, 79, 88]⟩, .string ⟨#[80, 65, 76]⟩, .string ⟨#[75, 71]⟩] 9)).alloc (.cells #[] 59) := ⟨_, rfl⟩
  have HW := Lib.hid hW0
  have c0 : Cur B W0 g := by rw [hW0]; exact ((c.alloc _).alloc _).alloc _
  have g0 : w.grownBy W0 (some g) := by rw [hW0]; exact grown_alloc (grown_alloc (grown_alloc (World.grownBy.refl w (some g)) _) _) _
  have rw0 : Row W0 w.heap.size 3 6 (fun i => .int .i64 (uWorth i)) := by rw [hW0]; exact ((row_lit w #[.int .i64 1, .int .i64 12, .int .i64 144, .int .i64 10, .int .i64 1000, .int .i64 5] 3 6 _ (by decide) (fun i hi => by rcases (by omega : i = 0 ∨ i = 1 ∨ i = 2 ∨ i = 3 ∨ i = 4 ∨ i = 5) with rfl | rfl | rfl | rfl | rfl | rfl <;> rfl)).alloc _).alloc _
  have rn0 : Row W0 (w.heap.size + 1) 9 6 (fun i => .string (uNames i)) := by
    have h := (row_lit (w.alloc (.cells #[.int .i64 1, .int .i64 12, .int .i64 144, .int .i64 10, .int .i64 1000, .int .i64 5] 3)) #[.string ⟨#[80, 67]⟩, .string ⟨#[68, 79, 90]⟩, .string ⟨#[71, 82, 79, 83]⟩, .string ⟨#[66, 79, 88]⟩, .string ⟨#[80, 65, 76]⟩, .string ⟨#[75, 71]⟩] 9 6 (fun i => .string (uNames i)) (by decide) (fun i hi => by rcases (by omega : i = 0 ∨ i = 1 ∨ i = 2 ∨ i = 3 ∨ i = 4 ∨ i = 5) with rfl | rfl | rfl | rfl | rfl | rfl <;> rfl)).alloc (.cells #[] 59)
    rw [hW0]; simpa using h
  have o0 : OwnV w.heap.size W0 59 4 (.slice (some ⟨w.heap.size + 1 + 1, 0, none⟩) 0 0) 0 (unitRuleC (fun _ => ⟨#[]⟩) (fun _ => ⟨#[]⟩) (fun _ => 0) (fun _ => 0)) := by
    have h := OwnV.lit ((w.alloc (.cells #[.int .i64 1, .int .i64 12, .int .i64 144, .int .i64 10, .int .i64 1000, .int .i64 5] 3)).alloc (.cells #[.string ⟨#[80, 67]⟩, .string ⟨#[68, 79, 90]⟩, .string ⟨#[71, 82, 79, 83]⟩, .string ⟨#[66, 79, 88]⟩, .string ⟨#[80, 65, 76]⟩, .string ⟨#[75, 71]⟩] 9)) (B := w.heap.size) (by simp; omega) 59 4 0 #[] (unitRuleC (fun _ => ⟨#[]⟩) (fun _ => ⟨#[]⟩) (fun _ => 0) (fun _ => 0)) (by simp [flat]) (by omega)
    rw [hW0]; simpa using h
  have C0 := Lib.hid c0
  have G0 := Lib.hid g0
  have RW0 := Lib.hid rw0
  have RN0 := Lib.hid rn0
  have O0 := Lib.hid o0
  clear hW0 c0 g0 rw0 rn0 o0
  rw [← HW.out]
  clear HW
  refine (l1Below_any B g _ 6 C0.out (by omega) (by omega)).mono ?_
  rintro e w1 ⟨v, rfl, ⟨z0, rfl, hz1, hz2⟩, c1, hg1⟩
  have C1 := Lib.hid c1
  have G1 := Lib.hid (grown_trans G0.out hg1)
  have RW1 := Lib.hid (RW0.out.grown hg1 (by omega))
  have RN1 := Lib.hid (RN0.out.grown hg1 (by omega))
  have O1 := Lib.hid (O0.out.grown hg1 (.inr (by simp [Value.ownBlock]; omega)))
  clear c1 hg1 C0 G0 RW0 RN0 O0
  go_wp2_with fail
  go_loopw [5, 6, 7, 8] (fun ov zv _ _ wr => ∃ (z : Int) (m : Nat) (fr to : Nat → ByteArray) (nu de : Nat → Int), zv = .int .i64 z ∧ 0 ≤ z ∧ (m : Int) + z ≤ 5 ∧ OwnV w.heap.size wr 59 4 ov m (unitRuleC fr to nu de) ∧ ov.ownBlock ≠ some w.heap.size ∧ ov.ownBlock ≠ some (w.heap.size + 1) ∧ RulesOk m fr to nu de ∧ Cur B wr g ∧ w.grownBy wr (some g) ∧ Row wr w.heap.size 3 6 (fun i => .int .i64 (uWorth i)) ∧ Row wr (w.heap.size + 1) 9 6 (fun i => .string (uNames i))) (fun _ zv _ _ _ => (intOf zv).toNat)
  case atStart => exact ⟨z0, 0, _, _, _, _, rfl, hz1, by omega, O1.out, by simp [Value.ownBlock]; omega, by simp [Value.ownBlock], ⟨by omega, fun i hi => by omega, fun i hi => by omega, fun i hi => by omega, fun i hi => by omega⟩, C1.out, G1.out, RW1.out, RN1.out⟩
  case round =>
    clear C1 G1 RW1 RN1 O1 hz1 hz2
    obtain ⟨z, m, fr, to, nu, de, rfl, hz0', hmz, hown, hn1, hn2, hok, hcur, hgr, hrw, hrn⟩ := hrel
    obtain ⟨Ao, co, rfl, _, _⟩ := hown.slice
    have O := Lib.hid hown
    have N1 := Lib.hid hn1
    have N2 := Lib.hid hn2
    have OK := Lib.hid hok
    have C := Lib.hid hcur
    have G := Lib.hid hgr
    have RW := Lib.hid hrw
    have RN := Lib.hid hrn
    have NG := Lib.hid (show (Value.slice Ao m co).ownBlock ≠ some g from fun e => by have := (hown.lt e).1; omega)
    clear hown hn1 hn2 hok hcur hgr hrw hrn
    have hwr := G.out.size
    by_cases hpos : 0 < z
    case neg =>
      obtain rfl : z = 0 := by omega
      have hmi : (m : Int) ≤ 5 := by omega
      go_wp2_with fail
      refine (l1Once_any B g _ 10 C.out (by omega) (by omega)).mono ?_
      rintro e w2 ⟨v, rfl, ⟨b1, rfl⟩, c2, hg2⟩
      have C2 := Lib.hid c2
      have G2 := Lib.hid (grown_trans G.out hg2)
      have O2 := Lib.hid (O.out.grown hg2 (.inr NG.out))
      have lz2 := hg2.size
      clear c2 hg2 C G O RW RN
      by_cases hm0 : m = 0
      · subst hm0
        cases b1
        all_goals
          go_wp2_with fail
          refine (l1Once_any B g _ 16 C2.out (by omega) (by omega)).mono ?_
          rintro e w3 ⟨v, rfl, ⟨b2, rfl⟩, c3, hg3⟩
          have C3 := Lib.hid c3
          have G3 := Lib.hid (grown_trans G2.out hg3)
          have O3 := Lib.hid (O2.out.grown hg3 (.inr NG.out))
          clear c3 hg3 C2 G2 O2
          cases b2
          all_goals
            go_wp2_with fail
            go_ret
            exact ⟨_, 0, fr, to, nu, de, rfl, O3.out, OK.out, C3.out, G3.out⟩
      · obtain ⟨gl, cl, hsl⟩ := O2.out.form (by omega)
        injection hsl with h1 h2 h3
        subst h1; subst h3
        have hmp : (0 : Int) < (m : Int) := by omega
        have lg2 := O2.out.lt (k := gl) rfl
        have hgn : gl ≠ g := by omega
        obtain ⟨nu1, de1, w3, key⟩ : ∃ (nu1 de1 : Nat → Int) (w3 : World), True := ⟨nu, de, w2, trivial⟩
        clear key nu1 de1 w3
        cases b1
        case false =>
          go_wp2_with fail
          refine (l1Once_any B g _ 16 C2.out (by omega) (by omega)).mono ?_
          rintro e w6 ⟨v, rfl, ⟨b2, rfl⟩, c6, hg6⟩
          have C6 := Lib.hid c6
          have G6 := Lib.hid (grown_trans G2.out hg6)
          have O6 := Lib.hid (O2.out.grown hg6 (.inr NG.out))
          clear c6 hg6 C2 G2 O2
          cases b2
          · go_wp2_with fail
            go_ret
            exact ⟨_, m, _, _, _, _, rfl, O6.out, OK.out, C6.out, G6.out⟩
          · go_wp2_with fail
            refine (l2Any_any B g _ C6.out).mono ?_
            rintro e w7 ⟨v, rfl, ⟨p', q', rfl, p1, p2, q1, q2⟩, c7, hg7⟩
            have C7 := Lib.hid c7
            have G7 := Lib.hid (grown_trans G6.out hg7)
            have O7 := Lib.hid (O6.out.grown hg7 (.inr NG.out))
            clear c7 hg7 C6 G6 O6
            have OS7 := Lib.hid ((((O7.out.set (g := gl) rfl (j := 0) (q := 2) (by omega) (by omega) (.int .i64 p')).set (g := gl) rfl (j := 0) (q := 3) (by omega) (by omega) (.int .i64 q'))).congr (fun j r hj hr => fac_cell _ _ _ _ p' q' hr))
            have f4 := O7.out.cell (g := gl) rfl (j := 0) (q := 2) (by omega) (by omega)
            have f5 := O7.out.cell (g := gl) rfl (j := 0) (q := 3) (by omega) (by omega)
            have h4 := O7.out.frozen (g := gl) rfl 2
            have h5 := O7.out.frozen (g := gl) rfl 3
            simp only [Nat.zero_mul, Nat.zero_add] at f4 f5 OS7
            have C8 := Lib.hid ((C7.out.setCell (p := ⟨gl, 2, none⟩) (by show B ≤ gl; omega) hgn (.int .i64 p')).setCell (p := ⟨gl, 3, none⟩) (by show B ≤ gl; omega) hgn (.int .i64 q'))
            have G8 := Lib.hid (grown_setCell (grown_setCell G7.out (p := ⟨gl, 2, none⟩) (.inr lg2.1) (.int .i64 p')) (p := ⟨gl, 3, none⟩) (.inr lg2.1) (.int .i64 q'))
            have OK8 := Lib.hid (rules_fac OK.out (x := p') (y := q') ⟨p1, p2⟩ ⟨q1, q2⟩)
            clear C7 G7 O7
            go_wp2_with fail
            go_ret
            exact ⟨_, m, _, _, _, _, rfl, OS7.out, OK8.out, C8.out, G8.out⟩
        case true =>
          go_wp2_with fail
          refine (l1Below_any B g _ 3 C2.out (by omega) (by omega)).mono ?_
          rintro e w3 ⟨v, rfl, ⟨x1, rfl, x2, x3⟩, c3, hg3⟩
          have C3 := Lib.hid c3
          have G3 := Lib.hid (grown_trans G2.out hg3)
          have O3 := Lib.hid (O2.out.grown hg3 (.inr NG.out))
          have u1 : IntKind.i64.wrap (1 + x1) = 1 + x1 := IntWalk.i64_in _ ⟨by omega, by omega⟩
          clear c3 hg3 C2 G2 O2
          go_wp2_with fail
          refine (l1Below_any B g _ 3 C3.out (by omega) (by omega)).mono ?_
          rintro e w4 ⟨v, rfl, ⟨y1, rfl, y2, y3⟩, c4, hg4⟩
          have C4 := Lib.hid c4
          have G4 := Lib.hid (grown_trans G3.out hg4)
          have O4 := Lib.hid (O3.out.grown hg4 (.inr NG.out))
          have u2 : IntKind.i64.wrap (1 + y1) = 1 + y1 := IntWalk.i64_in _ ⟨by omega, by omega⟩
          clear c4 hg4 C3 G3 O3
          go_wp2_with fail
          refine (spec_mk_any (1 + x1) (1 + y1) _).mono ?_; rintro e w5 ⟨rfl, b5⟩
          have mb := mk_bounds (1 + x1) (1 + y1)
          generalize (mk (1 + x1) (1 + y1)).1 = p at *
          generalize (mk (1 + x1) (1 + y1)).2 = q at *
          have C5 := Lib.hid (C4.out.call b5)
          have G5 := Lib.hid (grown_call G4.out b5)
          have O5 := Lib.hid (O4.out.call b5)
          clear b5 C4 G4 O4 u1 u2
          have OS5 := Lib.hid ((((O5.out.set (g := gl) rfl (j := 0) (q := 2) (by omega) (by omega) (.int .i64 p)).set (g := gl) rfl (j := 0) (q := 3) (by omega) (by omega) (.int .i64 q))).congr (fun j r hj hr => fac_cell fr to nu de p q hr))
          have f2 := O5.out.cell (g := gl) rfl (j := 0) (q := 2) (by omega) (by omega)
          have f3 := O5.out.cell (g := gl) rfl (j := 0) (q := 3) (by omega) (by omega)
          have h2 := O5.out.frozen (g := gl) rfl 2
          have h3 := O5.out.frozen (g := gl) rfl 3
          simp only [Nat.zero_mul, Nat.zero_add] at f2 f3 OS5
          obtain ⟨Y, hY⟩ : ∃ Y, Y = (w5.setCell ⟨gl, 2, none⟩ (.int .i64 p)).setCell ⟨gl, 3, none⟩ (.int .i64 q) := ⟨_, rfl⟩
          have HY := Lib.hid hY
          have C2 := Lib.hid (show Cur B Y g by rw [hY]; exact (C5.out.setCell (p := ⟨gl, 2, none⟩) (by show B ≤ gl; omega) hgn _).setCell (p := ⟨gl, 3, none⟩) (by show B ≤ gl; omega) hgn _)
          have G2 := Lib.hid (show w.grownBy Y (some g) by rw [hY]; exact grown_setCell (grown_setCell G5.out (p := ⟨gl, 2, none⟩) (.inr lg2.1) _) (p := ⟨gl, 3, none⟩) (.inr lg2.1) _)
          rw [← hY] at OS5
          have O2 := Lib.hid OS5.out
          have OK2 := Lib.hid (rules_fac OK.out (x := p) (y := q) ⟨by omega, by omega⟩ ⟨by omega, by omega⟩)
          clear hY C5 G5 O5 OS5 mb OK
          have OK := OK2
          clear OK2
          go_wp2_with fail
          rw [← HY.out]
          clear HY
          refine (l1Once_any B g _ 16 C2.out (by omega) (by omega)).mono ?_
          rintro e w6 ⟨v, rfl, ⟨b2, rfl⟩, c6, hg6⟩
          have C6 := Lib.hid c6
          have G6 := Lib.hid (grown_trans G2.out hg6)
          have O6 := Lib.hid (O2.out.grown hg6 (.inr NG.out))
          clear c6 hg6 C2 G2 O2
          cases b2
          · go_wp2_with fail
            go_ret
            exact ⟨_, m, _, _, _, _, rfl, O6.out, OK.out, C6.out, G6.out⟩
          · go_wp2_with fail
            refine (l2Any_any B g _ C6.out).mono ?_
            rintro e w7 ⟨v, rfl, ⟨p', q', rfl, p1, p2, q1, q2⟩, c7, hg7⟩
            have C7 := Lib.hid c7
            have G7 := Lib.hid (grown_trans G6.out hg7)
            have O7 := Lib.hid (O6.out.grown hg7 (.inr NG.out))
            clear c7 hg7 C6 G6 O6
            have OS7 := Lib.hid ((((O7.out.set (g := gl) rfl (j := 0) (q := 2) (by omega) (by omega) (.int .i64 p')).set (g := gl) rfl (j := 0) (q := 3) (by omega) (by omega) (.int .i64 q'))).congr (fun j r hj hr => fac_cell _ _ _ _ p' q' hr))
            have f4 := O7.out.cell (g := gl) rfl (j := 0) (q := 2) (by omega) (by omega)
            have f5 := O7.out.cell (g := gl) rfl (j := 0) (q := 3) (by omega) (by omega)
            have h4 := O7.out.frozen (g := gl) rfl 2
            have h5 := O7.out.frozen (g := gl) rfl 3
            simp only [Nat.zero_mul, Nat.zero_add] at f4 f5 OS7
            have C8 := Lib.hid ((C7.out.setCell (p := ⟨gl, 2, none⟩) (by show B ≤ gl; omega) hgn (.int .i64 p')).setCell (p := ⟨gl, 3, none⟩) (by show B ≤ gl; omega) hgn (.int .i64 q'))
            have G8 := Lib.hid (grown_setCell (grown_setCell G7.out (p := ⟨gl, 2, none⟩) (.inr lg2.1) (.int .i64 p')) (p := ⟨gl, 3, none⟩) (.inr lg2.1) (.int .i64 q'))
            have OK8 := Lib.hid (rules_fac OK.out (x := p') (y := q') ⟨p1, p2⟩ ⟨q1, q2⟩)
            clear C7 G7 O7
            go_wp2_with fail
            go_ret
            exact ⟨_, m, _, _, _, _, rfl, OS7.out, OK8.out, C8.out, G8.out⟩
    obtain ⟨hz6, hz7⟩ : z ≤ 5 ∧ m + 1 ≤ 5 := by omega
    go_wp2_with fail
    refine (l1Below_any B g _ 6 C.out (by omega) (by omega)).mono ?_
    rintro e w2 ⟨v, rfl, ⟨x, rfl, hx0, hx1⟩, c2, hg2⟩
    have C2 := Lib.hid c2
    have G2 := Lib.hid (grown_trans G.out hg2)
    have O2 := Lib.hid (O.out.grown hg2 (.inr NG.out))
    have RW2 := Lib.hid (RW.out.grown hg2 (by omega))
    have RN2 := Lib.hid (RN.out.grown hg2 (by omega))
    have ls2 := hg2.size
    clear c2 hg2 C G O RW RN
    go_wp2_with fail
    refine (l1Below_any B g _ 6 C2.out (by omega) (by omega)).mono ?_
    rintro e w3 ⟨v, rfl, ⟨y, rfl, hy0, hy1⟩, c3, hg3⟩
    have C3 := Lib.hid c3
    have G3 := Lib.hid (grown_trans G2.out hg3)
    have O3 := Lib.hid (O2.out.grown hg3 (.inr NG.out))
    have RW3 := Lib.hid (RW2.out.grown hg3 (by omega))
    have RN3 := Lib.hid (RN2.out.grown hg3 (by omega))
    have ls3 := hg3.size
    clear c3 hg3 C2 G2 O2 RW2 RN2
    by_cases hxy : x = y
    case pos =>
      have hd : (x != y) = false := by simp [hxy]
      clear hxy
      go_wp2_with fail
      go_roundw
      case rel => exact ⟨z - 1, m, fr, to, nu, de, by go_num, by omega, by omega, O3.out, N1.out, N2.out, OK.out, C3.out, G3.out, RW3.out, RN3.out⟩
      case measure => simp [intOf]; omega
    have hd : (x != y) = true := by simp [hxy]
    obtain ⟨jx, rfl⟩ : ∃ j : Nat, x = (j : Int) := ⟨x.toNat, by omega⟩
    obtain ⟨jy, rfl⟩ : ∃ j : Nat, y = (j : Int) := ⟨y.toNat, by omega⟩
    have hjx : (jx : Int) < 6 := by omega
    have hjy : (jy : Int) < 6 := by omega
    have s0 : w3.cell? ⟨w.heap.size, jx, none⟩ = some (.int .i64 (uWorth jx)) := RW3.out.cell (by omega)
    have s1 : w3.cell? ⟨w.heap.size, jy, none⟩ = some (.int .i64 (uWorth jy)) := RW3.out.cell (by omega)
    have s2 : w3.cell? ⟨w.heap.size + 1, jx, none⟩ = some (.string (uNames jx)) := RN3.out.cell (by omega)
    have s3 : w3.cell? ⟨w.heap.size + 1, jy, none⟩ = some (.string (uNames jy)) := RN3.out.cell (by omega)
    have na := uNames_size jx (by omega)
    have nb := uNames_size jy (by omega)
    have mb := mk_bounds (uWorth jx) (uWorth jy)
    have MK := Lib.hid (fun (W : World) => spec_mk_any (uWorth jx) (uWorth jy) W)
    generalize (mk (uWorth jx) (uWorth jy)).1 = p at *
    generalize (mk (uWorth jx) (uWorth jy)).2 = q at *
    generalize uWorth jx = wx at *
    generalize uWorth jy = wy at *
    generalize uNames jx = ax at *
    generalize uNames jy = ay at *
    have k0 := fun d os => cell_regrown s0 d os
    have k1 := fun d os => cell_regrown s1 d os
    have k2 := fun d os => cell_regrown s2 d os
    have k3 := fun d os => cell_regrown s3 d os
    clear hxy hx0 hx1 hy0 hy1
    go_wp2_with fail
    refine wp_region_quiet_tailM (C := fun w' => ∃ p : Regrown, w' = grow (redrawn w3 p.d) p.os) 1 18 (by kernel_rfl) (by kernel_rfl) (by kernel_rfl) (fun _ _ _ d _ h => by cases d <;> exact h) ⟨⟨w3.drawn + 1, #[]⟩, by rw [grow_empty]; rfl⟩ ?_
    simp only [List.take_succ_cons, List.take_zero, List.drop_succ_cons, List.drop_zero]
    refine wpFree_step (.slice Ao m co) rfl (fun w => by go_simp) (fun K hK => ?_)
    go_simp
    refine hK _ ?_; clear hK K
    refine wpFree_nil ?_
    repeat (first | go_big_quiet_step ((go_at_call 49; exact Calls.regrown_of (MK.out _))) | quiet_step ((go_at_call 49; exact Calls.regrown_of (MK.out _))))
    refine wpQuiet_nil ?_
    rintro w4 ⟨p4, hw4⟩
    have by4 : Below w3.heap.size w3 w4 := by rw [hw4]; exact below_regrown w3 _ _
    have C4 := Lib.hid (C3.out.call by4)
    have G4 := Lib.hid (grown_call G3.out by4)
    have O4 := Lib.hid (O3.out.call by4)
    have RW4 := Lib.hid (RW3.out.call by4)
    have RN4 := Lib.hid (RN3.out.call by4)
    have l4 := by4.size
    clear hw4 by4 k0 k1 k2 k3 s0 s1 s2 s3 C3 G3 O3 RW3 RN3 MK
    go_wp2_with (at_builtin; refine appS w4 rfl _ _ 25 rfl (B := w.heap.size) (i := i0) (z := .agg #[.string ByteArray.empty, .string ByteArray.empty, .int .i64 0, .int .i64 0]) (s := 4) (bytes := 48) (F := unitRuleC (upd fr m ax) (upd to m ay) (upd nu m p) (upd de m q)) (v := .slice Ao m co) (n := m) (xs := #[.string ax, .string ay, .int .i64 p, .int .i64 q]) Try.underlying25 hi0 hz0 hs0 hb0 rfl (by decide) rfl (O4.out.congr (fun a b ha hb => upd_cell fr to nu de ax ay p q ha)) (by omega) rfl (fun r hr => by unfold unitRuleC; rw [upd_new, upd_new, upd_new, upd_new]; rcases (by omega : r = 0 ∨ r = 1 ∨ r = 2 ∨ r = 3) with rfl | rfl | rfl | rfl <;> rfl) (fun r hr => by unfold unitRuleC; split; rfl; split; rfl; split <;> rfl) (by omega) (by decide) ?_)
    intro v7 w7 hv7 hg7 hb7
    obtain ⟨A7, p7, rfl, _, _⟩ := hv7.slice
    have ne7 : ∀ r, r < w4.heap.size → (Value.slice Ao m co).ownBlock ≠ some r → (Value.slice A7 (m + 1) p7).ownBlock ≠ some r := fun r hr hn e => by
      rcases hb7 with e' | ⟨k', e', hk'⟩
      · exact hn (by rw [← e', e])
      · rw [e] at e'; injection e' with e'; omega
    have N1b := Lib.hid (ne7 _ RW4.out.lt N1.out)
    have N2b := Lib.hid (ne7 _ RN4.out.lt N2.out)
    have C7 := Lib.hid (C4.out.own hg7 (fun r hr => ⟨by have := (O4.out.lt hr).1; omega, by have := (O4.out.lt hr).1; omega⟩))
    have G7 := Lib.hid (grown_own G4.out hg7 (fun r hr => (O4.out.lt hr).1))
    have RW7 := Lib.hid (RW4.out.own hg7 N1.out)
    have RN7 := Lib.hid (RN4.out.own hg7 N2.out)
    have V7 := Lib.hid hv7
    have K7 := Lib.hid (rules_more OK.out hz7 na nb ⟨by omega, by omega⟩ ⟨by omega, by omega⟩ : RulesOk (m + 1) (upd fr m ax) (upd to m ay) (upd nu m p) (upd de m q))
    clear hv7 hg7 hb7 ne7
    go_wp2_with fail
    go_roundw
    case rel => exact ⟨z - 1, m + 1, _, _, _, _, by go_num, by omega, by omega, V7.out, N1b.out, N2b.out, K7.out, C7.out, G7.out, RW7.out, RN7.out⟩
    case measure => simp [intOf]; omega
/-- what the two draws give -/
def DrawU (w : World) (e : Ending) (w' : World) : Prop := ∃ (A : Option Addr) (n c : Nat) (fr to : Nat → ByteArray) (nu de : Nat → Int) (a b : ByteArray), e = .returned (.tuple #[.slice A n c, .string a, .string b]) ∧ UnitRuleF w' A n c fr to nu de ∧ n ≤ 5 ∧ a.size ≤ 8 ∧ b.size ≤ 8 ∧ Below w.heap.size w w'
def DrawQ (w : World) (e : Ending) (w' : World) : Prop := ∃ (A : Option Addr) (n c : Nat) (fr to : Nat → ByteArray) (nu de : Nat → Int) (a b : ByteArray) (q : Int), e = .returned (.tuple #[.slice A n c, .string a, .string b, .int .i64 q]) ∧ UnitRuleF w' A n c fr to nu de ∧ n ≤ 5 ∧ a.size ≤ 8 ∧ b.size ≤ 8 ∧ (-9223372036854775808 ≤ q ∧ q ≤ 9223372036854775807) ∧ Below w.heap.size w w'
set_option maxHeartbeats 1000000 in
theorem DrawFactorOf_any (w : World) (A : Option Addr) (len cap : Nat) (hb : Bytes w A len) :
    Calls Try.prog 19 #[.slice A len cap] w (DrawU w) := by
  go_enter Try.func19, Try.ntmps19
  go_wp2_with fail
  refine (l1New_any _ _ _ _ hb).mono ?_
  rintro e w1 ⟨g, rfl, c1, b1⟩
  have hg0 := c1.base
  have C1 := Lib.hid c1
  have B1 := Lib.hid b1
  clear c1 b1
  go_wp2_with fail
  refine (l5Table_any _ g _ C1.out).mono ?_
  rintro e w2 ⟨v, n, fr, to, nu, de, rfl, o2, ok, c2, g2⟩
  have C2 := Lib.hid c2
  have B2 := Lib.hid (B1.out.trans (grown_below g2 hg0 B1.out.size))
  have OK := Lib.hid ok
  have O2 := Lib.hid o2
  have NG := Lib.hid (show v.ownBlock ≠ some g from fun e => by have := (o2.lt e).1; have := C1.out.lt; omega)
  clear c2 g2 ok o2
  go_wp2_with fail
  refine (l5Unit_any _ g _ C2.out).mono ?_
  rintro e w3 ⟨_, rfl, ⟨a, rfl, ha⟩, c3, g3⟩
  have C3 := Lib.hid c3
  have B3 := Lib.hid (B2.out.trans (grown_below g3 hg0 B2.out.size))
  have O3 := Lib.hid (O2.out.grown g3 (.inr NG.out))
  clear c3 g3
  go_wp2_with fail
  refine (l5Unit_any _ g _ C3.out).mono ?_
  rintro e w4 ⟨_, rfl, ⟨b, rfl, hb'⟩, c4, g4⟩
  have C4 := Lib.hid c4
  have B4 := Lib.hid (B3.out.trans (grown_below g4 hg0 B3.out.size))
  have O4 := Lib.hid (O3.out.grown g4 (.inr NG.out))
  clear c4 g4
  obtain ⟨A9, c9, rfl, hF⟩ := own_rules O4.out OK.out
  have HF := Lib.hid hF
  have hn := OK.out.le
  clear hF
  go_wp2_with fail
  go_ret3
  exact ⟨A9, n, c9, fr, to, nu, de, a, b, rfl, HF.out, hn, ha, hb', B4.out⟩
set_option maxHeartbeats 1000000 in
theorem DrawConvertUp_any (w : World) (A : Option Addr) (len cap : Nat) (hb : Bytes w A len) :
    Calls Try.prog 33 #[.slice A len cap] w (DrawQ w) := by
  go_enter Try.func33, Try.ntmps33
  go_wp2_with fail
  refine (l1New_any _ _ _ _ hb).mono ?_
  rintro e w1 ⟨g, rfl, c1, b1⟩
  have hg0 := c1.base
  have C1 := Lib.hid c1
  have B1 := Lib.hid b1
  clear c1 b1
  go_wp2_with fail
  refine (l5Table_any _ g _ C1.out).mono ?_
  rintro e w2 ⟨v, n, fr, to, nu, de, rfl, o2, ok, c2, g2⟩
  have C2 := Lib.hid c2
  have B2 := Lib.hid (B1.out.trans (grown_below g2 hg0 B1.out.size))
  have OK := Lib.hid ok
  have O2 := Lib.hid o2
  have NG := Lib.hid (show v.ownBlock ≠ some g from fun e => by have := (o2.lt e).1; have := C1.out.lt; omega)
  clear c2 g2 ok o2
  go_wp2_with fail
  refine (l5Unit_any _ g _ C2.out).mono ?_
  rintro e w3 ⟨_, rfl, ⟨a, rfl, ha⟩, c3, g3⟩
  have C3 := Lib.hid c3
  have B3 := Lib.hid (B2.out.trans (grown_below g3 hg0 B2.out.size))
  have O3 := Lib.hid (O2.out.grown g3 (.inr NG.out))
  clear c3 g3
  go_wp2_with fail
  refine (l5Unit_any _ g _ C3.out).mono ?_
  rintro e w4 ⟨_, rfl, ⟨b, rfl, hb'⟩, c4, g4⟩
  have C4 := Lib.hid c4
  have B4 := Lib.hid (B3.out.trans (grown_below g4 hg0 B3.out.size))
  have O4 := Lib.hid (O3.out.grown g4 (.inr NG.out))
  clear c4 g4
  go_wp2_with fail
  refine (l5Quantity_any _ g _ C4.out).mono ?_
  rintro e w5 ⟨_, rfl, ⟨q, rfl, q0, q1⟩, c5, g5⟩
  have B5 := Lib.hid (B4.out.trans (grown_below g5 hg0 B4.out.size))
  have O5 := Lib.hid (O4.out.grown g5 (.inr NG.out))
  clear c5 g5
  obtain ⟨A9, c9, rfl, hF⟩ := own_rules O5.out OK.out
  have HF := Lib.hid hF
  have hn := OK.out.le
  clear hF
  go_wp2_with fail
  refine bodyPost_ret (by simp [results, Try.results33, go_sem]; try rfl) rfl ?_
  exact ⟨A9, n, c9, fr, to, nu, de, a, b, q, rfl, HF.out, hn, ha, hb', ⟨q0, q1⟩, B5.out⟩
end Go.Proofs.Ytccejhhhengpcaa
