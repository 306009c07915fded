/-
  The program's reader of conditions: what its cells hold; contracts of eat, add and code.
-/
import Derived.Test.YtkkhaamklbolmaaReadNum
namespace Go.Proofs.Ytkkhaamklbolmaa
open Go.RowKit Go.Sort
set_option linter.unusedVariables false
set_option linter.unusedSimpArgs false

def rdV (S : ByteArray) (s : St) (A : Option Addr) (c q : Nat) : Value := if q = 0 then .string (S.extract s.i S.size) else if q = 1 then .slice A s.L.length c else .bool s.bad
/-- block g is the program's reader of S, in state s -/
structure RdI (S : ByteArray) (B g : Nat) (w : World) (s : St) (A : Option Addr) (c : Nat) : Prop where
  base : B ≤ g
  row : Row w g 95 3 (rdV S s A c)
  own : OwnV B w 54 3 (.slice A s.L.length c) s.L.length (ndC s.L)
  ne : (Value.slice A s.L.length c).ownBlock ≠ some g
  le : s.i ≤ S.size
  max : S.size ≤ 9223372036854775807
/-- the reader came to state s; nothing below block B has turned -/
def RdE (S : ByteArray) (B g : Nat) (w w' : World) (s : St) : Prop := (∃ A c, RdI S B g w' s A c) ∧ Below B w w'
section
variable {S : ByteArray} {B g : Nat} {w : World} {s : St} {A : Option Addr} {c : Nat}
theorem RdI.c0 (h : RdI S B g w s A c) : w.cell? ⟨g, 0, none⟩ = some (.string (S.extract s.i S.size)) := h.row.cell (i := 0) (by omega)
theorem RdI.c1 (h : RdI S B g w s A c) : w.cell? ⟨g, 1, none⟩ = some (.slice A s.L.length c) := h.row.cell (i := 1) (by omega)
theorem RdI.c2 (h : RdI S B g w s A c) : w.cell? ⟨g, 2, none⟩ = some (.bool s.bad) := h.row.cell (i := 2) (by omega)
theorem RdI.lt (h : RdI S B g w s A c) : g < w.heap.size := h.row.lt
theorem RdI.fr (h : RdI S B g w s A c) (i : Nat) : w.frozen? ⟨g, i, none⟩ = false := h.row.frozen i
theorem RdI.call {w' : World} (h : RdI S B g w s A c) (hb : Below w.heap.size w w') : RdI S B g w' s A c := ⟨h.base, h.row.call hb, h.own.call hb, h.ne, h.le, h.max⟩
theorem RdI.set0 (h : RdI S B g w s A c) {i : Nat} (hi : i ≤ S.size) : RdI S B g (w.setCell ⟨g, 0, none⟩ (.string (S.extract i S.size))) ⟨i, s.L, s.bad⟩ A c :=
  ⟨h.base, (h.row.set 0 _).congr (fun q hq => by rcases (by omega : q = 0 ∨ q = 1 ∨ q = 2) with rfl | rfl | rfl <;> rfl), h.own.far (by exact h.ne) _, h.ne, hi, h.max⟩
theorem RdI.set2 (h : RdI S B g w s A c) (b : Bool) : RdI S B g (w.setCell ⟨g, 2, none⟩ (.bool b)) ⟨s.i, s.L, b⟩ A c :=
  ⟨h.base, (h.row.set 2 _).congr (fun q hq => by rcases (by omega : q = 0 ∨ q = 1 ∨ q = 2) with rfl | rfl | rfl <;> rfl), h.own.far (by exact h.ne) _, h.ne, h.le, h.max⟩
theorem below_set {B : Nat} {a b : World} {g : Nat} (h : Below B a b) (hg : B ≤ g) (i : Nat) (v : Value) : Below B a (b.setCell ⟨g, i, none⟩ v) := h.setCell hg v
end
theorem rest_size {S : ByteArray} {i : Nat} (h : i ≤ S.size) : (S.extract i S.size).size = S.size - i := by rw [ByteArray.size_extract]; omega
theorem rest_cut {S : ByteArray} {i n : Nat} (h : i + n ≤ S.size) : (S.extract i S.size).extract 0 n = S.extract i (i + n) := by
  rw [ByteArray.extract_extract]; congr 1; omega
theorem rest_on {S : ByteArray} {i n : Nat} (h : i + n ≤ S.size) : (S.extract i S.size).extract n (S.extract i S.size).size = S.extract (i + n) S.size := by
  rw [ByteArray.extract_extract, rest_size (by omega)]; congr 1; omega
theorem isAt_no {S t : ByteArray} {i : Nat} (h : ¬ i + t.size ≤ S.size) : isAt S i t = false := by unfold isAt; simp [h]
theorem isAt_eq {S t : ByteArray} {i : Nat} (h : i + t.size ≤ S.size) : isAt S i t = decide (S.extract i (i + t.size) = t) := by unfold isAt; simp [h]
set_option maxHeartbeats 1000000 in
theorem impl_eat (S : ByteArray) (B g : Nat) (w : World) (s : St) (A : Option Addr) (c : Nat) (h : RdI S B g w s A c) (t : ByteArray) (ht : t.size ≤ 10) :
    Calls Try.prog 96 #[.pointer (some ⟨g, 0, none⟩), .string t] w fun e w' => e = .returned (.bool (!s.bad && isAt S s.i t)) ∧
      (if (!s.bad && isAt S s.i t) = true then RdI S B g w' ⟨s.i + t.size, s.L, s.bad⟩ A c else RdI S B g w' s A c) ∧ Below B w w' := by
  have H := Lib.hid h
  have c0 := h.c0
  have c2 := h.c2
  have hlt := h.lt
  have hle := h.le
  have hmx := h.max
  have z0 := h.fr 0
  have hbase := h.base
  have hsz := rest_size hle
  obtain ⟨q, hq⟩ : ∃ q, q = (!s.bad && isAt S s.i t) := ⟨_, rfl⟩
  rw [← hq]
  obtain ⟨R, hR⟩ : ∃ R, R = S.extract s.i S.size := ⟨_, rfl⟩
  rw [← hR] at c0 hsz
  have HR := Lib.hid hR
  clear h hR
  by_cases hb : s.bad = true
  · obtain rfl : q = false := by rw [hq, hb]; rfl
    rw [hb] at c2
    clear hq hsz
    go_enter Try.func96, Try.ntmps96
    go_wp2_with fail
    go_ret
    exact ⟨rfl, by simpa using H.out, Below.refl _ _⟩
  · have hb : s.bad = false := by simpa using hb
    rw [hb] at c2 hq
    by_cases hl : R.size < t.size
    · have hl' : (R.size : Int) < (t.size : Int) := by omega
      obtain rfl : q = false := by rw [hq, isAt_no (by omega)]; rfl
      clear hq hsz hb
      go_enter Try.func96, Try.ntmps96
      go_wp2_with fail
      go_ret
      exact ⟨rfl, by simpa using H.out, Below.refl _ _⟩
    · have hl' : ¬ (R.size : Int) < (t.size : Int) := by omega
      have hl2 : (t.size : Int) ≤ (R.size : Int) := by omega
      have hfit : s.i + t.size ≤ S.size := by omega
      have hat := isAt_eq hfit
      rw [← rest_cut hfit, ← HR.out] at hat
      rw [hat] at hq
      by_cases he : R.extract 0 t.size = t
      · obtain rfl : q = true := by rw [hq]; simp [he]
        have hx : ((R.extract 0 t.size).toList == t.toList) = true := by rw [he]; simp
        have HB := Lib.hid hb
        clear hat he hq hsz hb
        go_enter Try.func96, Try.ntmps96
        go_wp2_with fail
        go_ret
        refine ⟨rfl, ?_, ?_⟩
        · have := H.out.set0 (i := s.i + t.size) hfit
          rw [← rest_on hfit, ← HR.out] at this
          rw [HB.out] at this
          simpa using this
        · exact below_set (Below.refl _ _) hbase _ _
      · obtain rfl : q = false := by rw [hq]; simp [he]
        have hx : ((R.extract 0 t.size).toList == t.toList) = false := txt_other he
        clear hat he hq hsz hb
        go_enter Try.func96, Try.ntmps96
        go_wp2_with fail
        go_ret
        exact ⟨rfl, by simpa using H.out, Below.refl _ _⟩
theorem RdI.put {S : ByteArray} {B g : Nat} {w : World} {s : St} {A : Option Addr} {c : Nat} (hB : B ≤ g) (hr : Row w g 95 3 (rdV S s A c)) (hle : s.i ≤ S.size) (hmx : S.size ≤ 9223372036854775807) {L : List Nd} {A' : Option Addr} {c' : Nat}
    (ho : OwnV B w 54 3 (.slice A' L.length c') L.length (ndC L)) (hne : (Value.slice A' L.length c').ownBlock ≠ some g) : RdI S B g (w.setCell ⟨g, 1, none⟩ (.slice A' L.length c')) ⟨s.i, L, s.bad⟩ A' c' :=
  ⟨hB, (hr.set 1 _).congr (fun q hq => by rcases (by omega : q = 0 ∨ q = 1 ∨ q = 2) with rfl | rfl | rfl <;> rfl), ho.far (by exact hne) _, hne, hle, hmx⟩
theorem RdI.drewN {S : ByteArray} {B g : Nat} {w : World} {s : St} {A : Option Addr} {c : Nat} (h : RdI S B g w s A c) (n : Nat) : RdI S B g (w.drewN n) s A c := h.call ⟨rfl, rfl, rfl, Nat.le_refl _, fun _ _ => rfl⟩
theorem RdI.drew {S : ByteArray} {B g : Nat} {w : World} {s : St} {A : Option Addr} {c : Nat} (h : RdI S B g w s A c) : RdI S B g w.drew s A c := h.call (Below.refl _ _).drew
theorem RdI.alloc {S : ByteArray} {B g : Nat} {w : World} {s : St} {A : Option Addr} {c : Nat} (h : RdI S B g w s A c) (o : Obj) : RdI S B g (w.alloc o) s A c := h.call ((Below.refl _ _).alloc (Nat.le_refl _) _)
set_option maxRecDepth 20000 in
set_option maxHeartbeats 2000000 in
theorem impl_add (S : ByteArray) (B g : Nat) (w : World) (s : St) (A : Option Addr) (c : Nat) (h : RdI S B g w s A c) (x : Nd) (hn : s.L.length ≤ 1000) :
    Calls Try.prog 97 #[.pointer (some ⟨g, 0, none⟩), .agg #[.int .i64 x.1, .string x.2.1, .string x.2.2]] w fun e w' => e = .returned (.tuple #[]) ∧ RdE S B g w w' (iAdd s x) := by
  obtain ⟨i0, hi0, hz0, hs0, hb0⟩ := info_parts condNode_info
  obtain ⟨x0, x1, x2⟩ := x
  have H := Lib.hid h
  have c1 := h.c1
  have hlt := h.lt
  have z1 := h.fr 1
  have hbase := h.base
  have VO := Lib.hid h.own
  have NE := Lib.hid h.ne
  have EL : (s.L ++ [(x0, x1, x2)]).length = s.L.length + 1 := by simp
  have RW := Lib.hid (h.row.alloc (.cells #[.int .i64 x0, .string x1, .string x2] 54))
  have hle := h.le
  have hmx := h.max
  clear h
  by_cases hbig : (30 : Int) < (s.L.length : Int) + 1
  all_goals
    go_enter Try.func97, Try.ntmps97
    go_wp2_with fail
    go_region_law ((refine step_appS (w.alloc (.cells #[.int .i64 x0, .string x1, .string x2] 54)) rfl _ _ 25 rfl (B := B) (i := i0) (z := .agg #[.int .i64 0, .string ByteArray.empty, .string ByteArray.empty]) (s := 3) (bytes := 40) (F := ndC (s.L ++ [(x0, x1, x2)])) (v := .slice A s.L.length c) (n := s.L.length) (xs := #[.int .i64 x0, .string x1, .string x2]) Try.underlying25 hi0 hz0 hs0 hb0 rfl (by decide) rfl ((VO.out.alloc _).congr (fun a b ha hb => ndC_app s.L [(x0, x1, x2)] ha)) (by simp; omega) ⟨rfl, rfl, rfl, rfl⟩ (by show Value.slice (some ⟨w.heap.size + 1, 0, none⟩) 1 1 = _; simp) (fun q hq => by rw [ndC_last]; rcases (by omega : q = 0 ∨ q = 1 ∨ q = 2) with rfl | rfl | rfl <;> rfl) (fun q hq => ndC_one _ _ _) (by omega) (by decide) ?_; intro v7 w7 hv7 hg7 hb7; obtain ⟨A7, p7, rfl, _, _⟩ := hv7.slice; have V7 := Lib.hid hv7; have R7 := Lib.hid (RW.out.own hg7 NE.out); have N7 := Lib.hid (show (Value.slice A7 (s.L.length + 1) p7).ownBlock ≠ some g from fun e => by (rcases hb7 with k | ⟨k, k1, k2⟩; exact NE.out (by rw [← k]; exact e); rw [k1] at e; injection e with e; simp at k2; omega)); have B7 := Lib.hid (below_own (B := B) ((Below.refl B w).alloc (by omega) _) hg7 (fun r hr => (VO.out.lt hr).1) (by simp; omega)); have z7 := R7.out.frozen 1; have k7 : w7.cell? ⟨g, 1, none⟩ = some (.slice A s.L.length c) := R7.out.cell (i := 1) (by omega); have k72 : w7.cell? ⟨g, 2, none⟩ = some (.bool s.bad) := R7.out.cell (i := 2) (by omega); have z72 := R7.out.frozen 2; have l7 := R7.out.lt; clear hv7 hg7 hb7))
    all_goals
      go_wp2_with fail
      go_end0
      refine ⟨rfl, ⟨A7, p7, ?_⟩, ?_⟩
      · have hp := RdI.put (L := s.L ++ [(x0, x1, x2)]) (A' := A7) (c' := p7) hbase R7.out hle hmx (by rw [EL]; exact V7.out) (by rw [EL]; exact N7.out)
        rw [EL] at hp
        first
          | (have e : iAdd s (x0, x1, x2) = ⟨s.i, s.L ++ [(x0, x1, x2)], true⟩ := (by unfold iAdd; rw [decide_eq_true (show 30 < s.L.length + 1 by omega), Bool.or_true])
             rw [e]; exact hp.set2 true)
          | (have e : iAdd s (x0, x1, x2) = ⟨s.i, s.L ++ [(x0, x1, x2)], s.bad⟩ := (by unfold iAdd; rw [decide_eq_false (show ¬ 30 < s.L.length + 1 by omega), Bool.or_false])
             rw [e]; exact hp)
      · first
          | exact below_set (below_set B7.out hbase _ _) hbase _ _
          | exact below_set B7.out hbase _ _
theorem byt_rest {S : ByteArray} {i k : Nat} (hi : i ≤ S.size) (hk : k < (S.extract i S.size).size) : byt (S.extract i S.size) k = byt S (i + k) := by
  rw [byt_lt hk, byt_lt (by rw [rest_size hi] at hk; omega)]
  simp [ByteArray.getElem_extract]
theorem isW_le {S : ByteArray} {k : Nat} (h : isW S k) : k < S.size := by
  by_cases hk : k < S.size
  · exact hk
  · unfold isW byt at h; rw [dif_neg hk] at h; omega
set_option maxRecDepth 20000 in
set_option maxHeartbeats 2000000 in
theorem impl_code (S : ByteArray) (B g : Nat) (w : World) (s : St) (A : Option Addr) (c : Nat) (h : RdI S B g w s A c) :
    Calls Try.prog 108 #[.pointer (some ⟨g, 0, none⟩)] w fun e w' => ∃ j, WEnd S s.i j ∧ e = .returned (.string (S.extract s.i j)) ∧
      RdI S B g w' ⟨j, s.L, s.bad || !isC (S.extract s.i j)⟩ A c ∧ Below B w w' := by
  have H := Lib.hid h
  have c0 := h.c0
  have c2 := h.c2
  have hlt := h.lt
  have hle := h.le
  have hmx := h.max
  have z0 := h.fr 0
  have z2 := h.fr 2
  have hbase := h.base
  have hsz := Lib.hid (rest_size hle)
  have hby := Lib.hid (fun k => byt_rest (S := S) (i := s.i) (k := k) hle)
  obtain ⟨R, hR⟩ : ∃ R, R = S.extract s.i S.size := ⟨_, rfl⟩
  rw [← hR] at c0 hsz hby
  have HR := Lib.hid hR
  have hrm : R.size ≤ 9223372036854775807 := by have := hsz.out; omega
  clear h hR
  go_enter Try.func108, Try.ntmps108
  go_wp2_with fail
  go_loop [3] (fun i => ∃ k : Nat, k ≤ R.size ∧ i = .int .i64 (k : Int) ∧ Hid (∀ j, j < k → isW S (s.i + j))) (fun i => R.size - (intOf i).toNat)
  case atStart => exact ⟨0, Nat.zero_le _, rfl, Lib.hid (fun j hj => absurd hj (by omega))⟩
  case round =>
    obtain ⟨k, hk, rfl, HK⟩ := hrel
    have FIN : ¬ isW S (s.i + k) → WEnd S s.i (s.i + k) := fun hn => ⟨by omega, by have := hsz.out; omega, fun j h1 h2 => (by have := HK.out (j - s.i) (by omega); rwa [show s.i + (j - s.i) = j from by omega] at this), fun _ => hn⟩
    have FN := Lib.hid FIN
    have hcut := rest_cut (S := S) (i := s.i) (n := k) (by have := hsz.out; omega)
    have hon := rest_on (S := S) (i := s.i) (n := k) (by have := hsz.out; omega)
    rw [← HR.out] at hcut hon
    have HC := Lib.hid hcut
    have HO := Lib.hid hon
    have hcs : (R.extract 0 k).size ≤ 9223372036854775807 := by rw [ByteArray.size_extract]; omega
    have hki : s.i + k ≤ S.size := by have := hsz.out; omega
    have hk' : (k : Int) ≤ (R.size : Int) := by omega
    have HS := Lib.hid hki
    clear FIN hcut hon hki
    by_cases hlt2 : k < R.size
    · have hlt' : (k : Int) < (R.size : Int) := by omega
      have hb := byt_bd R k
      have he := byt_lt hlt2
      rw [he] at hb
      have hw : isW S (s.i + k) ↔ ((65 ≤ (R[k].toNat : Int) ∧ (R[k].toNat : Int) ≤ 90) ∨ (48 ≤ (R[k].toNat : Int) ∧ (R[k].toNat : Int) ≤ 57) ∨ (R[k].toNat : Int) = 45) := by
        have e := hby.out k hlt2
        rw [he] at e
        rw [e]; rfl
      have HW := Lib.hid hw
      clear he hw
      by_cases hup : 65 ≤ (R[k].toNat : Int) ∧ (R[k].toNat : Int) ≤ 90
      · obtain ⟨u1, u2⟩ := hup
        have hall : ∀ j, j < k + 1 → isW S (s.i + j) := fun j hj => by
          by_cases e : j = k
          · subst e; exact HW.out.2 (.inl ⟨u1, u2⟩)
          · exact HK.out j (by omega)
        have HA := Lib.hid hall
        clear hall
        go_wp2_with fail
        go_round
        case rel => exact ⟨k + 1, by omega, by go_num, HA⟩
        case measure => simp [intOf]; omega
      by_cases hdg : 48 ≤ (R[k].toNat : Int) ∧ (R[k].toNat : Int) ≤ 57
      · obtain ⟨d1, d2⟩ := hdg
        have h1' : ¬ 65 ≤ (R[k].toNat : Int) := by omega
        have hall : ∀ j, j < k + 1 → isW S (s.i + j) := fun j hj => by
          by_cases e : j = k
          · subst e; exact HW.out.2 (.inr (.inl ⟨d1, d2⟩))
          · exact HK.out j (by omega)
        have HA := Lib.hid hall
        clear hall hup
        go_wp2_with fail
        go_round
        case rel => exact ⟨k + 1, by omega, by go_num, HA⟩
        case measure => simp [intOf]; omega
      by_cases hda : (R[k].toNat : Int) = 45
      · have h1' : ¬ 65 ≤ (R[k].toNat : Int) := by omega
        have h2' : ¬ 48 ≤ (R[k].toNat : Int) := by omega
        have h6 : ((R[k].toNat : Int) == 45) = true := by simp [hda]
        have hall : ∀ j, j < k + 1 → isW S (s.i + j) := fun j hj => by
          by_cases e : j = k
          · subst e; exact HW.out.2 (.inr (.inr hda))
          · exact HK.out j (by omega)
        have HA := Lib.hid hall
        clear hall hup hda hdg
        go_wp2_with fail
        go_round
        case rel => exact ⟨k + 1, by omega, by go_num, HA⟩
        case measure => simp [intOf]; omega
      have hend := Lib.hid (FN.out (fun e => by have := HW.out.1 e; omega))
      have h6 : ((R[k].toNat : Int) == 45) = false := by simp [hda]
      clear hda HW FN
      rcases (by omega : ((R[k].toNat : Int) < 48) ∨ (57 < (R[k].toNat : Int) ∧ (R[k].toNat : Int) < 65) ∨ 90 < (R[k].toNat : Int)) with q | q | q
      · have h1' : ¬ 65 ≤ (R[k].toNat : Int) := by omega
        have h2' : ¬ 48 ≤ (R[k].toNat : Int) := by omega
        clear hup hdg
        cases hq : isC (R.extract 0 k)
        all_goals
          have HQ := Lib.hid hq
          clear hq
          go_wp2_with fail
          refine (impl_isCode _ _ hcs).mono ?_
          rintro e w2 ⟨rfl, hw2⟩
          subst hw2
          rw [HQ.out]
          go_wp2_with fail
          go_ret
          refine ⟨s.i + k, hend.out, congrArg (fun x => Ending.returned (.string x)) HC.out, ?_, ?_⟩
          · first
              | (have hp := (H.out.set2 true).set0 (i := s.i + k) HS.out
                 rw [← HO.out] at hp
                 rw [← HC.out, HQ.out]
                 simpa using hp)
              | (have hp := H.out.set0 (i := s.i + k) HS.out
                 rw [← HO.out] at hp
                 rw [← HC.out, HQ.out]
                 simpa using hp)
          · first
              | exact below_set (below_set (Below.refl _ _) hbase _ _) hbase _ _
              | exact below_set (Below.refl _ _) hbase _ _
      · have h1' : ¬ 65 ≤ (R[k].toNat : Int) := by omega
        have h2' : 48 ≤ (R[k].toNat : Int) := by omega
        have h3' : ¬ (R[k].toNat : Int) ≤ 57 := by omega
        clear hup hdg
        cases hq : isC (R.extract 0 k)
        all_goals
          have HQ := Lib.hid hq
          clear hq
          go_wp2_with fail
          refine (impl_isCode _ _ hcs).mono ?_
          rintro e w2 ⟨rfl, hw2⟩
          subst hw2
          rw [HQ.out]
          go_wp2_with fail
          go_ret
          refine ⟨s.i + k, hend.out, congrArg (fun x => Ending.returned (.string x)) HC.out, ?_, ?_⟩
          · first
              | (have hp := (H.out.set2 true).set0 (i := s.i + k) HS.out
                 rw [← HO.out] at hp
                 rw [← HC.out, HQ.out]
                 simpa using hp)
              | (have hp := H.out.set0 (i := s.i + k) HS.out
                 rw [← HO.out] at hp
                 rw [← HC.out, HQ.out]
                 simpa using hp)
          · first
              | exact below_set (below_set (Below.refl _ _) hbase _ _) hbase _ _
              | exact below_set (Below.refl _ _) hbase _ _
      · have h1' : 65 ≤ (R[k].toNat : Int) := by omega
        have h4' : ¬ (R[k].toNat : Int) ≤ 90 := by omega
        have h2' : 48 ≤ (R[k].toNat : Int) := by omega
        have h3' : ¬ (R[k].toNat : Int) ≤ 57 := by omega
        clear hup hdg
        cases hq : isC (R.extract 0 k)
        all_goals
          have HQ := Lib.hid hq
          clear hq
          go_wp2_with fail
          refine (impl_isCode _ _ hcs).mono ?_
          rintro e w2 ⟨rfl, hw2⟩
          subst hw2
          rw [HQ.out]
          go_wp2_with fail
          go_ret
          refine ⟨s.i + k, hend.out, congrArg (fun x => Ending.returned (.string x)) HC.out, ?_, ?_⟩
          · first
              | (have hp := (H.out.set2 true).set0 (i := s.i + k) HS.out
                 rw [← HO.out] at hp
                 rw [← HC.out, HQ.out]
                 simpa using hp)
              | (have hp := H.out.set0 (i := s.i + k) HS.out
                 rw [← HO.out] at hp
                 rw [← HC.out, HQ.out]
                 simpa using hp)
          · first
              | exact below_set (below_set (Below.refl _ _) hbase _ _) hbase _ _
              | exact below_set (Below.refl _ _) hbase _ _
    · have hend := Lib.hid (FN.out (fun e => by have := isW_le e; have := hsz.out; omega))
      have hlt' : ¬ (k : Int) < (R.size : Int) := by omega
      clear FN
      cases hq : isC (R.extract 0 k)
      all_goals
        have HQ := Lib.hid hq
        clear hq
        go_wp2_with fail
        refine (impl_isCode _ _ hcs).mono ?_
        rintro e w2 ⟨rfl, hw2⟩
        subst hw2
        rw [HQ.out]
        go_wp2_with fail
        go_ret
        refine ⟨s.i + k, hend.out, congrArg (fun x => Ending.returned (.string x)) HC.out, ?_, ?_⟩
        · first
            | (have hp := (H.out.set2 true).set0 (i := s.i + k) HS.out
               rw [← HO.out] at hp
               rw [← HC.out, HQ.out]
               simpa using hp)
            | (have hp := H.out.set0 (i := s.i + k) HS.out
               rw [← HO.out] at hp
               rw [← HC.out, HQ.out]
               simpa using hp)
        · first
            | exact below_set (below_set (Below.refl _ _) hbase _ _) hbase _ _
            | exact below_set (Below.refl _ _) hbase _ _
end Go.Proofs.Ytkkhaamklbolmaa
