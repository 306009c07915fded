/-
  Contracts of the reference's l6Format, and of FormatCond. (Printed by gen/format3.py.)
-/
import Derived.Test.YtkkhaamklbolmaaFormat2
import Derived.Test.YtkkhaamklbolmaaOptions
namespace Go.Proofs.Ytkkhaamklbolmaa
open Go.RowKit Go.Sort
set_option linter.unusedVariables false
set_option linter.unusedSimpArgs false

theorem l6Level_any (w : World) (t : Cnd) : Calls Try.prog 89 #[.int .i64 t.kind] w fun e w' => e = .returned (.int .i64 t.lvl) ∧ w' = w := by
  cases t with
  | tt =>
    show Calls _ _ #[.int .i64 0] w _
    go_enter Try.func89, Try.ntmps89
    go_wp2_with fail
    go_ret
    exact ⟨rfl, rfl⟩
  | is o v =>
    show Calls _ _ #[.int .i64 1] w _
    go_enter Try.func89, Try.ntmps89
    go_wp2_with fail
    go_ret
    exact ⟨rfl, rfl⟩
  | no a =>
    show Calls _ _ #[.int .i64 2] w _
    go_enter Try.func89, Try.ntmps89
    go_wp2_with fail
    go_ret
    exact ⟨rfl, rfl⟩
  | bin x a b =>
    cases x
    · show Calls _ _ #[.int .i64 4] w _
      go_enter Try.func89, Try.ntmps89
      go_wp2_with fail
      go_ret
      exact ⟨rfl, rfl⟩
    · show Calls _ _ #[.int .i64 3] w _
      go_enter Try.func89, Try.ntmps89
      go_wp2_with fail
      go_ret
      exact ⟨rfl, rfl⟩
set_option maxRecDepth 20000 in
set_option maxHeartbeats 4000000 in
theorem l6Format_any (A : Option Addr) (n c : Nat) (kd : Nat → Int) (op vl : Nat → ByteArray) (hn : n ≤ 30) (hall : ∀ j, j < n → kd j = 0 ∨ kd j = 1 ∨ kd j = 2 ∨ kd j = 3 ∨ kd j = 4) (t : Cnd) : ∀ {s i : Nat}, Sub kd op vl s (i + 1) t → i < n → ∀ (least : Int) (w : World), CondNodeF w A n c kd op vl →
    Calls Try.prog 61 #[.slice A n c, .int .i64 (i : Int), .int .i64 least] w fun e w' => e = .returned (.string (t.fmt least)) ∧ Below w.heap.size w w' := by
  induction t with
  | tt =>
    intro s i hs hi least w h
    have hk := hs.kind
    have hi' : (i : Int) < (n : Int) := by omega
    obtain ⟨b, o, rfl, hB, c0, c1, c2⟩ := h.cells hi
    rw [hk] at c0
    simp only [Cnd.kind] at c0
    have hTX : Cnd.tt.txt = ⟨#[84, 82, 85, 69]⟩ := rfl
    have sz0 : (⟨#[84, 82, 85, 69]⟩ : ByteArray).size ≤ 900 := by decide
    obtain ⟨S, hS⟩ : ∃ S, S = (⟨#[84, 82, 85, 69]⟩ : ByteArray) := ⟨_, rfl⟩
    have hSz : S.size ≤ 900 := by rw [hS]; exact sz0
    have b1 := fun W => run_string_add_sum (P := Try.prog) W ⟨#[40]⟩ S (by show 1 + S.size ≤ _; omega)
    have b2 := fun W => run_string_add_sum (P := Try.prog) W (⟨#[40]⟩ ++ S) ⟨#[41]⟩ (by rw [ByteArray.size_append]; show 1 + S.size + 1 ≤ _; omega)
    have fb := fun h => fmt_bare (t := Cnd.tt) (least := least) h
    have fp := fun h => fmt_par (t := Cnd.tt) (least := least) h
    rw [show (Cnd.tt).txt = S from hTX.trans hS.symm] at fb fp
    have lv0 : ∀ W : World, Calls Try.prog 89 #[.int .i64 0] W fun e w' => e = .returned (.int .i64 3) ∧ w' = W := fun W => l6Level_any W (Cnd.tt)
    have LV := Lib.hid lv0
    clear lv0
    have FB := Lib.hid (show ¬ (3 : Int) < least → (Cnd.tt).fmt least = S from fb)
    have FP := Lib.hid (show (3 : Int) < least → (Cnd.tt).fmt least = ⟨#[40]⟩ ++ S ++ ⟨#[41]⟩ from fp)
    generalize (Cnd.tt).fmt least = R at *
    have hS2 : (⟨#[84, 82, 85, 69]⟩ : ByteArray) = S := hS.symm
    subst hS2
    clear fb fp hTX sz0
    by_cases hl : (3 : Int) < least
    case pos =>
      rw [FP.out hl]
      have HL := Lib.hid hl
      clear hl
      go_enter Try.func61, Try.ntmps61
      go_wp2_with fail
      refine (LV.out _).mono ?_; rintro e w9 ⟨rfl, hw9⟩; obtain rfl := hw9.symm
      have hl1 := HL.out
      go_wp2_with fail
      go_ret
      exact ⟨rfl, by repeat' (first | (with_reducible exact Below.refl _ _) | assumption | (with_reducible refine below_then (by assumption) ?_ ?_) | (with_reducible refine Below.alloc ?_ ?_ _) | (with_reducible refine below_drewN ?_ _) | (with_reducible refine Below.drew ?_) | (with_reducible refine Below.setCell ?_ ?_ _) | (have := h.size; simp at *; omega) | omega | (simp; done) | (simp; omega))⟩
    case neg =>
      rw [FB.out hl]
      have HL := Lib.hid hl
      clear hl
      go_enter Try.func61, Try.ntmps61
      go_wp2_with fail
      refine (LV.out _).mono ?_; rintro e w9 ⟨rfl, hw9⟩; obtain rfl := hw9.symm
      have hl1 := HL.out
      go_wp2_with fail
      go_ret
      exact ⟨rfl, by repeat' (first | (with_reducible exact Below.refl _ _) | assumption | (with_reducible refine below_then (by assumption) ?_ ?_) | (with_reducible refine Below.alloc ?_ ?_ _) | (with_reducible refine below_drewN ?_ _) | (with_reducible refine Below.drew ?_) | (with_reducible refine Below.setCell ?_ ?_ _) | (have := h.size; simp at *; omega) | omega | (simp; done) | (simp; omega))⟩
  | is oo vv =>
    intro s i hs hi least w h
    have hk := hs.kind
    have hi' : (i : Int) < (n : Int) := by omega
    obtain ⟨b, o, rfl, hB, c0, c1, c2⟩ := h.cells hi
    rw [hk] at c0
    simp only [Cnd.kind] at c0
    obtain ⟨e1, e2, z1, z2⟩ : op i = oo ∧ vl i = vv ∧ oo.size ≤ 8 ∧ vv.size ≤ 8 := by
      cases hs with
      | is h ho hv => exact ⟨rfl, rfl, (isC_iff.1 ho).2.1, (isC_iff.1 hv).2.1⟩
    rw [e1] at c1
    rw [e2] at c2
    have a1 := fun W => run_string_add_sum (P := Try.prog) W oo ⟨#[61]⟩ (by show oo.size + 1 ≤ _; omega)
    have hTX : (Cnd.is oo vv).txt = (oo ++ ⟨#[61]⟩) ++ vv := rfl
    have sz0 : ((oo ++ ⟨#[61]⟩) ++ vv : ByteArray).size ≤ 900 := by rw [ByteArray.size_append, ByteArray.size_append]; show oo.size + 1 + vv.size ≤ _; omega
    have a2 : ∀ W : World, (Op.stringOp .add (oo ++ ⟨#[61]⟩) vv).run Try.prog W = .ok (.string ((oo ++ ⟨#[61]⟩) ++ vv)) W := fun W => run_string_add_sum (P := Try.prog) W (oo ++ ⟨#[61]⟩) vv (by rw [ByteArray.size_append]; show oo.size + 1 + vv.size ≤ _; omega)
    obtain ⟨S, hS⟩ : ∃ S, S = (oo ++ ⟨#[61]⟩) ++ vv := ⟨_, rfl⟩
    have hSz : S.size ≤ 900 := by rw [hS]; exact sz0
    have b1 := fun W => run_string_add_sum (P := Try.prog) W ⟨#[40]⟩ S (by show 1 + S.size ≤ _; omega)
    have b2 := fun W => run_string_add_sum (P := Try.prog) W (⟨#[40]⟩ ++ S) ⟨#[41]⟩ (by rw [ByteArray.size_append]; show 1 + S.size + 1 ≤ _; omega)
    have fb := fun h => fmt_bare (t := (Cnd.is oo vv)) (least := least) h
    have fp := fun h => fmt_par (t := (Cnd.is oo vv)) (least := least) h
    rw [show ((Cnd.is oo vv)).txt = S from hTX.trans hS.symm] at fb fp
    have lv0 : ∀ W : World, Calls Try.prog 89 #[.int .i64 1] W fun e w' => e = .returned (.int .i64 3) ∧ w' = W := fun W => l6Level_any W ((Cnd.is oo vv))
    have LV := Lib.hid lv0
    clear lv0
    have FB := Lib.hid (show ¬ (3 : Int) < least → ((Cnd.is oo vv)).fmt least = S from fb)
    have FP := Lib.hid (show (3 : Int) < least → ((Cnd.is oo vv)).fmt least = ⟨#[40]⟩ ++ S ++ ⟨#[41]⟩ from fp)
    generalize ((Cnd.is oo vv)).fmt least = R at *
    rw [← hS] at a2
    clear fb fp hS hTX sz0
    by_cases hl : (3 : Int) < least
    case pos =>
      rw [FP.out hl]
      have HL := Lib.hid hl
      clear hl
      go_enter Try.func61, Try.ntmps61
      go_wp2_with fail
      refine (LV.out _).mono ?_; rintro e w9 ⟨rfl, hw9⟩; obtain rfl := hw9.symm
      have hl1 := HL.out
      go_wp2_with fail
      go_ret
      exact ⟨rfl, by repeat' (first | (with_reducible exact Below.refl _ _) | assumption | (with_reducible refine below_then (by assumption) ?_ ?_) | (with_reducible refine Below.alloc ?_ ?_ _) | (with_reducible refine below_drewN ?_ _) | (with_reducible refine Below.drew ?_) | (with_reducible refine Below.setCell ?_ ?_ _) | (have := h.size; simp at *; omega) | omega | (simp; done) | (simp; omega))⟩
    case neg =>
      rw [FB.out hl]
      have HL := Lib.hid hl
      clear hl
      go_enter Try.func61, Try.ntmps61
      go_wp2_with fail
      refine (LV.out _).mono ?_; rintro e w9 ⟨rfl, hw9⟩; obtain rfl := hw9.symm
      have hl1 := HL.out
      go_wp2_with fail
      go_ret
      exact ⟨rfl, by repeat' (first | (with_reducible exact Below.refl _ _) | assumption | (with_reducible refine below_then (by assumption) ?_ ?_) | (with_reducible refine Below.alloc ?_ ?_ _) | (with_reducible refine below_drewN ?_ _) | (with_reducible refine Below.drew ?_) | (with_reducible refine Below.setCell ?_ ?_ _) | (have := h.size; simp at *; omega) | omega | (simp; done) | (simp; omega))⟩
  | no a ih =>
    intro s i hs hi least w h
    have hk := hs.kind
    have hi' : (i : Int) < (n : Int) := by omega
    obtain ⟨b, o, rfl, hB, c0, c1, c2⟩ := h.cells hi
    rw [hk] at c0
    simp only [Cnd.kind] at c0
    obtain ⟨j, rfl, ha⟩ : ∃ j, i = j + 1 ∧ Sub kd op vl s (j + 1) a := by
      cases hs with
      | no r h => have := r.lt; exact ⟨i - 1, by omega, by rw [show i - 1 + 1 = i by omega]; exact r⟩
    have IH := Lib.hid (fun (W : World) (hW : CondNodeF W (some ⟨b, o, none⟩) n c kd op vl) => ih ha (by omega) 3 W hW)
    have hz := ha.fmtSize 3
    obtain ⟨U, hU⟩ : ∃ U, U = a.fmt 3 := ⟨_, rfl⟩
    have hTX : (Cnd.no a).txt = ⟨#[33]⟩ ++ U := by rw [hU]; rfl
    rw [← hU] at IH hz
    have sz0 : ((⟨#[33]⟩ : ByteArray) ++ U).size ≤ 900 := by rw [ByteArray.size_append]; show 1 + U.size ≤ _; omega
    have a1 : ∀ W : World, (Op.stringOp .add ⟨#[33]⟩ U).run Try.prog W = .ok (.string (⟨#[33]⟩ ++ U)) W := fun W => run_string_add_sum (P := Try.prog) W ⟨#[33]⟩ U (by show 1 + U.size ≤ _; omega)
    have hj1 : ((j + 1 : Nat) : Int) - 1 = (j : Int) := by omega
    have HX := Lib.hid (h.call (show Below w.heap.size w (w.alloc (.cells #[.int .i64 2, .string (op (j + 1)), .string (vl (j + 1))] 54)) from (Below.refl _ _).alloc (Nat.le_refl _) _))
    obtain ⟨S, hS⟩ : ∃ S, S = (⟨#[33]⟩ : ByteArray) ++ U := ⟨_, rfl⟩
    have hSz : S.size ≤ 900 := by rw [hS]; exact sz0
    have b1 := fun W => run_string_add_sum (P := Try.prog) W ⟨#[40]⟩ S (by show 1 + S.size ≤ _; omega)
    have b2 := fun W => run_string_add_sum (P := Try.prog) W (⟨#[40]⟩ ++ S) ⟨#[41]⟩ (by rw [ByteArray.size_append]; show 1 + S.size + 1 ≤ _; omega)
    have fb := fun h => fmt_bare (t := (Cnd.no a)) (least := least) h
    have fp := fun h => fmt_par (t := (Cnd.no a)) (least := least) h
    rw [show ((Cnd.no a)).txt = S from hTX.trans hS.symm] at fb fp
    have lv0 : ∀ W : World, Calls Try.prog 89 #[.int .i64 2] W fun e w' => e = .returned (.int .i64 3) ∧ w' = W := fun W => l6Level_any W ((Cnd.no a))
    have LV := Lib.hid lv0
    clear lv0
    have FB := Lib.hid (show ¬ (3 : Int) < least → ((Cnd.no a)).fmt least = S from fb)
    have FP := Lib.hid (show (3 : Int) < least → ((Cnd.no a)).fmt least = ⟨#[40]⟩ ++ S ++ ⟨#[41]⟩ from fp)
    generalize ((Cnd.no a)).fmt least = R at *
    rw [← hS] at a1
    clear hk h hs hU ih ha
    clear fb fp hS hTX sz0
    by_cases hl : (3 : Int) < least
    case pos =>
      rw [FP.out hl]
      have HL := Lib.hid hl
      clear hl
      go_enter Try.func61, Try.ntmps61
      go_wp2_with fail
      refine (IH.out _ HX.out).mono ?_; rintro e w1 ⟨rfl, h1⟩
      have y0 : w1.cell? ⟨w.heap.size, 0, none⟩ = some (.int .i64 2) := by rw [h1.cell (p := ⟨w.heap.size, 0, none⟩) (by simp)]; simp [go_sem]
      have B1 := Lib.hid (show Below w.heap.size w w1 from ((Below.refl _ _).alloc (Nat.le_refl _) _).trans (h1.mono (by simp)))
      clear h1
      go_wp2_with fail
      refine (LV.out _).mono ?_; rintro e w9 ⟨rfl, hw9⟩; obtain rfl := hw9.symm
      have hl1 := HL.out
      go_wp2_with fail
      go_ret
      exact ⟨rfl, B1.out⟩
    case neg =>
      rw [FB.out hl]
      have HL := Lib.hid hl
      clear hl
      go_enter Try.func61, Try.ntmps61
      go_wp2_with fail
      refine (IH.out _ HX.out).mono ?_; rintro e w1 ⟨rfl, h1⟩
      have y0 : w1.cell? ⟨w.heap.size, 0, none⟩ = some (.int .i64 2) := by rw [h1.cell (p := ⟨w.heap.size, 0, none⟩) (by simp)]; simp [go_sem]
      have B1 := Lib.hid (show Below w.heap.size w w1 from ((Below.refl _ _).alloc (Nat.le_refl _) _).trans (h1.mono (by simp)))
      clear h1
      go_wp2_with fail
      refine (LV.out _).mono ?_; rintro e w9 ⟨rfl, hw9⟩; obtain rfl := hw9.symm
      have hl1 := HL.out
      go_wp2_with fail
      go_ret
      exact ⟨rfl, B1.out⟩
  | bin x a b iha ihb =>
    intro s i hs hi least w h
    have hk := hs.kind
    have hi' : (i : Int) < (n : Int) := by omega
    obtain ⟨bb, o, rfl, hB, c0, c1, c2⟩ := h.cells hi
    rw [hk] at c0
    simp only [Cnd.kind] at c0
    obtain ⟨j, m, rfl, ha, hb⟩ : ∃ j m, i = j + 1 ∧ Sub kd op vl s (m + 1) a ∧ Sub kd op vl (m + 1) (j + 1) b := by
      cases hs with
      | bin r q h =>
        rename_i m
        have := r.lt; have := q.lt
        exact ⟨i - 1, m - 1, by omega, by rw [show m - 1 + 1 = m by omega]; exact r, by rw [show i - 1 + 1 = i by omega, show m - 1 + 1 = m by omega]; exact q⟩
    have lb := hb.lt
    have STA := Lib.hid (fun (W : World) (hW : CondNodeF W (some ⟨bb, o, none⟩) n c kd op vl) => l6Start_any W (some ⟨bb, o, none⟩) n c kd op vl hW hn hall hb (by omega))
    have IHA := Lib.hid (fun (l : Int) (W : World) (hW : CondNodeF W (some ⟨bb, o, none⟩) n c kd op vl) => iha ha (by omega) l W hW)
    have IHB := Lib.hid (fun (l : Int) (W : World) (hW : CondNodeF W (some ⟨bb, o, none⟩) n c kd op vl) => ihb hb (by omega) l W hW)
    have hza := fun l => ha.fmtSize l
    have hzb := fun l => hb.fmtSize l
    have hj1 : ((j + 1 : Nat) : Int) - 1 = (j : Int) := by omega
    have hm1 : ((m + 1 : Nat) : Int) - 1 = (m : Int) := by omega
    have uj : IntKind.i64.wrap (j : Int) = (j : Int) := IntWalk.i64_in _ ⟨by omega, by omega⟩
    have um : IntKind.i64.wrap (m : Int) = (m : Int) := IntWalk.i64_in _ ⟨by omega, by omega⟩
    cases x
    · have c0' : w.cell? ⟨bb, o + (j + 1) * 3, none⟩ = some (.int .i64 4) := c0
      have FA := Lib.hid (IHA.out 1)
      have FBB := Lib.hid (IHB.out 2)
      have za := hza 1
      have zb := hzb 2
      obtain ⟨U, hU⟩ : ∃ U, U = a.fmt 1 := ⟨_, rfl⟩
      obtain ⟨V, hV⟩ : ∃ V, V = b.fmt 2 := ⟨_, rfl⟩
      have hTX : (Cnd.bin false a b).txt = (U ++ ⟨#[32, 124, 32]⟩) ++ V := by rw [hU, hV]; rfl
      rw [← hU] at FA za
      rw [← hV] at FBB zb
      have a1 := fun W => run_string_add_sum (P := Try.prog) W U ⟨#[32, 124, 32]⟩ (by show U.size + 3 ≤ _; omega)
      have sz0 : ((U ++ ⟨#[32, 124, 32]⟩) ++ V : ByteArray).size ≤ 900 := by rw [ByteArray.size_append, ByteArray.size_append]; show U.size + 3 + V.size ≤ _; omega
      have a2 : ∀ W : World, (Op.stringOp .add (U ++ ⟨#[32, 124, 32]⟩) V).run Try.prog W = .ok (.string ((U ++ ⟨#[32, 124, 32]⟩) ++ V)) W := fun W => run_string_add_sum (P := Try.prog) W (U ++ ⟨#[32, 124, 32]⟩) V (by rw [ByteArray.size_append]; show U.size + 3 + V.size ≤ _; omega)
      have HX := Lib.hid (h.call (show Below w.heap.size w (w.alloc (.cells #[.int .i64 4, .string (op (j + 1)), .string (vl (j + 1))] 54)) from (Below.refl _ _).alloc (Nat.le_refl _) _))
      obtain ⟨S, hS⟩ : ∃ S, S = (U ++ ⟨#[32, 124, 32]⟩) ++ V := ⟨_, rfl⟩
      have hSz : S.size ≤ 900 := by rw [hS]; exact sz0
      have b1 := fun W => run_string_add_sum (P := Try.prog) W ⟨#[40]⟩ S (by show 1 + S.size ≤ _; omega)
      have b2 := fun W => run_string_add_sum (P := Try.prog) W (⟨#[40]⟩ ++ S) ⟨#[41]⟩ (by rw [ByteArray.size_append]; show 1 + S.size + 1 ≤ _; omega)
      have fb := fun h => fmt_bare (t := (Cnd.bin false a b)) (least := least) h
      have fp := fun h => fmt_par (t := (Cnd.bin false a b)) (least := least) h
      rw [show ((Cnd.bin false a b)).txt = S from hTX.trans hS.symm] at fb fp
      have lv0 : ∀ W : World, Calls Try.prog 89 #[.int .i64 4] W fun e w' => e = .returned (.int .i64 1) ∧ w' = W := fun W => l6Level_any W ((Cnd.bin false a b))
      have LV := Lib.hid lv0
      clear lv0
      have FB := Lib.hid (show ¬ (1 : Int) < least → ((Cnd.bin false a b)).fmt least = S from fb)
      have FP := Lib.hid (show (1 : Int) < least → ((Cnd.bin false a b)).fmt least = ⟨#[40]⟩ ++ S ++ ⟨#[41]⟩ from fp)
      generalize ((Cnd.bin false a b)).fmt least = R at *
      rw [← hS] at a2
      clear hk h hs hU hV iha ihb ha hb IHA IHB hza hzb c0
      clear fb fp hS hTX sz0
      by_cases hl : (1 : Int) < least
      case pos =>
        rw [FP.out hl]
        have HL := Lib.hid hl
        clear hl
        go_enter Try.func61, Try.ntmps61
        go_wp2_with fail
        refine (STA.out _ HX.out).mono ?_; rintro e w8 ⟨rfl, hw8⟩; obtain rfl := hw8.symm
        go_wp2_with fail
        refine (FA.out _ HX.out).mono ?_; rintro e w1 ⟨rfl, h1⟩
        have y0 : w1.cell? ⟨w.heap.size, 0, none⟩ = some (.int .i64 4) := by rw [h1.cell (p := ⟨w.heap.size, 0, none⟩) (by simp)]; simp [go_sem]
        have ly : w.heap.size < w1.heap.size := by have := h1.size; simp at this; omega
        have HX1 := Lib.hid (HX.out.call h1)
        have B1 := Lib.hid (show Below w.heap.size w w1 from ((Below.refl _ _).alloc (Nat.le_refl _) _).trans (h1.mono (by simp)))
        clear h1
        go_wp2_with fail
        refine (FBB.out _ HX1.out).mono ?_; rintro e w2 ⟨rfl, h2⟩
        have y2 : w2.cell? ⟨w.heap.size, 0, none⟩ = some (.int .i64 4) := (h2.cell (p := ⟨w.heap.size, 0, none⟩) ly).trans y0
        have B2 := Lib.hid (B1.out.trans (h2.mono B1.out.size))
        clear h2 y0
        go_wp2_with fail
        refine (LV.out _).mono ?_; rintro e w9 ⟨rfl, hw9⟩; obtain rfl := hw9.symm
        have hl1 := HL.out
        go_wp2_with fail
        go_ret
        exact ⟨rfl, B2.out⟩
      case neg =>
        rw [FB.out hl]
        have HL := Lib.hid hl
        clear hl
        go_enter Try.func61, Try.ntmps61
        go_wp2_with fail
        refine (STA.out _ HX.out).mono ?_; rintro e w8 ⟨rfl, hw8⟩; obtain rfl := hw8.symm
        go_wp2_with fail
        refine (FA.out _ HX.out).mono ?_; rintro e w1 ⟨rfl, h1⟩
        have y0 : w1.cell? ⟨w.heap.size, 0, none⟩ = some (.int .i64 4) := by rw [h1.cell (p := ⟨w.heap.size, 0, none⟩) (by simp)]; simp [go_sem]
        have ly : w.heap.size < w1.heap.size := by have := h1.size; simp at this; omega
        have HX1 := Lib.hid (HX.out.call h1)
        have B1 := Lib.hid (show Below w.heap.size w w1 from ((Below.refl _ _).alloc (Nat.le_refl _) _).trans (h1.mono (by simp)))
        clear h1
        go_wp2_with fail
        refine (FBB.out _ HX1.out).mono ?_; rintro e w2 ⟨rfl, h2⟩
        have y2 : w2.cell? ⟨w.heap.size, 0, none⟩ = some (.int .i64 4) := (h2.cell (p := ⟨w.heap.size, 0, none⟩) ly).trans y0
        have B2 := Lib.hid (B1.out.trans (h2.mono B1.out.size))
        clear h2 y0
        go_wp2_with fail
        refine (LV.out _).mono ?_; rintro e w9 ⟨rfl, hw9⟩; obtain rfl := hw9.symm
        have hl1 := HL.out
        go_wp2_with fail
        go_ret
        exact ⟨rfl, B2.out⟩
    · have c0' : w.cell? ⟨bb, o + (j + 1) * 3, none⟩ = some (.int .i64 3) := c0
      have FA := Lib.hid (IHA.out 2)
      have FBB := Lib.hid (IHB.out 3)
      have za := hza 2
      have zb := hzb 3
      obtain ⟨U, hU⟩ : ∃ U, U = a.fmt 2 := ⟨_, rfl⟩
      obtain ⟨V, hV⟩ : ∃ V, V = b.fmt 3 := ⟨_, rfl⟩
      have hTX : (Cnd.bin true a b).txt = (U ++ ⟨#[32, 38, 32]⟩) ++ V := by rw [hU, hV]; rfl
      rw [← hU] at FA za
      rw [← hV] at FBB zb
      have a1 := fun W => run_string_add_sum (P := Try.prog) W U ⟨#[32, 38, 32]⟩ (by show U.size + 3 ≤ _; omega)
      have sz0 : ((U ++ ⟨#[32, 38, 32]⟩) ++ V : ByteArray).size ≤ 900 := by rw [ByteArray.size_append, ByteArray.size_append]; show U.size + 3 + V.size ≤ _; omega
      have a2 : ∀ W : World, (Op.stringOp .add (U ++ ⟨#[32, 38, 32]⟩) V).run Try.prog W = .ok (.string ((U ++ ⟨#[32, 38, 32]⟩) ++ V)) W := fun W => run_string_add_sum (P := Try.prog) W (U ++ ⟨#[32, 38, 32]⟩) V (by rw [ByteArray.size_append]; show U.size + 3 + V.size ≤ _; omega)
      have HX := Lib.hid (h.call (show Below w.heap.size w (w.alloc (.cells #[.int .i64 3, .string (op (j + 1)), .string (vl (j + 1))] 54)) from (Below.refl _ _).alloc (Nat.le_refl _) _))
      obtain ⟨S, hS⟩ : ∃ S, S = (U ++ ⟨#[32, 38, 32]⟩) ++ V := ⟨_, rfl⟩
      have hSz : S.size ≤ 900 := by rw [hS]; exact sz0
      have b1 := fun W => run_string_add_sum (P := Try.prog) W ⟨#[40]⟩ S (by show 1 + S.size ≤ _; omega)
      have b2 := fun W => run_string_add_sum (P := Try.prog) W (⟨#[40]⟩ ++ S) ⟨#[41]⟩ (by rw [ByteArray.size_append]; show 1 + S.size + 1 ≤ _; omega)
      have fb := fun h => fmt_bare (t := (Cnd.bin true a b)) (least := least) h
      have fp := fun h => fmt_par (t := (Cnd.bin true a b)) (least := least) h
      rw [show ((Cnd.bin true a b)).txt = S from hTX.trans hS.symm] at fb fp
      have lv0 : ∀ W : World, Calls Try.prog 89 #[.int .i64 3] W fun e w' => e = .returned (.int .i64 2) ∧ w' = W := fun W => l6Level_any W ((Cnd.bin true a b))
      have LV := Lib.hid lv0
      clear lv0
      have FB := Lib.hid (show ¬ (2 : Int) < least → ((Cnd.bin true a b)).fmt least = S from fb)
      have FP := Lib.hid (show (2 : Int) < least → ((Cnd.bin true a b)).fmt least = ⟨#[40]⟩ ++ S ++ ⟨#[41]⟩ from fp)
      generalize ((Cnd.bin true a b)).fmt least = R at *
      rw [← hS] at a2
      clear hk h hs hU hV iha ihb ha hb IHA IHB hza hzb c0
      clear fb fp hS hTX sz0
      by_cases hl : (2 : Int) < least
      case pos =>
        rw [FP.out hl]
        have HL := Lib.hid hl
        clear hl
        go_enter Try.func61, Try.ntmps61
        go_wp2_with fail
        refine (STA.out _ HX.out).mono ?_; rintro e w8 ⟨rfl, hw8⟩; obtain rfl := hw8.symm
        go_wp2_with fail
        refine (FA.out _ HX.out).mono ?_; rintro e w1 ⟨rfl, h1⟩
        have y0 : w1.cell? ⟨w.heap.size, 0, none⟩ = some (.int .i64 3) := by rw [h1.cell (p := ⟨w.heap.size, 0, none⟩) (by simp)]; simp [go_sem]
        have ly : w.heap.size < w1.heap.size := by have := h1.size; simp at this; omega
        have HX1 := Lib.hid (HX.out.call h1)
        have B1 := Lib.hid (show Below w.heap.size w w1 from ((Below.refl _ _).alloc (Nat.le_refl _) _).trans (h1.mono (by simp)))
        clear h1
        go_wp2_with fail
        refine (FBB.out _ HX1.out).mono ?_; rintro e w2 ⟨rfl, h2⟩
        have y2 : w2.cell? ⟨w.heap.size, 0, none⟩ = some (.int .i64 3) := (h2.cell (p := ⟨w.heap.size, 0, none⟩) ly).trans y0
        have B2 := Lib.hid (B1.out.trans (h2.mono B1.out.size))
        clear h2 y0
        go_wp2_with fail
        refine (LV.out _).mono ?_; rintro e w9 ⟨rfl, hw9⟩; obtain rfl := hw9.symm
        have hl1 := HL.out
        go_wp2_with fail
        go_ret
        exact ⟨rfl, B2.out⟩
      case neg =>
        rw [FB.out hl]
        have HL := Lib.hid hl
        clear hl
        go_enter Try.func61, Try.ntmps61
        go_wp2_with fail
        refine (STA.out _ HX.out).mono ?_; rintro e w8 ⟨rfl, hw8⟩; obtain rfl := hw8.symm
        go_wp2_with fail
        refine (FA.out _ HX.out).mono ?_; rintro e w1 ⟨rfl, h1⟩
        have y0 : w1.cell? ⟨w.heap.size, 0, none⟩ = some (.int .i64 3) := by rw [h1.cell (p := ⟨w.heap.size, 0, none⟩) (by simp)]; simp [go_sem]
        have ly : w.heap.size < w1.heap.size := by have := h1.size; simp at this; omega
        have HX1 := Lib.hid (HX.out.call h1)
        have B1 := Lib.hid (show Below w.heap.size w w1 from ((Below.refl _ _).alloc (Nat.le_refl _) _).trans (h1.mono (by simp)))
        clear h1
        go_wp2_with fail
        refine (FBB.out _ HX1.out).mono ?_; rintro e w2 ⟨rfl, h2⟩
        have y2 : w2.cell? ⟨w.heap.size, 0, none⟩ = some (.int .i64 3) := (h2.cell (p := ⟨w.heap.size, 0, none⟩) ly).trans y0
        have B2 := Lib.hid (B1.out.trans (h2.mono B1.out.size))
        clear h2 y0
        go_wp2_with fail
        refine (LV.out _).mono ?_; rintro e w9 ⟨rfl, hw9⟩; obtain rfl := hw9.symm
        have hl1 := HL.out
        go_wp2_with fail
        go_ret
        exact ⟨rfl, B2.out⟩
theorem lvl_pos (t : Cnd) : ¬ t.lvl < 1 := by
  cases t with
  | bin x a b => cases x <;> simp [Cnd.lvl]
  | _ => simp [Cnd.lvl]
theorem spec_FormatCond_no (w : World) (A : Option Addr) (n c : Nat) (kd : Nat → Int) (op vl : Nat → ByteArray) (h : CondNodeF w A n c kd op vl) (hC : isCondB kd op vl n = false) :
    Calls Try.prog 24 #[.slice A n c] w fun e w' => e = .returned (.string ⟨#[]⟩) ∧ Below w.heap.size w w' := by
  have H := Lib.hid h
  clear h
  go_enter Try.func24, Try.ntmps24
  go_wp2_with fail
  refine (spec_IsCond _ A n c kd op vl H.out).mono ?_; rintro e w2 ⟨rfl, b2⟩
  rw [hC]
  go_wp2_with fail
  go_ret
  exact ⟨rfl, b2⟩
set_option maxRecDepth 20000 in
theorem spec_FormatCond_yes (w : World) (A : Option Addr) (n c : Nat) (kd : Nat → Int) (op vl : Nat → ByteArray) (h : CondNodeF w A n c kd op vl) (hC : isCondB kd op vl n = true) {t : Cnd} (hs : Sub kd op vl 0 n t) :
    Calls Try.prog 24 #[.slice A n c] w fun e w' => e = .returned (.string t.txt) ∧ Below w.heap.size w w' := by
  have H := Lib.hid h
  clear h
  have hn30 := isCondB_le hC
  have hl := hs.lt
  obtain ⟨i, hi⟩ : ∃ i, n = i + 1 := ⟨n - 1, by omega⟩
  have hn1 : i < n := by omega
  have hs' : Sub kd op vl 0 (i + 1) t := by rw [← hi]; exact hs
  have hi1 : (n : Int) - 1 = (i : Int) := by omega
  have CALL := Lib.hid (fun (W : World) (hW : CondNodeF W A n c kd op vl) => l6Format_any _ n c kd op vl hn30 (kinds_of hC) t hs' hn1 1 W hW)
  have e1 : t.fmt 1 = t.txt := fmt_bare (lvl_pos t)
  rw [e1] at CALL
  clear hs hs' e1 hi hl hn1
  generalize t.txt = S at *
  go_enter Try.func24, Try.ntmps24
  go_wp2_with fail
  refine (spec_IsCond _ A n c kd op vl H.out).mono ?_; rintro e w2 ⟨rfl, b2⟩
  rw [hC]
  have B2 := Lib.hid b2
  have H2 := Lib.hid (H.out.call b2)
  clear b2
  go_wp2_with fail
  refine (CALL.out _ H2.out).mono ?_; rintro e w3 ⟨rfl, b3⟩
  have B3 := Lib.hid (B2.out.trans (b3.mono B2.out.size))
  clear b3
  go_wp2_with fail
  go_ret
  exact ⟨rfl, B3.out⟩
theorem impl_FormatCond_no (w : World) (A : Option Addr) (n c : Nat) (kd : Nat → Int) (op vl : Nat → ByteArray) (h : CondNodeF w A n c kd op vl) (hC : isCondB kd op vl n = false) :
    Calls Try.prog 25 #[.slice A n c] w fun e w' => e = .returned (.string ⟨#[]⟩) ∧ Below w.heap.size w w' := by
  have H := Lib.hid h
  clear h
  go_enter Try.func25, Try.ntmps25
  go_wp2_with fail
  refine (impl_IsCond _ A n c kd op vl H.out).mono ?_; rintro e w2 ⟨rfl, b2⟩
  rw [hC]
  go_wp2_with fail
  go_ret
  exact ⟨rfl, b2⟩
set_option maxRecDepth 20000 in
theorem impl_FormatCond_yes (w : World) (A : Option Addr) (n c : Nat) (kd : Nat → Int) (op vl : Nat → ByteArray) (h : CondNodeF w A n c kd op vl) (hC : isCondB kd op vl n = true) {t : Cnd} (hs : Sub kd op vl 0 n t) :
    Calls Try.prog 25 #[.slice A n c] w fun e w' => e = .returned (.string t.txt) ∧ Below w.heap.size w w' := by
  have H := Lib.hid h
  clear h
  have hn30 := isCondB_le hC
  have hl := hs.lt
  obtain ⟨i, hi⟩ : ∃ i, n = i + 1 := ⟨n - 1, by omega⟩
  have hn1 : i < n := by omega
  have hs' : Sub kd op vl 0 (i + 1) t := by rw [← hi]; exact hs
  have hi1 : (n : Int) - 1 = (i : Int) := by omega
  have CALL := Lib.hid (fun (W : World) (hW : CondNodeF W A n c kd op vl) => text_any _ n c kd op vl hn30 t hs' hn1 W hW)
  have e1 : t.fmt 1 = t.txt := fmt_bare (lvl_pos t)
  skip
  clear hs hs' e1 hi hl hn1
  generalize t.txt = S at *
  go_enter Try.func25, Try.ntmps25
  go_wp2_with fail
  refine (impl_IsCond _ A n c kd op vl H.out).mono ?_; rintro e w2 ⟨rfl, b2⟩
  rw [hC]
  have B2 := Lib.hid b2
  have H2 := Lib.hid (H.out.call b2)
  clear b2
  go_wp2_with fail
  refine (CALL.out _ H2.out).mono ?_; rintro e w3 ⟨rfl, b3⟩
  have B3 := Lib.hid (B2.out.trans (b3.mono B2.out.size))
  clear b3
  go_wp2_with fail
  go_ret
  exact ⟨rfl, B3.out⟩
end Go.Proofs.Ytkkhaamklbolmaa
