/-
  Contracts of the program's text and operand. (Printed by gen/format.py.)
-/
import Derived.Test.YtkkhaamklbolmaaFormat
namespace Go.Proofs.Ytkkhaamklbolmaa
open Go.RowKit Go.Sort
set_option linter.unusedVariables false
set_option linter.unusedSimpArgs false

theorem fmt_bare {t : Cnd} {least : Int} (h : ¬ t.lvl < least) : t.fmt least = t.txt := by unfold Cnd.fmt par; simp [h]
theorem fmt_par {t : Cnd} {least : Int} (h : t.lvl < least) : t.fmt least = (⟨#[40]⟩ ++ t.txt) ++ ⟨#[41]⟩ := by unfold Cnd.fmt par; simp [h]
/-- what an operand asks for -/
def Asks (of : Int) (sec : Bool) (least : Int) : Prop := (of = 2 ∧ sec = false ∧ least = 3) ∨ (of = 3 ∧ sec = false ∧ least = 2) ∨ (of = 3 ∧ sec = true ∧ least = 3) ∨ (of = 4 ∧ sec = false ∧ least = 1) ∨ (of = 4 ∧ sec = true ∧ least = 2)
set_option maxHeartbeats 4000000 in
theorem operand_of (w : World) (A : Option Addr) (n c : Nat) (kd : Nat → Int) (op vl : Nat → ByteArray) (h : CondNodeF w A n c kd op vl) (hn : n ≤ 30) {s i : Nat} {t : Cnd} (hs : Sub kd op vl s (i + 1) t) (hi : i < n)
    (hT : ∀ W, CondNodeF W A n c kd op vl → Calls Try.prog 62 #[.slice A n c, .int .i64 (i : Int)] W fun e w' => e = .returned (.string t.txt) ∧ Below W.heap.size W w')
    (of : Int) (sec : Bool) (least : Int) (ha : Asks of sec least) :
    Calls Try.prog 90 #[.slice A n c, .int .i64 (i : Int), .int .i64 of, .bool sec] w fun e w' => e = .returned (.string (t.fmt least)) ∧ Below w.heap.size w w' := by
  have H := Lib.hid h
  have HT := Lib.hid hT
  have hi' : (i : Int) < (n : Int) := by omega
  have hk := hs.kind
  have hz := hs.size
  obtain ⟨S, hS⟩ : ∃ S, S = t.txt := ⟨_, rfl⟩
  have fb := fun h => (fmt_bare (t := t) (least := least) h)
  have fp := fun h => (fmt_par (t := t) (least := least) h)
  rw [← hS] at HT hz fb fp
  generalize t.fmt least = R at *
  have hz2 : S.size ≤ 800 := by omega
  have a1 := fun W => run_string_add_sum (P := Try.prog) W ⟨#[40]⟩ S (by show 1 + S.size ≤ _; omega)
  have a2 := fun W => run_string_add_sum (P := Try.prog) W (⟨#[40]⟩ ++ S) ⟨#[41]⟩ (by rw [ByteArray.size_append]; show 1 + S.size + 1 ≤ _; omega)
  clear h hT hS hs hz
  obtain ⟨K, hK⟩ : ∃ K, K = kd i := ⟨_, rfl⟩
  rw [← hK] at hk
  have hcell := fun W (hW : CondNodeF W A n c kd op vl) => hW.cells hi
  rw [← hK] at hcell
  have HC := Lib.hid hcell
  clear hcell hK
  have FB := Lib.hid fb
  have FP := Lib.hid fp
  clear fb fp
  rcases (show (K = 4 ∧ t.lvl = 1) ∨ (K = 3 ∧ t.lvl = 2) ∨ ((K = 0 ∨ K = 1 ∨ K = 2) ∧ t.lvl = 3) by
    cases t with
    | tt => exact .inr (.inr ⟨.inl hk, rfl⟩)
    | is o v => exact .inr (.inr ⟨.inr (.inl hk), rfl⟩)
    | no a => exact .inr (.inr ⟨.inr (.inr hk), rfl⟩)
    | bin x a b => cases x
                   · exact .inl ⟨hk, rfl⟩
                   · exact .inr (.inl ⟨hk, rfl⟩)) with ⟨rfl, hl⟩ | ⟨rfl, hl⟩ | ⟨rfl | rfl | rfl, hl⟩
  all_goals
    clear hk
    rw [hl] at FB FP
    clear hl
    rcases ha with ⟨rfl, rfl, rfl⟩ | ⟨rfl, rfl, rfl⟩ | ⟨rfl, rfl, rfl⟩ | ⟨rfl, rfl, rfl⟩ | ⟨rfl, rfl, rfl⟩
    all_goals
      first
      | (have e := FB.out (by decide))
      | (have e := FP.out (by decide))
      rw [e]
      clear e FB FP
      go_enter Try.func90, Try.ntmps90
      go_wp2_with fail
      refine (HT.out _ H.out).mono ?_; rintro e w1 ⟨rfl, b1⟩
      obtain ⟨b, o, rfl, hB, c0, c1, c2⟩ := HC.out w1 (H.out.call b1)
      have B1 := Lib.hid b1
      clear b1
      go_wp2_with fail
      go_ret
      exact ⟨rfl, B1.out⟩
set_option maxRecDepth 20000 in
set_option maxHeartbeats 4000000 in
theorem text_any (A : Option Addr) (n c : Nat) (kd : Nat → Int) (op vl : Nat → ByteArray) (hn : n ≤ 30) (t : Cnd) : ∀ {s i : Nat}, Sub kd op vl s (i + 1) t → i < n → ∀ w, CondNodeF w A n c kd op vl →
    Calls Try.prog 62 #[.slice A n c, .int .i64 (i : Int)] w fun e w' => e = .returned (.string t.txt) ∧ Below w.heap.size w w' := by
  induction t with
  | tt =>
    intro s i hs hi w h
    have hk := hs.kind
    have hi' : (i : Int) < (n : Int) := by omega
    obtain ⟨b, o, rfl, hB, c0, c1, c2⟩ := h.cells hi
    rw [hk] at c0
    simp only [Cnd.kind] at c0
    clear hk h hs
    go_enter Try.func62, Try.ntmps62
    go_wp2_with fail
    go_ret
    exact ⟨rfl, by repeat' (first | (with_reducible exact Below.refl _ _) | assumption | (with_reducible refine below_then (by assumption) ?_ ?_) | (with_reducible refine Below.alloc ?_ ?_ _) | (with_reducible refine below_drewN ?_ _) | (with_reducible refine Below.drew ?_) | (with_reducible refine Below.setCell ?_ ?_ _) | (have := h.size; simp at *; omega) | omega | (simp; done) | (simp; omega))⟩
  | is oo vv =>
    intro s i hs hi w h
    have hk := hs.kind
    have hi' : (i : Int) < (n : Int) := by omega
    obtain ⟨b, o, rfl, hB, c0, c1, c2⟩ := h.cells hi
    rw [hk] at c0
    simp only [Cnd.kind] at c0
    obtain ⟨e1, e2, z1, z2⟩ : op i = oo ∧ vl i = vv ∧ oo.size ≤ 8 ∧ vv.size ≤ 8 := by
      cases hs with
      | is h ho hv => exact ⟨rfl, rfl, (isC_iff.1 ho).2.1, (isC_iff.1 hv).2.1⟩
    rw [e1] at c1
    rw [e2] at c2
    have a1 := fun W => run_string_add_sum (P := Try.prog) W oo ⟨#[61]⟩ (by show oo.size + 1 ≤ _; omega)
    have a2 := fun W => run_string_add_sum (P := Try.prog) W (oo ++ ⟨#[61]⟩) vv (by rw [ByteArray.size_append]; show oo.size + 1 + vv.size ≤ _; omega)
    clear hk h hs e1 e2
    go_enter Try.func62, Try.ntmps62
    go_wp2_with fail
    go_ret
    exact ⟨rfl, by repeat' (first | (with_reducible exact Below.refl _ _) | assumption | (with_reducible refine below_then (by assumption) ?_ ?_) | (with_reducible refine Below.alloc ?_ ?_ _) | (with_reducible refine below_drewN ?_ _) | (with_reducible refine Below.drew ?_) | (with_reducible refine Below.setCell ?_ ?_ _) | (have := h.size; simp at *; omega) | omega | (simp; done) | (simp; omega))⟩
  | no a ih =>
    intro s i hs hi w h
    have hk := hs.kind
    have hi' : (i : Int) < (n : Int) := by omega
    obtain ⟨b, o, rfl, hB, c0, c1, c2⟩ := h.cells hi
    rw [hk] at c0
    simp only [Cnd.kind] at c0
    obtain ⟨j, rfl, ha⟩ : ∃ j, i = j + 1 ∧ Sub kd op vl s (j + 1) a := by
      cases hs with
      | no r h => have := r.lt; exact ⟨i - 1, by omega, by rw [show i - 1 + 1 = i by omega]; exact r⟩
    have OPD := Lib.hid (fun (W : World) (hW : CondNodeF W (some ⟨b, o, none⟩) n c kd op vl) => operand_of W (some ⟨b, o, none⟩) n c kd op vl hW hn ha (by omega) (fun W hW => ih ha (by omega) W hW) 2 false 3 (.inl ⟨rfl, rfl, rfl⟩))
    have hz := ha.fmtSize 3
    obtain ⟨R, hR⟩ : ∃ R, R = a.fmt 3 := ⟨_, rfl⟩
    have eT : (Cnd.no a).txt = ⟨#[33]⟩ ++ R := by rw [hR]; rfl
    rw [eT]
    rw [← hR] at OPD hz
    have a1 := fun W => run_string_add_sum (P := Try.prog) W ⟨#[33]⟩ R (by show 1 + R.size ≤ _; omega)
    have hj1 : ((j + 1 : Nat) : Int) - 1 = (j : Int) := by omega
    have HX := Lib.hid (h.call (show Below w.heap.size w (w.alloc (.cells #[.int .i64 2, .string (op (j + 1)), .string (vl (j + 1))] 54)) from (Below.refl _ _).alloc (Nat.le_refl _) _))
    clear hk h hs hR eT ih ha
    go_enter Try.func62, Try.ntmps62
    go_wp2_with fail
    refine (OPD.out _ HX.out).mono ?_; rintro e w1 ⟨rfl, b1⟩
    have B1 := Lib.hid (show Below w.heap.size w w1 from ((Below.refl _ _).alloc (Nat.le_refl _) _).trans (b1.mono (by simp)))
    clear b1
    go_wp2_with fail
    go_ret
    exact ⟨rfl, B1.out⟩
  | bin x a b iha ihb =>
    intro s i hs hi w h
    have hk := hs.kind
    have hi' : (i : Int) < (n : Int) := by omega
    obtain ⟨bb, o, rfl, hB, c0, c1, c2⟩ := h.cells hi
    rw [hk] at c0
    simp only [Cnd.kind] at c0
    obtain ⟨j, m, rfl, ha, hb⟩ : ∃ j m, i = j + 1 ∧ Sub kd op vl s (m + 1) a ∧ Sub kd op vl (m + 1) (j + 1) b := by
      cases hs with
      | bin r q h =>
        rename_i m
        have := r.lt; have := q.lt
        exact ⟨i - 1, m - 1, by omega, by rw [show m - 1 + 1 = m by omega]; exact r, by rw [show i - 1 + 1 = i by omega, show m - 1 + 1 = m by omega]; exact q⟩
    have lb := hb.lt
    have STA := Lib.hid (fun (W : World) (hW : CondNodeF W (some ⟨bb, o, none⟩) n c kd op vl) => startOf_any W (some ⟨bb, o, none⟩) n c kd op vl hW hn hb (by omega))
    have OPA := Lib.hid (fun (of : Int) (sec : Bool) (least : Int) (hs : Asks of sec least) (W : World) (hW : CondNodeF W (some ⟨bb, o, none⟩) n c kd op vl) => operand_of W (some ⟨bb, o, none⟩) n c kd op vl hW hn ha (by omega) (fun W hW => iha ha (by omega) W hW) of sec least hs)
    have OPB := Lib.hid (fun (of : Int) (sec : Bool) (least : Int) (hs : Asks of sec least) (W : World) (hW : CondNodeF W (some ⟨bb, o, none⟩) n c kd op vl) => operand_of W (some ⟨bb, o, none⟩) n c kd op vl hW hn hb (by omega) (fun W hW => ihb hb (by omega) W hW) of sec least hs)
    have hza := fun l => ha.fmtSize l
    have hzb := fun l => hb.fmtSize l
    have hj1 : ((j + 1 : Nat) : Int) - 1 = (j : Int) := by omega
    have hm1 : ((m + 1 : Nat) : Int) - 1 = (m : Int) := by omega
    have uj : IntKind.i64.wrap (j : Int) = (j : Int) := IntWalk.i64_in _ ⟨by omega, by omega⟩
    have um : IntKind.i64.wrap (m : Int) = (m : Int) := IntWalk.i64_in _ ⟨by omega, by omega⟩
    cases x

    · have c0' : w.cell? ⟨bb, o + (j + 1) * 3, none⟩ = some (.int .i64 4) := c0
      have OA := Lib.hid (OPA.out 4 false 1 (.inr (.inr (.inr (.inl ⟨rfl, rfl, rfl⟩)))))
      have OB := Lib.hid (OPB.out 4 true 2 (.inr (.inr (.inr (.inr ⟨rfl, rfl, rfl⟩)))))
      have za := hza 1
      have zb := hzb 2
      obtain ⟨U, hU⟩ : ∃ U, U = a.fmt 1 := ⟨_, rfl⟩
      obtain ⟨V, hV⟩ : ∃ V, V = b.fmt 2 := ⟨_, rfl⟩
      have eT : (Cnd.bin false a b).txt = (U ++ ⟨#[32, 124, 32]⟩) ++ V := by rw [hU, hV]; rfl
      rw [eT]
      rw [← hU] at OA za
      rw [← hV] at OB zb
      have a1 := fun W => run_string_add_sum (P := Try.prog) W U ⟨#[32, 124, 32]⟩ (by show U.size + 3 ≤ _; omega)
      have a2 := fun W => run_string_add_sum (P := Try.prog) W (U ++ ⟨#[32, 124, 32]⟩) V (by rw [ByteArray.size_append]; show U.size + 3 + V.size ≤ _; omega)
      obtain ⟨Y, hY⟩ : ∃ Y, Y = w.alloc (.cells #[.int .i64 4, .string (op (j + 1)), .string (vl (j + 1))] 54) := ⟨_, rfl⟩
      have HYE := Lib.hid hY
      have HY := Lib.hid (show CondNodeF Y (some ⟨bb, o, none⟩) n c kd op vl by rw [hY]; exact h.call ((Below.refl _ _).alloc (Nat.le_refl _) _))
      have BY := Lib.hid (show Below w.heap.size w Y by rw [hY]; exact (Below.refl _ _).alloc (Nat.le_refl _) _)
      have y0 : Y.cell? ⟨w.heap.size, 0, none⟩ = some (.int .i64 4) := by rw [hY]; simp [go_sem]
      obtain ⟨QQ, QA, QB, opx⟩ : ∃ QQ : Int → Bool → ByteArray → Prop, QQ (m : Int) false U ∧ QQ (j : Int) true V ∧ (∀ (z : Int) (sec : Bool) (r : ByteArray), QQ z sec r → ∀ W, CondNodeF W (some ⟨bb, o, none⟩) n c kd op vl → Calls Try.prog 90 #[.slice (some ⟨bb, o, none⟩) n c, .int .i64 z, .int .i64 4, .bool sec] W fun e w' => e = .returned (.string r) ∧ Below W.heap.size W w') := by
        refine ⟨fun z sec r => (z = (m : Int) ∧ sec = false ∧ r = U) ∨ (z = (j : Int) ∧ sec = true ∧ r = V), .inl ⟨rfl, rfl, rfl⟩, .inr ⟨rfl, rfl, rfl⟩, fun z sec r hq W hW => ?_⟩
        rcases hq with ⟨rfl, rfl, rfl⟩ | ⟨rfl, rfl, rfl⟩
        · exact OA.out W hW
        · exact OB.out W hW
      have OPX := Lib.hid opx
      clear hk h hs hU hV eT iha ihb ha hb OPA OPB hza hzb c0 hY opx OA OB
      go_enter Try.func62, Try.ntmps62
      go_wp2_with fail
      rw [← HYE.out]
      clear HYE
      have z0 := fun d os => cell_regrown y0 d os
      refine wp_region_quiet_below (by kernel_rfl) (by kernel_rfl) ?_
      repeat (first | go_big_quiet_step ((first | (go_at_call 91; exact Calls.regrown_of ((STA.out _ (HY.out.call (below_regrown Y _ _))).mono fun _ _ k => ⟨k.1, by rw [k.2]; exact Below.refl _ _⟩)) | (go_at_call 90; exact Calls.regrown_of (OPX.out _ _ _ (by assumption) _ (HY.out.call (below_regrown Y _ _)))))) | quiet_step ((first | (go_at_call 91; exact Calls.regrown_of ((STA.out _ (HY.out.call (below_regrown Y _ _))).mono fun _ _ k => ⟨k.1, by rw [k.2]; exact Below.refl _ _⟩)) | (go_at_call 90; exact Calls.regrown_of (OPX.out _ _ _ (by assumption) _ (HY.out.call (below_regrown Y _ _)))))))
      refine wpQuiet_nil ?_
      intro _ hw'
      obtain ⟨⟨dq, osq⟩, hw''⟩ := hw'
      subst hw''
      go_wp2_with fail
      go_ret
      exact ⟨rfl, BY.out.trans ((below_regrown Y dq osq).mono BY.out.size)⟩
    · have c0' : w.cell? ⟨bb, o + (j + 1) * 3, none⟩ = some (.int .i64 3) := c0
      have OA := Lib.hid (OPA.out 3 false 2 (.inr (.inl ⟨rfl, rfl, rfl⟩)))
      have OB := Lib.hid (OPB.out 3 true 3 (.inr (.inr (.inl ⟨rfl, rfl, rfl⟩))))
      have za := hza 2
      have zb := hzb 3
      obtain ⟨U, hU⟩ : ∃ U, U = a.fmt 2 := ⟨_, rfl⟩
      obtain ⟨V, hV⟩ : ∃ V, V = b.fmt 3 := ⟨_, rfl⟩
      have eT : (Cnd.bin true a b).txt = (U ++ ⟨#[32, 38, 32]⟩) ++ V := by rw [hU, hV]; rfl
      rw [eT]
      rw [← hU] at OA za
      rw [← hV] at OB zb
      have a1 := fun W => run_string_add_sum (P := Try.prog) W U ⟨#[32, 38, 32]⟩ (by show U.size + 3 ≤ _; omega)
      have a2 := fun W => run_string_add_sum (P := Try.prog) W (U ++ ⟨#[32, 38, 32]⟩) V (by rw [ByteArray.size_append]; show U.size + 3 + V.size ≤ _; omega)
      obtain ⟨Y, hY⟩ : ∃ Y, Y = w.alloc (.cells #[.int .i64 3, .string (op (j + 1)), .string (vl (j + 1))] 54) := ⟨_, rfl⟩
      have HYE := Lib.hid hY
      have HY := Lib.hid (show CondNodeF Y (some ⟨bb, o, none⟩) n c kd op vl by rw [hY]; exact h.call ((Below.refl _ _).alloc (Nat.le_refl _) _))
      have BY := Lib.hid (show Below w.heap.size w Y by rw [hY]; exact (Below.refl _ _).alloc (Nat.le_refl _) _)
      have y0 : Y.cell? ⟨w.heap.size, 0, none⟩ = some (.int .i64 3) := by rw [hY]; simp [go_sem]
      obtain ⟨QQ, QA, QB, opx⟩ : ∃ QQ : Int → Bool → ByteArray → Prop, QQ (m : Int) false U ∧ QQ (j : Int) true V ∧ (∀ (z : Int) (sec : Bool) (r : ByteArray), QQ z sec r → ∀ W, CondNodeF W (some ⟨bb, o, none⟩) n c kd op vl → Calls Try.prog 90 #[.slice (some ⟨bb, o, none⟩) n c, .int .i64 z, .int .i64 3, .bool sec] W fun e w' => e = .returned (.string r) ∧ Below W.heap.size W w') := by
        refine ⟨fun z sec r => (z = (m : Int) ∧ sec = false ∧ r = U) ∨ (z = (j : Int) ∧ sec = true ∧ r = V), .inl ⟨rfl, rfl, rfl⟩, .inr ⟨rfl, rfl, rfl⟩, fun z sec r hq W hW => ?_⟩
        rcases hq with ⟨rfl, rfl, rfl⟩ | ⟨rfl, rfl, rfl⟩
        · exact OA.out W hW
        · exact OB.out W hW
      have OPX := Lib.hid opx
      clear hk h hs hU hV eT iha ihb ha hb OPA OPB hza hzb c0 hY opx OA OB
      go_enter Try.func62, Try.ntmps62
      go_wp2_with fail
      rw [← HYE.out]
      clear HYE
      have z0 := fun d os => cell_regrown y0 d os
      refine wp_region_quiet_below (by kernel_rfl) (by kernel_rfl) ?_
      repeat (first | go_big_quiet_step ((first | (go_at_call 91; exact Calls.regrown_of ((STA.out _ (HY.out.call (below_regrown Y _ _))).mono fun _ _ k => ⟨k.1, by rw [k.2]; exact Below.refl _ _⟩)) | (go_at_call 90; exact Calls.regrown_of (OPX.out _ _ _ (by assumption) _ (HY.out.call (below_regrown Y _ _)))))) | quiet_step ((first | (go_at_call 91; exact Calls.regrown_of ((STA.out _ (HY.out.call (below_regrown Y _ _))).mono fun _ _ k => ⟨k.1, by rw [k.2]; exact Below.refl _ _⟩)) | (go_at_call 90; exact Calls.regrown_of (OPX.out _ _ _ (by assumption) _ (HY.out.call (below_regrown Y _ _)))))))
      refine wpQuiet_nil ?_
      intro _ hw'
      obtain ⟨⟨dq, osq⟩, hw''⟩ := hw'
      subst hw''
      go_wp2_with fail
      go_ret
      exact ⟨rfl, BY.out.trans ((below_regrown Y dq osq).mono BY.out.size)⟩
end Go.Proofs.Ytkkhaamklbolmaa
