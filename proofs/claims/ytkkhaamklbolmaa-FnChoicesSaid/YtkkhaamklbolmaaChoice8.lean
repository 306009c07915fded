/-
  The reference's l7Model: a model is drawn. (Printed by gen/choice8.py.)
-/
import Derived.Test.YtkkhaamklbolmaaBlock1
namespace Go.Proofs.Ytkkhaamklbolmaa
open Go.RowKit Go.Sort
set_option linter.unusedVariables false
set_option linter.unusedSimpArgs false

theorem fin_model {Post : Ending → World → Prop} {t : Array Value} {W : World} {r : Nat} {a b : Value} (ht : t[2]? = some (.pointer (some ⟨r, 0, none⟩))) (h0 : W.cell? ⟨r, 0, none⟩ = some a) (h1 : W.cell? ⟨r, 1, none⟩ = some b)
    (hP : Post (.returned (.agg #[a, b])) W) : bodyPost Try.prog Try.f87 Post Exit.ret { tmps := t, defers := [] } W :=
  bodyPost_ret (v := .agg #[a, b]) (by simp [results, Try.results87, go_sem, ht, h0, h1]) rfl hP
set_option maxRecDepth 20000 in
set_option maxHeartbeats 16000000 in
theorem l7Model_any (B g : Nat) (w : World) (c : Cur B w g) : Calls Try.prog 87 #[.pointer (some ⟨g, 0, none⟩)] w (DrawMB B w) := by
  obtain ⟨i0, hi0, hz0, hs0, hb0⟩ := info_parts option_info
  obtain ⟨i1, hi1, hz1, hs1, hb1⟩ := info_parts conds_info
  obtain ⟨i2, hi2, hz2, hs2, hb2⟩ := info_parts str_info
  have hlt := c.lt
  have hgB := c.base
  obtain ⟨w1, hw1⟩ : ∃ w1, w1 = (w.alloc (.cells #[.slice none 0 0, .slice none 0 0] 66)).alloc (.cells #[.slice none 0 0, .slice none 0 0] 66) := ⟨_, rfl⟩
  have nn : ∀ (W : World), Row (W.alloc (.cells #[.slice none 0 0, .slice none 0 0] 66)) W.heap.size 66 2 (modelM (.slice none 0 0) (.slice none 0 0)) := fun W => row_lit W _ _ 2 _ (by simp) (fun i hi => by unfold modelM; rcases (by omega : i = 0 ∨ i = 1) with rfl | rfl <;> rfl)
  have M1 := Lib.hid (show MdE B g (w.heap.size + 1) w1 0 0 from ⟨none, 0, none, 0, fun _ => mt, fun _ => undef, fun _ => undef, by rw [hw1]; exact (c.alloc _).alloc _, by omega, by
    rw [hw1]
    simpa using nn (w.alloc (.cells #[.slice none 0 0, .slice none 0 0] 66)), OwnV.nil _ _ _ _ _, OwnV.nil _ _ _ _ _, fun j hj => absurd hj (by omega), fun j hj => absurd hj (by omega), fun rb e => by
    obtain rfl : rb = w.heap.size := by omega
    rw [hw1]
    exact (nn w).alloc _⟩)
  have B1 := Lib.hid (show Below B w w1 by rw [hw1]; exact ((Below.refl B w).alloc (by omega) _).alloc (by simp; omega) _)
  have W1 := Lib.hid hw1
  clear c hw1 nn
  go_enter Try.func87, Try.ntmps87
  go_wp2_with fail
  rw [← W1.out]
  go_loopw [4] (fun iv wr => ∃ i : Nat, i ≤ 3 ∧ iv = .int .i64 (i : Int) ∧ MdE B g (w.heap.size + 1) wr i 0 ∧ Below B w wr) (fun iv _ => 3 - (intOf iv).toNat)
  case atStart => exact ⟨0, by omega, rfl, M1.out, B1.out⟩
  case round =>
    clear M1 B1
    obtain ⟨i, hi, rfl, ⟨Ao, co, Ar, cr, nm, V, U, hmd⟩, hbe⟩ := hrel
    have BE := Lib.hid hbe
    have M0 := Lib.hid hmd
    clear hmd hbe
    go_wp2_with fail
    refine (l1Below_any B g _ 3 M0.out.cur (by omega) (by omega)).mono ?_
    rintro e wp ⟨vv, rfl, ⟨x, rfl, x0, x1⟩, c5, hg5⟩
    have MM := Lib.hid (M0.out.cursor hg5 c5)
    have BP := Lib.hid (BE.out.trans (grown_below hg5 hgB (by have := M0.out.cur.lt; omega)))
    have u1 : IntKind.i64.wrap (1 + x) = 1 + x := IntWalk.i64_in _ ⟨by omega, by omega⟩
    clear c5 hg5
    by_cases hlt2 : (i : Int) < 1 + x
    case neg =>
      have hige : 1 ≤ i := by omega
      go_wp2_with fail
      refine (l1Below_any B g _ 4 MM.out.cur (by omega) (by omega)).mono ?_
      rintro e wq ⟨vv, rfl, ⟨y, rfl, y0, y1⟩, c6, g6⟩
      have MQ := Lib.hid (MM.out.cursor g6 c6)
      have BQ := Lib.hid (BP.out.trans (grown_below g6 hgB (by have := MM.out.cur.lt; omega)))
      clear c6 g6 M0 BE
      go_wp2_with fail
      go_loopw [5] (fun nv wr => ∃ n M : Nat, nv = .int .i64 (n : Int) ∧ n + M ≤ 3 ∧ MdE B g (w.heap.size + 1) wr i M ∧ Below B w wr) (fun nv _ => (intOf nv).toNat)
      case atStart => exact ⟨y.toNat, 0, by simp; omega, by omega, ⟨_, _, _, _, _, _, _, MQ.out⟩, BQ.out⟩
      case round =>
        clear MQ BQ MM BP
        obtain ⟨n, M, rfl, hnM, ⟨Ao, co, Ar, cr, nm, V, U, hmd⟩, hbe⟩ := hrel
        have BP := Lib.hid hbe
        have MM := Lib.hid hmd
        clear hmd hbe
        by_cases hn0 : (0 : Int) < (n : Int)
        case neg =>
          obtain rfl : n = 0 := by omega
          go_wp2_with fail
          refine (l1Below_any B g _ 20 MM.out.cur (by omega) (by omega)).mono ?_
          rintro e wq ⟨vv, rfl, ⟨z, rfl, z0, z1⟩, c6, g6⟩
          have M8 := Lib.hid (MM.out.cursor g6 c6)
          have B8 := Lib.hid (BP.out.trans (grown_below g6 hgB (by have := MM.out.cur.lt; omega)))
          clear c6 g6
          have lmp := M8.out.row.lt
          have lcp := M8.out.cur.lt
          have lbq : B ≤ wq.heap.size := by omega
          have lm1 : w.heap.size < wq.heap.size := by omega
          have hi1' : 0 < i := by omega
          go_upto_block 4 with fail
          go_cut [] from 30 (fun w' => MdC B g (w.heap.size + 1) w' ∧ Below B w w')
          case first =>
            by_cases e0 : z = 0
            · subst e0
              have mp := M8.out.m1
              have zp := M8.out.row.frozen 1
              go_wp2_with fail
              go_region_law (first
                | (refine step_appS w6 rfl _ _ 64 rfl (B := B) (i := i1) (z := .slice none 0 0) (s := 1) (bytes := 24) (F := valC (fun j => if j = M then .slice A6 L6.length c6 else U j)) (v := .slice Ar M cr) (n := M) (xs := #[.slice A6 L6.length c6]) Try.underlying64 hi1 hz1 hs1 hb1 rfl (by decide) rfl (OwnV.congr (F := valC U) M6.out.ro (fun a b ha hb => valC_lt _ _ ha b)) (by have := M6.out.cur.lt; have := M6.out.cur.base; omega) ⟨rfl, rfl, rfl, rfl⟩ rfl (fun q hq => by (obtain rfl : q = 0 := by omega); rw [valC_new]; rfl) (fun q hq => by rw [valC_new]; rfl) (by omega) (by decide) ?_
                   intro v7 w7 hv7 hg7 hb7
                   obtain ⟨A7, p7, rfl, hs7, hf7⟩ := hv7.slice
                   obtain ⟨f1, k7, z7, l7, f5⟩ := MdS.finR M6.out hg7 hv7 CI6.out
                   have F1 := Lib.hid f1
                   have B7 := Lib.hid (B6.out.trans f5)
                   clear hs7 hf7 hv7 hg7 hb7 f1 f5)
                | (go_simp
                   go_at_call 72
                   refine (l6Any_any B g _ ?cc).mono ?_
                   case cc => exact MdS.cur (show MdS B g (w.heap.size + 1) _ i M Ao co Ar cr nm V U by repeat' (first | (with_reducible exact M8.out) | (with_reducible refine MdS.drew ?_)))
                   rintro e w6 ⟨A6, c6, L6, rfl, o6, nk6, n61, n62, cc6, hg6⟩
                   have M6 := Lib.hid (MdS.cursor (w' := w6) (show MdS B g (w.heap.size + 1) _ i M Ao co Ar cr nm V U by repeat' (first | (with_reducible exact M8.out) | (with_reducible refine MdS.drew ?_))) hg6 cc6)
                   have CI6 := Lib.hid (CndIn.of_own o6 (by omega) nk6)
                   have m6 := M6.out.m1
                   have z6 := M6.out.row.frozen 1
                   have lm6 := M6.out.row.lt
                   have lm7 : w.heap.size < w6.heap.size := by omega
                   have B6 := Lib.hid (Below.trans (show Below B w _ by repeat' (first | (with_reducible exact B8.out) | (with_reducible refine Below.drew ?_))) (grown_below hg6 hgB (by have := hg6.size; simp at this ⊢; omega)))
                   clear cc6 hg6 o6 nk6 n61 n62))
              all_goals
                go_wp2_with fail
                go_meet
                case rel => exact ⟨⟨i, M + 1, by omega, by omega, by omega, F1.out⟩, B7.out.setCell (by show B ≤ w.heap.size + 1; omega) _⟩
            · by_cases e1 : z = 1
              · subst e1
                obtain ⟨go, rfl⟩ := M8.out.formO hi1'
                have mp := M8.out.m0
                have zp := M8.out.row.frozen 0
                obtain ⟨k0, k1, kf, kl, kc, kB⟩ := M8.out.cellO hi1'
                obtain ⟨gv, cv, nv, fv, hV0, hv1, hv2, hv3, hv4, hv5⟩ := (M8.out.ov 0 hi1').2
                rw [hV0] at k1
                simp only [Nat.zero_mul, Nat.zero_add] at k0 k1 kf
                have HV0 := Lib.hid hV0
                have ci1 : (0 : Int) < i := by omega
                clear hV0 hv1 hv2 hv3 hv4 hv5
                go_wp2_with fail
                go_region_law (first
                  | (refine step_appM _ rfl _ _ 63 rfl (B := B) (i := i0) (z := .agg #[.string ByteArray.empty, .slice none 0 0]) (s := 2) (bytes := 40) (F := optV (fun j => if j = i then nm 0 else nm j) (fun j => if j = i then .slice (some ⟨gv, 0, none⟩) nv cv else V j)) (v := .slice (some ⟨go, 0, none⟩) i co) (n := i) Try.underlying63 hi0 hz0 hs0 hb0 rfl (by decide) rfl (OwnV.congr (F := optV nm V) (MdS.oo (show MdS B g (w.heap.size + 1) _ i M (some ⟨go, 0, none⟩) co Ar cr nm V U by repeat' (first | (with_reducible exact M6.out) | (with_reducible exact M8.out) | (with_reducible refine MdS.alloc ?_ _) | (with_reducible refine MdS.drewN ?_ _) | (with_reducible refine MdS.drew ?_)))) (fun a b ha hb => optV_lt _ _ _ _ ha b)) (by first | omega | (simp; omega)) ⟨_, 0, none⟩ 1 1 rfl (by first | (with_reducible exact opt_new (fresh_at (by first | (with_reducible rfl) | (simp; done)))) | exact opt_new (fresh_at (by first | (with_reducible rfl) | (simp; done)))) opt_one (by omega) (by decide) ?_
                     intro v7 w7 hv7 hg7 hb7
                     obtain ⟨A7, p7, rfl, hs7, hf7⟩ := hv7.slice
                     obtain ⟨f1, k7, z7, l7, f5⟩ := MdS.finD (show MdS B g (w.heap.size + 1) _ i M (some ⟨go, 0, none⟩) co Ar cr nm V U by repeat' (first | (with_reducible exact M6.out) | (with_reducible exact M8.out) | (with_reducible refine MdS.alloc ?_ _) | (with_reducible refine MdS.drewN ?_ _) | (with_reducible refine MdS.drew ?_))) hi1' HV0.out hg7 hv7
                     have F1 := Lib.hid f1
                     have B7 := Lib.hid ((show Below B w _ by repeat' (first | (with_reducible exact B6.out) | (with_reducible exact B8.out) | (with_reducible refine Below.alloc ?_ ?_ _) | (with_reducible refine below_drewN ?_ _) | (with_reducible refine Below.drew ?_) | omega | (simp; done) | (simp; omega))).trans f5)
                     clear hs7 hf7 hv7 hg7 hb7 f1 f5))
                all_goals
                  go_wp2_with fail
                  go_meet
                  case rel => exact ⟨⟨i + 1, M, by omega, by omega, by omega, F1.out⟩, B7.out.setCell (by show B ≤ w.heap.size + 1; omega) _⟩
              · by_cases e2 : z = 2
                · subst e2
                  obtain ⟨go, rfl⟩ := M8.out.formO hi1'
                  have mp := M8.out.m0
                  have zp := M8.out.row.frozen 0
                  obtain ⟨k0, k1, kf, kl, kc, kB⟩ := M8.out.cellO hi1'
                  simp only [Nat.zero_mul, Nat.zero_add] at k0 k1 kf
                  have ci1 : (0 : Int) < i := by omega
                  go_wp2_with fail
                  go_region_law (first
                    | (go_simp
                       go_at_call 77
                       refine (l1Pick_any B g _ 3 3 _ (Short 8) ?c1 (by omega) (by omega) ?c4 ?c5 ?c6).mono ?_
                       case c1 => exact MdS.cur (show MdS B g (w.heap.size + 1) _ i M (some ⟨go, 0, none⟩) co Ar cr nm V U by repeat' (first | (with_reducible exact M6.out) | (with_reducible exact M8.out) | (with_reducible refine MdS.alloc ?_ _) | (with_reducible refine MdS.drewN ?_ _) | (with_reducible refine MdS.drew ?_)))
                       case c4 => (simp; omega)
                       case c5 => (first | (simp; done) | (simp; omega))
                       case c6 => (intro j hj; rcases (by omega : j = 0 ∨ j = 1 ∨ j = 2) with rfl | rfl | rfl <;> exact ⟨_, by simp [go_sem]; rfl, _, rfl, by decide⟩)
                       rintro e w6 ⟨vv, rfl, ⟨zz, rfl, hz⟩, c6, hg6⟩
                       have M6 := Lib.hid (MdS.cursor (w' := w6) (show MdS B g (w.heap.size + 1) _ i M (some ⟨go, 0, none⟩) co Ar cr nm V U by repeat' (first | (with_reducible exact M6.out) | (with_reducible exact M8.out) | (with_reducible refine MdS.alloc ?_ _) | (with_reducible refine MdS.drewN ?_ _) | (with_reducible refine MdS.drew ?_))) hg6 c6)
                       have ZZ : zz.size ≤ 8 := hz
                       have m6 := M6.out.m0
                       have z6 := M6.out.row.frozen 0
                       have lm6 := M6.out.row.lt
                       obtain ⟨_, o6, f6, l6, _, _⟩ := M6.out.cellO hi1'
                       simp only [Nat.zero_mul, Nat.zero_add] at o6 f6
                       have B6 := Lib.hid (Below.trans (show Below B w _ by repeat' (first | (with_reducible exact B6.out) | (with_reducible exact B8.out) | (with_reducible refine Below.alloc ?_ ?_ _) | (with_reducible refine below_drewN ?_ _) | (with_reducible refine Below.drew ?_) | omega | (simp; done) | (simp; omega))) (grown_below hg6 hgB (by have := hg6.size; simp at this ⊢; omega)))
                       clear hz c6 hg6))
                  all_goals
                    go_wp2_with fail
                    go_meet
                    case rel => exact ⟨⟨i, M, by omega, by omega, by omega, MdS.fin2 (by repeat' (first | (with_reducible exact M6.out) | (with_reducible exact M8.out) | (with_reducible refine MdS.alloc ?_ _) | (with_reducible refine MdS.drewN ?_ _) | (with_reducible refine MdS.drew ?_))) hi1' (by first | rfl | simp) (by first | decide | exact ZZ) ZZ⟩, by repeat' (first | (with_reducible exact B6.out) | (with_reducible refine Below.alloc ?_ ?_ _) | (with_reducible refine Below.setCell ?_ ?_ _) | (with_reducible refine Below.drew ?_) | (show B ≤ go; omega) | (simp; done) | (simp; omega))⟩
                · go_wp2_with fail
                  go_meet
                  case rel => exact ⟨⟨i, M, by omega, by omega, by omega, _, _, _, _, _, _, _, by repeat' (first | (with_reducible exact M6.out) | (with_reducible exact M8.out) | (with_reducible refine MdS.alloc ?_ _) | (with_reducible refine MdS.drewN ?_ _) | (with_reducible refine MdS.drew ?_))⟩, by repeat' (first | (with_reducible exact B6.out) | (with_reducible exact B8.out) | (with_reducible refine Below.alloc ?_ ?_ _) | (with_reducible refine below_drewN ?_ _) | (with_reducible refine Below.drew ?_) | omega | (simp; done) | (simp; omega))⟩
          case rest =>
            obtain ⟨⟨N, M2, hN1, hN4, hM4, ⟨Ao2, co2, Ar2, cr2, nm2, V2, U2, hmd⟩⟩, hbe⟩ := hcut
            obtain ⟨go, rfl⟩ := hmd.formO hN1
            have BC := Lib.hid hbe
            have MC := Lib.hid hmd
            clear hmd hbe M8 B8 MM BP
            go_wp2_with fail
            go_loopw [6] (fun jv wr => ∃ (j : Nat) (V' : Nat → Value), jv = .int .i64 (j : Int) ∧ j ≤ N ∧ MdS B g (w.heap.size + 1) wr N M2 (some ⟨go, 0, none⟩) co2 Ar2 cr2 nm2 V' U2 ∧ Below B w wr) (fun jv _ => N - (intOf jv).toNat)
            case atStart => exact ⟨0, V2, rfl, by omega, MC.out, BC.out⟩
            case round =>
              clear MC BC
              obtain ⟨j, V', rfl, hj, hmd, hbe⟩ := hrel
              have M9 := Lib.hid hmd
              have B9 := Lib.hid hbe
              clear hmd hbe
              have m9 := M9.out.m0
              have z9 := M9.out.row.frozen 0
              have lm9 := M9.out.row.lt
              have lc9 := M9.out.cur.lt
              by_cases hjN : (j : Int) < (N : Int)
              case neg =>
                obtain rfl : j = N := by omega
                have r0 := M9.out.res _ rfl
                have rc0 := r0.cell (i := 0) (by omega)
                have rc1 := r0.cell (i := 1) (by omega)
                have rf0 := r0.frozen 0
                have rf1 := r0.frozen 1
                have rlt := r0.lt
                have R0 := Lib.hid r0
                have m91 := M9.out.m1
                have z91 := M9.out.row.frozen 1
                clear r0
                go_wp2_with fail
                have R1 := (row_setM (row_setM R0.out (.slice (some ⟨go, 0, none⟩) j co2)).1 (.slice Ar2 M2 cr2)).2
                obtain ⟨cm, hm, _, _⟩ := R0.out
                have DN := M9.out.mdF.keep hm (grown_trans (setCell_grown wr ⟨w.heap.size, 0, none⟩ (.slice (some ⟨go, 0, none⟩) j co2)) (setCell_grown _ ⟨w.heap.size, 1, none⟩ (.slice Ar2 M2 cr2)))
                refine fin_model (r := w.heap.size) (a := .slice (some ⟨go, 0, none⟩) j co2) (b := .slice Ar2 M2 cr2) rfl (R1.cell (i := 0) (by omega)) (R1.cell (i := 1) (by omega)) ?_
                exact ⟨_, _, _, _, _, _, rfl, DN, (B9.out.setCell (by show B ≤ w.heap.size; omega) _).setCell (by show B ≤ w.heap.size; omega) _⟩
              have hj' : j < N := by omega
              obtain ⟨k0, k1, kf, kl, kc, kB⟩ := M9.out.cellO hj'
              obtain ⟨gv, cv, nv, fv, hVj, hv1, hv2, ⟨hv3, hv4⟩, hv5, hv6⟩ := (M9.out.ov j hj').2
              rw [hVj] at k1
              have ROW := Lib.hid hv5
              have SZ := Lib.hid hv6
              have uj : IntKind.i64.wrap ((j : Int) + 1) = (j : Int) + 1 := IntWalk.i64_in _ ⟨by omega, by omega⟩
              have cj0 : (0 : Int) ≤ j := by omega
              clear hVj hv5 hv6
              go_wp2_with fail
              go_region_law (first
                | (refine step_appM _ rfl _ _ 29 rfl (B := wr.heap.size) (i := i2) (z := .string ByteArray.empty) (s := 1) (bytes := 16) (F := fun q _ => .string (fv q)) (v := .slice (some ⟨_, 0, none⟩) 0 0) (n := 0) Try.underlying29 hi2 hz2 hs2 hb2 rfl (by decide) rfl (own_emptyS (by repeat' (first | (refine heap_at _ ?_; (first | (with_reducible rfl) | (simp; done))) | refine heap_drew ?_ | refine heap_before ?_ _)) (by omega) _) (by first | omega | (simp; done) | (simp; omega)) ⟨gv, 0, none⟩ nv cv rfl (row_src ROW.out (by repeat' (first | (with_reducible exact Below.refl _ _) | (with_reducible refine Below.alloc ?_ ?_ _) | (with_reducible refine below_drewN ?_ _) | (with_reducible refine Below.drew ?_) | omega | (simp; done) | (simp; omega)))) (fun _ _ _ _ => rfl) (by omega) (by decide) ?_
                   intro v7 w7 hv7 hg7 hb7
                   rw [Nat.zero_add] at hv7
                   obtain ⟨A7, p7, rfl, hs7, hf7⟩ := hv7.slice
                   obtain ⟨f1, f2, f3⟩ := MdS.finC M9.out hj' (by repeat' (first | (with_reducible exact Below.refl _ _) | (with_reducible refine Below.alloc ?_ ?_ _) | (with_reducible refine below_drewN ?_ _) | (with_reducible refine Below.drew ?_) | omega | (simp; done) | (simp; omega))) (by first | omega | (simp; done) | (simp; omega)) hg7 hv7 hv3 hv4 SZ.out
                   have F1 := Lib.hid f2
                   have m7 := f1.m0
                   have z7 := f1.row.frozen 0
                   have lm7 := f1.row.lt
                   obtain ⟨_, o7, f7, l7, _, _⟩ := f1.cellO hj'
                   have B7 := Lib.hid (below_then f3 (by omega) B9.out)
                   clear hs7 hf7 hv7 hg7 hb7 f1 f2 f3))
              all_goals
                go_wp2_with fail
                go_roundw
                case rel => exact ⟨j + 1, _, by go_num, by omega, F1.out, B7.out.setCell (by show B ≤ go; omega) _⟩
                case measure => simp [intOf]; omega
        have un : IntKind.i64.wrap ((n : Int) - 1) = (n : Int) - 1 := IntWalk.i64_in _ ⟨by omega, by omega⟩
        have mp := MM.out.m1
        have zp := MM.out.row.frozen 1
        have lmp := MM.out.row.lt
        have lcp := MM.out.cur.lt
        have lm1 : w.heap.size < wr.heap.size := by omega
        go_wp2_with fail
        go_region_law (first
          | (refine step_appS w6 rfl _ _ 64 rfl (B := B) (i := i1) (z := .slice none 0 0) (s := 1) (bytes := 24) (F := valC (fun j => if j = M then .slice A6 L6.length c6 else U j)) (v := .slice Ar M cr) (n := M) (xs := #[.slice A6 L6.length c6]) Try.underlying64 hi1 hz1 hs1 hb1 rfl (by decide) rfl (OwnV.congr (F := valC U) M6.out.ro (fun a b ha hb => valC_lt _ _ ha b)) (by have := M6.out.cur.lt; have := M6.out.cur.base; omega) ⟨rfl, rfl, rfl, rfl⟩ rfl (fun q hq => by (obtain rfl : q = 0 := by omega); rw [valC_new]; rfl) (fun q hq => by rw [valC_new]; rfl) (by omega) (by decide) ?_
             intro v7 w7 hv7 hg7 hb7
             obtain ⟨A7, p7, rfl, hs7, hf7⟩ := hv7.slice
             obtain ⟨f1, k7, z7, l7, f5⟩ := MdS.finR M6.out hg7 hv7 CI6.out
             have F1 := Lib.hid f1
             have B7 := Lib.hid (B6.out.trans f5)
             clear hs7 hf7 hv7 hg7 hb7 f1 f5)
          | (go_simp
             go_at_call 74
             refine (l6Draw_any 2 2 rfl (by omega) B g _ ?cc).mono ?_
             case cc => exact MdS.cur (show MdS B g (w.heap.size + 1) _ i M Ao co Ar cr nm V U by repeat' (first | (with_reducible exact MM.out) | (with_reducible refine MdS.drew ?_)))
             rintro e w6 ⟨A6, c6, L6, rfl, o6, nk6, n61, n62, cc6, hg6⟩
             have M6 := Lib.hid (MdS.cursor (w' := w6) (show MdS B g (w.heap.size + 1) _ i M Ao co Ar cr nm V U by repeat' (first | (with_reducible exact MM.out) | (with_reducible refine MdS.drew ?_))) hg6 cc6)
             have CI6 := Lib.hid (CndIn.of_own o6 (by omega) nk6)
             have m6 := M6.out.m1
             have z6 := M6.out.row.frozen 1
             have lm6 := M6.out.row.lt
             have lm7 : w.heap.size < w6.heap.size := by omega
             have B6 := Lib.hid (Below.trans (show Below B w _ by repeat' (first | (with_reducible exact BP.out) | (with_reducible refine Below.drew ?_))) (grown_below hg6 hgB (by have := hg6.size; simp at this ⊢; omega)))
             clear cc6 hg6 o6 nk6 n61 n62))
        all_goals
          go_wp2_with fail
          go_roundw
          case rel => exact ⟨n - 1, M + 1, by go_num, by omega, F1.out, B7.out.setCell (by show B ≤ w.heap.size + 1; omega) _⟩
          case measure => simp [intOf]; omega
    have hin : i < 3 := by omega
    have lmp := MM.out.row.lt
    have lcp := MM.out.cur.lt
    have ui : IntKind.i64.wrap ((i : Int) + 1) = (i : Int) + 1 := IntWalk.i64_in _ ⟨by omega, by omega⟩
    go_upto_block 1 with fail
    go_cut [] from 8 to 29 (fun w' => MdE B g (w.heap.size + 1) w' (i + 1) 0 ∧ Below B w w')
    case first =>
      exact block1_any MM.out BP.out hin hlt _ _ _ _ _ _ _ _ _ _ _ _ _ _ _ _ _ _ _ _ _ _ (by assumption) (by assumption)
    case rest =>
      obtain ⟨hm, hb⟩ := hcut
      go_wp2_with fail
      go_roundw
      case rel => exact ⟨i + 1, by omega, by go_num, hm, hb⟩
      case measure => simp [intOf]; omega
end Go.Proofs.Ytkkhaamklbolmaa
