/-
  Contract of the reference's l5Reach. (Printed by gen/reach.py.)
-/
import Derived.Test.YtccejhhhengpcaaReachSt
namespace Go.Proofs.Ytccejhhhengpcaa
open Go.RowKit num
set_option linter.unusedVariables false
set_option linter.unusedSimpArgs false

theorem drewN_drew (w : World) (n : Nat) : (w.drewN n).drew = w.drewN (n + 1) := rfl
/-- what the search hands back -/
def ReachPost (w : World) (L : List Ent) (e : Ending) (w' : World) : Prop := ∃ gu cu gv cv, e = .returned (.tuple #[.slice (some ⟨gu, 0, none⟩) L.length cu, .slice (some ⟨gv, 0, none⟩) L.length cv]) ∧ ReachSt w.heap.size w' gu cu gv cv L ∧ Below w.heap.size w w'
set_option maxRecDepth 20000 in
set_option maxHeartbeats 8000000 in
theorem l5Reach_any (w : World) (A : Option Addr) (n c : Nat) (fr to : Nat → ByteArray) (nu de : Nat → Int) (h : UnitRuleF w A n c fr to nu de) (hok : okT (tb n fr to nu de)) (a : ByteArray) (ha : a.size ≤ 9223372036854775807) :
    Calls Try.prog 36 #[.slice A n c, .string a] w (ReachPost w (srch (tb n fr to nu de) a)) := by
  have hn12 : n ≤ 12 := hok.1
  have H := Lib.hid h
  have OK := Lib.hid hok
  obtain ⟨T, hT⟩ : ∃ T, T = tb n fr to nu de := ⟨_, rfl⟩
  have SIZE := Lib.hid (fun (L : List Ent) (g : Good T a L) => good_size g ha (fun k hk => by rw [hT] at hk ⊢; exact ⟨h.z_fr k hk, h.z_to k hk⟩))
  have LEN := Lib.hid (fun (L : List Ent) (g : Good T a L) => (show L.length ≤ 25 by have h1 := g.len; have h2 : T.n ≤ 12 := (by rw [hT]; exact hn12); omega))
  have HT := Lib.hid hT
  rw [← hT]
  clear h hok hT ha
  obtain ⟨i0, hi0, hz0, hs0, hb0⟩ := str_parts
  obtain ⟨i1, hi1, hz1, hs1, hb1⟩ := ratio_parts
  go_enter Try.func36, Try.ntmps36
  go_wp2_with fail
  have ST0 := Lib.hid (reach_start w w (Nat.le_refl _) a)
  have BE0 := Lib.hid (show Below w.heap.size w ((w.alloc (.cells #[.string a] 9)).alloc (.cells #[.int .i64 1, .int .i64 1] 30)) from ((Below.refl _ _).alloc (Nat.le_refl _) _).alloc (by simp) _)
  go_loopw [6, 7, 8, 9, 10, 11] (fun uv fv iv _ _ _ wr => ∃ (i gu cu gv cv : Nat) (L : List Ent), uv = .slice (some ⟨gu, 0, none⟩) L.length cu ∧ fv = .slice (some ⟨gv, 0, none⟩) L.length cv ∧ iv = .int .i64 (i : Int) ∧ i ≤ L.length ∧ ReachSt w.heap.size wr gu cu gv cv L ∧ Good T a L ∧ ToS T a i 0 L ∧ Below w.heap.size w wr) (fun _ _ iv _ _ _ _ => 26 - (intOf iv).toNat)
  case atStart => exact ⟨0, w.heap.size, 1, w.heap.size + 1, 1, one a, rfl, rfl, rfl, Nat.zero_le _, ST0.out, Good.start T a, ToS.start T a, BE0.out⟩
  case round =>
    clear ST0 BE0
    obtain ⟨i, gu, cu, gv, cv, L, rfl, rfl, rfl, hiL, hst, hg, hto, hbe⟩ := hrel
    have hL25 := LEN.out L hg
    have ST := Lib.hid hst
    have GO := Lib.hid hg
    have TO := Lib.hid hto
    have BE := Lib.hid hbe
    clear hst hg hto hbe
    by_cases hlt : i < L.length
    case neg =>
      have hlt' : ¬ (i : Int) < (L.length : Int) := by omega
      have e := TO.out.done (by omega)
      have ST2 := Lib.hid (e ▸ ST.out)
      have E := Lib.hid e
      clear e
      go_wp2_with fail
      go_ret2
      exact ⟨gu, cu, gv, cv, by rw [← E.out]; rfl, ST2.out, BE.out⟩
    have hlt' : (i : Int) < (L.length : Int) := by omega
    obtain ⟨wo, rfl⟩ : ∃ wo : World, wo = wr := ⟨_, rfl⟩
    go_wp2_with fail
    go_loopw [6, 7, 9, 10, 11] (fun uv fv kv _ _ wr => ∃ (k gu cu gv cv : Nat) (L : List Ent), uv = .slice (some ⟨gu, 0, none⟩) L.length cu ∧ fv = .slice (some ⟨gv, 0, none⟩) L.length cv ∧ kv = .int .i64 (k : Int) ∧ k ≤ n ∧ i < L.length ∧ ReachSt w.heap.size wr gu cu gv cv L ∧ Good T a L ∧ ToS T a i k L ∧ Below w.heap.size w wr) (fun _ _ kv _ _ _ => n - (intOf kv).toNat)
    case atStart => exact ⟨0, gu, cu, gv, cv, L, rfl, rfl, rfl, Nat.zero_le _, hlt, ST.out, GO.out, TO.out, BE.out⟩
    case round =>
      clear ST GO TO BE hlt hlt' hiL hL25
      obtain ⟨k, gu, cu, gv, cv, L, rfl, rfl, rfl, hk, hlt, hst, hg, hto, hbe⟩ := hrel
      have hL25 := LEN.out L hg
      have hlt' : (i : Int) < (L.length : Int) := by omega
      have ST := Lib.hid hst
      have GO := Lib.hid hg
      have TO := Lib.hid hto
      have BE := Lib.hid hbe
      clear hst hg hto hbe
      by_cases hkn : k < n
      case neg =>
        have hkn' : ¬ (k : Int) < (n : Int) := by omega
        obtain rfl : k = n := by omega
        have NX := Lib.hid (TO.out.next hlt (by rw [HT.out]; exact Nat.le_refl _))
        go_wp2_with fail
        go_roundw
        case rel => exact ⟨i + 1, gu, cu, gv, cv, L, rfl, rfl, by go_num, by omega, ST.out, GO.out, NX.out, BE.out⟩
        case measure => simp [intOf]; omega
      have hkn' : (k : Int) < (n : Int) := by omega
      obtain ⟨b, o, rfl, hB, r0, r1, r2, r3⟩ := (H.out.call BE.out).cells hkn
      have n0 := ST.out.name hlt
      have f0 := ST.out.num hlt
      have f1 := ST.out.den hlt
      have lu := ST.out.ltu
      have lv := ST.out.ltv
      have hne := ST.out.ne
      have hkT : k < T.n := by rw [HT.out]; exact hkn
      have cM := cand_mulF (T := T) (k := k) hlt
      have cD := cand_divF (T := T) (k := k) hlt
      have cN := cand_noneF (T := T) (k := k) hlt
      have hem := (okT.ok (HT.out ▸ OK.out : okT T)).em k hkT
      have hpM := mulP_den (faF L i) (T.fa k)
      have hpD := divP_den (faF L i) (T.fa k)
      have zTo := H.out.z_to k hkn
      have zFr := H.out.z_fr k hkn
      rw [show T.fr k = fr k by rw [HT.out]; rfl] at cM cD cN hem
      rw [show T.to k = to k by rw [HT.out]; rfl] at cM cD cN hem
      rw [show T.fa k = (nu k, de k) by rw [HT.out]; rfl] at cM cD hpM hpD
      have cCM : ∀ W : World, Calls Try.prog 20 #[.agg #[.int .i64 (faF L i).1, .int .i64 (faF L i).2], .agg #[.int .i64 (nu k), .int .i64 (de k)]] W fun e w' => e = .returned (.agg #[.int .i64 (mulP (faF L i) (nu k, de k)).1, .int .i64 (mulP (faF L i) (nu k, de k)).2]) ∧ Below W.heap.size W w' := fun W => spec_MultiplyRatios _ _ _ _ W
      have CM := Lib.hid cCM
      clear cCM
      have cCD : ∀ W : World, Calls Try.prog 57 #[.agg #[.int .i64 (faF L i).1, .int .i64 (faF L i).2], .agg #[.int .i64 (nu k), .int .i64 (de k)]] W fun e w' => e = .returned (.agg #[.int .i64 (divP (faF L i) (nu k, de k)).1, .int .i64 (divP (faF L i) (nu k, de k)).2]) ∧ Below W.heap.size W w' := fun W => spec_DivideRatios _ _ _ _ W
      have CD := Lib.hid cCD
      clear cCD
      obtain ⟨nm, hnm⟩ : ∃ nm, nm = nmF L i := ⟨_, rfl⟩
      obtain ⟨af, haf⟩ : ∃ af, af = fr k := ⟨_, rfl⟩
      obtain ⟨at_, hat⟩ : ∃ at_, at_ = to k := ⟨_, rfl⟩
      obtain ⟨pM, hM⟩ : ∃ p, p = mulP (faF L i) (nu k, de k) := ⟨_, rfl⟩
      obtain ⟨pD, hD⟩ : ∃ p, p = divP (faF L i) (nu k, de k) := ⟨_, rfl⟩
      rw [← hnm] at n0 cM cD cN
      rw [← haf] at r0 cM cD cN hem zFr
      rw [← hat] at r1 cM cD cN hem zTo
      rw [← hM] at CM cM hpM
      rw [← hD] at CD cD hpD
      clear hnm haf hat hM hD
      generalize (faF L i).1 = f0n at *
      generalize (faF L i).2 = f0d at *
      generalize nu k = nk at *
      generalize de k = dk at *
      have CN := Lib.hid cN
      have CM2 := Lib.hid cM
      have CD2 := Lib.hid cD
      have PM := Lib.hid hpM
      have PD := Lib.hid hpD
      have EM := Lib.hid hem
      clear cN cM cD hpM hpD hem

      go_wp2_with fail
      obtain ⟨Y, hY⟩ : ∃ Y, Y = wr.alloc (.cells #[.int .i64 0, .int .i64 0] 30) := ⟨_, rfl⟩
      have HY := Lib.hid hY
      have BX := Lib.hid (show Row Y wr.heap.size 30 2 (boxF (0, 0)) by rw [hY]; exact row_lit _ _ _ 2 _ (by decide) (fun i hi => by unfold boxF; rcases (by omega : i = 0 ∨ i = 1) with rfl | rfl <;> rfl))
      have STY := Lib.hid (show ReachSt w.heap.size Y gu cu gv cv L by rw [hY]; exact ST.out.alloc _)
      have BY := Lib.hid (show Below w.heap.size w Y by rw [hY]; exact BE.out.alloc BE.out.size _)
      have y0 : Y.cell? ⟨b, o + k * 4, none⟩ = some (.string af) := by rw [hY]; exact (World.cell?_alloc_lt _ _ _ hB).trans r0
      have y1 : Y.cell? ⟨b, o + k * 4 + 1, none⟩ = some (.string at_) := by rw [hY]; exact (World.cell?_alloc_lt _ _ _ hB).trans r1
      have y2 : Y.cell? ⟨b, o + k * 4 + 2, none⟩ = some (.int .i64 nk) := by rw [hY]; exact (World.cell?_alloc_lt _ _ _ hB).trans r2
      have y3 : Y.cell? ⟨b, o + k * 4 + 3, none⟩ = some (.int .i64 dk) := by rw [hY]; exact (World.cell?_alloc_lt _ _ _ hB).trans r3
      have y4 : Y.cell? ⟨gu, i, none⟩ = some (.string nm) := by rw [hY]; exact (World.cell?_alloc_lt _ _ _ lu.2).trans n0
      have y5 : Y.cell? ⟨gv, i * 2, none⟩ = some (.int .i64 f0n) := by rw [hY]; exact (World.cell?_alloc_lt _ _ _ lv.2).trans f0
      have y6 : Y.cell? ⟨gv, i * 2 + 1, none⟩ = some (.int .i64 f0d) := by rw [hY]; exact (World.cell?_alloc_lt _ _ _ lv.2).trans f1
      have hbu : wr.heap.size ≠ gu := by omega
      have hbv : wr.heap.size ≠ gv := by omega
      have hwb : w.heap.size ≤ wr.heap.size := BE.out.size
      rw [← HY.out]
      clear HY hY r0 r1 r2 r3 n0 f0 f1 hB ST BE lu lv
      generalize wr.heap.size = bx at *
      by_cases e1 : af = nm
      case pos =>
        have t1 : (af.toList == nm.toList) = true := by rw [e1]; exact txt_same nm
        have cc := CM2.out e1
        have CC := Lib.hid cc
        have hem : at_.toList.isEmpty = false := by rw [emp_size]; simpa using EM.out.2
        clear cc e1
        go_wp2_with fail
        go_quiet (fail)
        go_wp2_with fail
        refine wp_region_quiet_tail (C := fun w' => ∃ n, w' = Y.drewN n) 9 (by kernel_rfl) (by kernel_rfl) ⟨_ + 1, rfl⟩ ?_
        simp only [List.take_succ_cons, List.take_zero, List.drop_succ_cons, List.drop_zero]
        repeat (first | go_big_quiet_step (fail) | quiet_step (fail))
        refine wpQuiet_nil ?_
        rintro w4 ⟨n4, hw4⟩
        have ST4 := Lib.hid (show ReachSt w.heap.size w4 gu cu gv cv L by rw [hw4]; exact STY.out.drewN n4)
        have B4 := Lib.hid (show Below w.heap.size w w4 by rw [hw4]; exact below_drewN BY.out n4)
        have BX4 := Lib.hid (show Row w4 bx 30 2 (boxF (0, 0)) by rw [hw4]; exact BX.out.drewN n4)
        clear hw4 y0 y1 y2 y3 y4 y5 y6 STY BY BX
        go_wp2_with fail
        refine (CM.out _).mono ?_; rintro e w5 ⟨rfl, b5⟩
        have ST5 := Lib.hid (ST4.out.call b5)
        have B5 := Lib.hid (B4.out.trans (b5.mono B4.out.size))
        have BX5 := Lib.hid (BX4.out.call b5)
        have g0 : w5.cell? ⟨bx, 0, none⟩ = some (.int .i64 0) := BX5.out.cell (i := 0) (by omega)
        have g1 : w5.cell? ⟨bx, 1, none⟩ = some (.int .i64 0) := BX5.out.cell (i := 1) (by omega)
        have z0 := BX5.out.frozen 0
        have z1 := BX5.out.frozen 1
        clear b5 ST4 B4 BX4
        obtain ⟨W6, hW6⟩ : ∃ W6, W6 = (w5.setCell ⟨bx, 0, none⟩ (.int .i64 pM.1)).setCell ⟨bx, 1, none⟩ (.int .i64 pM.2) := ⟨_, rfl⟩
        have HW := Lib.hid hW6
        have ST6 := Lib.hid (show ReachSt w.heap.size W6 gu cu gv cv L by rw [hW6]; exact ST5.out.far2 hbu hbv _ _)
        have B6 := Lib.hid (show Below w.heap.size w W6 by rw [hW6]; exact (B5.out.setCell (p := ⟨bx, 0, none⟩) hwb _).setCell (p := ⟨bx, 1, none⟩) hwb _)
        have BX6 := Lib.hid (show Row W6 bx 30 2 (boxF pM) by rw [hW6]; exact box_store BX5.out pM)
        clear hW6 ST5 B5 BX5
        by_cases hf : 0 < pM.2
        case neg =>
          have hd : decide (0 < pM.2) = false := by simp; omega
          have TT := Lib.hid (TO.out.skip hlt hkT CC.out (fun q => hf (PM.out.2 q.1)))
          clear hf
          go_wp2_with fail
          go_roundw
          case rel => exact ⟨k + 1, gu, cu, gv, cv, L, rfl, rfl, by go_num, by omega, hlt, by have h := ST6.out; rw [HW.out] at h; exact h, GO.out, TT.out, by have h := B6.out; rw [HW.out] at h; exact h⟩
          case measure => simp [intOf]; omega
        obtain ⟨z, hz⟩ : ∃ z, z = fndV (nmF L) at_ L.length := ⟨_, rfl⟩
        have HZ := Lib.hid hz
        have hzb := fndV_bd (f := nmF L) (s := at_) L.length
        rw [← hz] at hzb
        have FND := Lib.hid (l1Find_any W6 (some ⟨gu, 0, none⟩) L.length cu (nmF L) at_ (ST6.out.strs (SIZE.out L GO.out)))
        rw [← hz] at FND
        clear hz
        by_cases hn : z < 0
        case neg =>
          have hd : decide (z < 0) = false := by simp; omega
          have TT := Lib.hid (TO.out.skip hlt hkT CC.out (fun q => q.2 (by have h := hn; rw [HZ.out] at h; obtain ⟨j, _, hj, e, _⟩ := find_pos h; exact mem_nmF.2 ⟨j, hj, e⟩)))
          clear hn
          go_wp2_with fail
          rw [← HW.out]
          clear HW
          refine FND.out.mono ?_; rintro e w7 ⟨rfl, hw7⟩; obtain rfl := hw7.symm
          go_wp2_with fail
          go_roundw
          case rel => exact ⟨k + 1, gu, cu, gv, cv, L, rfl, rfl, by go_num, by omega, hlt, ST6.out, GO.out, TT.out, B6.out⟩
          case measure => simp [intOf]; omega
        have hd : decide (z < 0) = true := by simpa using hn
        have nn : at_ ∉ nms L := find_neg.1 (by rw [← HZ.out]; exact hn)
        have TT := Lib.hid (TO.out.push hlt hkT CC.out (PM.out.1 hf) nn)
        have GG := Lib.hid (GO.out.push hlt hkT CC.out (PM.out.1 hf) nn)
        have L2 := Lib.hid (LEN.out _ GG.out)
        have lu := ST6.out.ltu
        have lv := ST6.out.ltv
        have lb := BX6.out.lt
        clear hn nn
        go_wp2_with fail
        rw [← HW.out]
        clear HW
        refine FND.out.mono ?_; rintro e w7 ⟨rfl, hw7⟩; obtain rfl := hw7.symm
        clear FND
        go_wp2_with (at_builtin; refine appS W6 rfl _ _ 41 rfl (B := w.heap.size) (i := i0) (z := .string ByteArray.empty) (s := 1) (bytes := 16) (F := namC (L ++ [(at_, pM)])) (v := .slice (some ⟨gu, 0, none⟩) L.length cu) (n := L.length) (xs := #[.string at_]) Try.underlying41 hi0 hz0 hs0 hb0 rfl (by decide) rfl (ST6.out.nam.congr (fun a b ha hb => namC_app _ _ ha)) B6.out.size rfl (fun q hq => by obtain rfl : q = 0 := (by omega); simp [namC_new]) (fun q hq => by rw [namC_new]; rfl) (by omega) (by decide) ?_)
        intro v7 w7 hv7 hg7 hb7
        obtain ⟨gu2, cu2, rfl⟩ := hv7.form (by omega)
        have hgu := own_or hb7
        have R7 := Lib.hid (ST6.out.rat.grown hg7 (.inr (fun e => hne (by simpa [Value.ownBlock] using e.symm))))
        have BX7 := Lib.hid (BX6.out.own hg7 (own_ne hbu.symm))
        have B7 := Lib.hid (below_own B6.out hg7 (fun r hr => by simp [Value.ownBlock] at hr; omega) B6.out.size)
        have N7 := Lib.hid hv7
        have lw := hg7.size
        have lg2 := (hv7.lt (k := gu2) rfl).2
        have k0 : w7.cell? ⟨bx, 0, none⟩ = some (.int .i64 pM.1) := BX7.out.cell (i := 0) (by omega)
        have k1 : w7.cell? ⟨bx, 1, none⟩ = some (.int .i64 pM.2) := BX7.out.cell (i := 1) (by omega)
        have hne2 : gu2 ≠ gv := by omega
        clear hv7 hg7 hb7 ST6 B6 BX6
        go_wp2_with (at_builtin; refine appS w7 rfl _ _ 60 rfl (B := w.heap.size) (i := i1) (z := .agg #[.int .i64 0, .int .i64 0]) (s := 2) (bytes := 16) (F := ratC (L ++ [(at_, pM)])) (v := .slice (some ⟨gv, 0, none⟩) L.length cv) (n := L.length) (xs := #[.int .i64 pM.1, .int .i64 pM.2]) Try.underlying60 hi1 hz1 hs1 hb1 rfl (by decide) rfl (R7.out.congr (fun a b ha hb => ratC_app _ _ ha)) B7.out.size rfl (fun q hq => by rcases (by omega : q = 0 ∨ q = 1) with rfl | rfl <;> simp [ratC_new]) (fun q hq => by rw [ratC_new]; split <;> rfl) (by omega) (by decide) ?_)
        intro v8 w8 hv8 hg8 hb8
        obtain ⟨gv2, cv2, rfl⟩ := hv8.form (by omega)
        have hgv := own_or hb8
        have N8 := Lib.hid (N7.out.grown hg8 (.inr (fun e => hne2 (by simpa [Value.ownBlock] using e))))
        have R8 := Lib.hid hv8
        have B8 := Lib.hid (below_own B7.out hg8 (fun r hr => by simp [Value.ownBlock] at hr; omega) B7.out.size)
        have hne3 : gu2 ≠ gv2 := by omega
        clear hv8 hg8 hb8 N7 R7 B7 BX7 k0 k1
        go_wp2_with fail
        go_roundw
        case rel => exact ⟨k + 1, gu2, cu2, gv2, cv2, L ++ [(at_, pM)], by rw [List.length_append]; rfl, by rw [List.length_append]; rfl, by go_num, by omega, by rw [List.length_append]; omega, ReachSt.push N8.out R8.out hne3, GG.out, TT.out, B8.out⟩
        case measure => simp [intOf]; omega
      have t1 := txt_other e1
      have E1 := Lib.hid e1
      clear e1
      by_cases e2 : at_ = nm
      case pos =>
        have t2 : (at_.toList == nm.toList) = true := by rw [e2]; exact txt_same nm
        have cc := CD2.out E1.out e2
        have CC := Lib.hid cc
        have hem : af.toList.isEmpty = false := by rw [emp_size]; simpa using EM.out.1
        clear cc e2
        go_wp2_with fail
        go_quiet (fail)
        go_wp2_with fail
        go_quiet (fail)
        go_wp2_with fail
        refine wp_region_quiet_tail (C := fun w' => ∃ n, w' = Y.drewN n) 9 (by kernel_rfl) (by kernel_rfl) ⟨_ + 1, rfl⟩ ?_
        simp only [List.take_succ_cons, List.take_zero, List.drop_succ_cons, List.drop_zero]
        repeat (first | go_big_quiet_step (fail) | quiet_step (fail))
        refine wpQuiet_nil ?_
        rintro w4 ⟨n4, hw4⟩
        have ST4 := Lib.hid (show ReachSt w.heap.size w4 gu cu gv cv L by rw [hw4]; exact STY.out.drewN n4)
        have B4 := Lib.hid (show Below w.heap.size w w4 by rw [hw4]; exact below_drewN BY.out n4)
        have BX4 := Lib.hid (show Row w4 bx 30 2 (boxF (0, 0)) by rw [hw4]; exact BX.out.drewN n4)
        clear hw4 y0 y1 y2 y3 y4 y5 y6 STY BY BX
        go_wp2_with fail
        refine (CD.out _).mono ?_; rintro e w5 ⟨rfl, b5⟩
        have ST5 := Lib.hid (ST4.out.call b5)
        have B5 := Lib.hid (B4.out.trans (b5.mono B4.out.size))
        have BX5 := Lib.hid (BX4.out.call b5)
        have g0 : w5.cell? ⟨bx, 0, none⟩ = some (.int .i64 0) := BX5.out.cell (i := 0) (by omega)
        have g1 : w5.cell? ⟨bx, 1, none⟩ = some (.int .i64 0) := BX5.out.cell (i := 1) (by omega)
        have z0 := BX5.out.frozen 0
        have z1 := BX5.out.frozen 1
        clear b5 ST4 B4 BX4
        obtain ⟨W6, hW6⟩ : ∃ W6, W6 = (w5.setCell ⟨bx, 0, none⟩ (.int .i64 pD.1)).setCell ⟨bx, 1, none⟩ (.int .i64 pD.2) := ⟨_, rfl⟩
        have HW := Lib.hid hW6
        have ST6 := Lib.hid (show ReachSt w.heap.size W6 gu cu gv cv L by rw [hW6]; exact ST5.out.far2 hbu hbv _ _)
        have B6 := Lib.hid (show Below w.heap.size w W6 by rw [hW6]; exact (B5.out.setCell (p := ⟨bx, 0, none⟩) hwb _).setCell (p := ⟨bx, 1, none⟩) hwb _)
        have BX6 := Lib.hid (show Row W6 bx 30 2 (boxF pD) by rw [hW6]; exact box_store BX5.out pD)
        clear hW6 ST5 B5 BX5
        by_cases hf : 0 < pD.2
        case neg =>
          have hd : decide (0 < pD.2) = false := by simp; omega
          have TT := Lib.hid (TO.out.skip hlt hkT CC.out (fun q => hf (PD.out.2 q.1)))
          clear hf
          go_wp2_with fail
          go_roundw
          case rel => exact ⟨k + 1, gu, cu, gv, cv, L, rfl, rfl, by go_num, by omega, hlt, by have h := ST6.out; rw [HW.out] at h; exact h, GO.out, TT.out, by have h := B6.out; rw [HW.out] at h; exact h⟩
          case measure => simp [intOf]; omega
        obtain ⟨z, hz⟩ : ∃ z, z = fndV (nmF L) af L.length := ⟨_, rfl⟩
        have HZ := Lib.hid hz
        have hzb := fndV_bd (f := nmF L) (s := af) L.length
        rw [← hz] at hzb
        have FND := Lib.hid (l1Find_any W6 (some ⟨gu, 0, none⟩) L.length cu (nmF L) af (ST6.out.strs (SIZE.out L GO.out)))
        rw [← hz] at FND
        clear hz
        by_cases hn : z < 0
        case neg =>
          have hd : decide (z < 0) = false := by simp; omega
          have TT := Lib.hid (TO.out.skip hlt hkT CC.out (fun q => q.2 (by have h := hn; rw [HZ.out] at h; obtain ⟨j, _, hj, e, _⟩ := find_pos h; exact mem_nmF.2 ⟨j, hj, e⟩)))
          clear hn
          go_wp2_with fail
          rw [← HW.out]
          clear HW
          refine FND.out.mono ?_; rintro e w7 ⟨rfl, hw7⟩; obtain rfl := hw7.symm
          go_wp2_with fail
          go_roundw
          case rel => exact ⟨k + 1, gu, cu, gv, cv, L, rfl, rfl, by go_num, by omega, hlt, ST6.out, GO.out, TT.out, B6.out⟩
          case measure => simp [intOf]; omega
        have hd : decide (z < 0) = true := by simpa using hn
        have nn : af ∉ nms L := find_neg.1 (by rw [← HZ.out]; exact hn)
        have TT := Lib.hid (TO.out.push hlt hkT CC.out (PD.out.1 hf) nn)
        have GG := Lib.hid (GO.out.push hlt hkT CC.out (PD.out.1 hf) nn)
        have L2 := Lib.hid (LEN.out _ GG.out)
        have lu := ST6.out.ltu
        have lv := ST6.out.ltv
        have lb := BX6.out.lt
        clear hn nn
        go_wp2_with fail
        rw [← HW.out]
        clear HW
        refine FND.out.mono ?_; rintro e w7 ⟨rfl, hw7⟩; obtain rfl := hw7.symm
        clear FND
        go_wp2_with (at_builtin; refine appS W6 rfl _ _ 41 rfl (B := w.heap.size) (i := i0) (z := .string ByteArray.empty) (s := 1) (bytes := 16) (F := namC (L ++ [(af, pD)])) (v := .slice (some ⟨gu, 0, none⟩) L.length cu) (n := L.length) (xs := #[.string af]) Try.underlying41 hi0 hz0 hs0 hb0 rfl (by decide) rfl (ST6.out.nam.congr (fun a b ha hb => namC_app _ _ ha)) B6.out.size rfl (fun q hq => by obtain rfl : q = 0 := (by omega); simp [namC_new]) (fun q hq => by rw [namC_new]; rfl) (by omega) (by decide) ?_)
        intro v7 w7 hv7 hg7 hb7
        obtain ⟨gu2, cu2, rfl⟩ := hv7.form (by omega)
        have hgu := own_or hb7
        have R7 := Lib.hid (ST6.out.rat.grown hg7 (.inr (fun e => hne (by simpa [Value.ownBlock] using e.symm))))
        have BX7 := Lib.hid (BX6.out.own hg7 (own_ne hbu.symm))
        have B7 := Lib.hid (below_own B6.out hg7 (fun r hr => by simp [Value.ownBlock] at hr; omega) B6.out.size)
        have N7 := Lib.hid hv7
        have lw := hg7.size
        have lg2 := (hv7.lt (k := gu2) rfl).2
        have k0 : w7.cell? ⟨bx, 0, none⟩ = some (.int .i64 pD.1) := BX7.out.cell (i := 0) (by omega)
        have k1 : w7.cell? ⟨bx, 1, none⟩ = some (.int .i64 pD.2) := BX7.out.cell (i := 1) (by omega)
        have hne2 : gu2 ≠ gv := by omega
        clear hv7 hg7 hb7 ST6 B6 BX6
        go_wp2_with (at_builtin; refine appS w7 rfl _ _ 60 rfl (B := w.heap.size) (i := i1) (z := .agg #[.int .i64 0, .int .i64 0]) (s := 2) (bytes := 16) (F := ratC (L ++ [(af, pD)])) (v := .slice (some ⟨gv, 0, none⟩) L.length cv) (n := L.length) (xs := #[.int .i64 pD.1, .int .i64 pD.2]) Try.underlying60 hi1 hz1 hs1 hb1 rfl (by decide) rfl (R7.out.congr (fun a b ha hb => ratC_app _ _ ha)) B7.out.size rfl (fun q hq => by rcases (by omega : q = 0 ∨ q = 1) with rfl | rfl <;> simp [ratC_new]) (fun q hq => by rw [ratC_new]; split <;> rfl) (by omega) (by decide) ?_)
        intro v8 w8 hv8 hg8 hb8
        obtain ⟨gv2, cv2, rfl⟩ := hv8.form (by omega)
        have hgv := own_or hb8
        have N8 := Lib.hid (N7.out.grown hg8 (.inr (fun e => hne2 (by simpa [Value.ownBlock] using e))))
        have R8 := Lib.hid hv8
        have B8 := Lib.hid (below_own B7.out hg8 (fun r hr => by simp [Value.ownBlock] at hr; omega) B7.out.size)
        have hne3 : gu2 ≠ gv2 := by omega
        clear hv8 hg8 hb8 N7 R7 B7 BX7 k0 k1
        go_wp2_with fail
        go_roundw
        case rel => exact ⟨k + 1, gu2, cu2, gv2, cv2, L ++ [(af, pD)], by rw [List.length_append]; rfl, by rw [List.length_append]; rfl, by go_num, by omega, by rw [List.length_append]; omega, ReachSt.push N8.out R8.out hne3, GG.out, TT.out, B8.out⟩
        case measure => simp [intOf]; omega
      have t2 := txt_other e2
      have TT := Lib.hid (TO.out.none hlt hkT (CN.out E1.out e2))
      clear e2
      go_wp2_with fail
      go_quiet (fail)
      go_wp2_with fail
      go_quiet (fail)
      go_wp2_with fail
      go_roundw
      case rel => exact ⟨k + 1, gu, cu, gv, cv, L, rfl, rfl, by go_num, by omega, hlt, STY.out.drewN _, GO.out, TT.out, below_drewN BY.out _⟩
      case measure => simp [intOf]; omega
end Go.Proofs.Ytccejhhhengpcaa
