/-
  Contract of the program's reached. (Printed by gen/reached.py.)
-/
import Derived.Test.YtccejhhhengpcaaReachSt
namespace Go.Proofs.Ytccejhhhengpcaa
open Go.RowKit Go.Sort num
set_option linter.unusedVariables false
set_option linter.unusedSimpArgs false

/-- what the search hands back -/
def ReachedPost (w : World) (T : Tab) (a : ByteArray) (e : Ending) (w' : World) : Prop :=
  (found T a ∧ ∃ gu cu gv cv, e = .returned (.tuple #[.slice (some ⟨gu, 0, none⟩) (srch T a).length cu, .slice (some ⟨gv, 0, none⟩) (srch T a).length cv, .bool true]) ∧ ReachSt w.heap.size w' gu cu gv cv (srch T a) ∧ Below w.heap.size w w') ∨
  (¬ found T a ∧ e = .returned (.tuple #[.slice none 0 0, .slice none 0 0, .bool false]) ∧ Below w.heap.size w w')
set_option maxRecDepth 20000 in
set_option maxHeartbeats 8000000 in
theorem reached_any (w : World) (A : Option Addr) (n c : Nat) (fr to : Nat → ByteArray) (nu de : Nat → Int) (h : UnitRuleF w A n c fr to nu de) (hok : okT (tb n fr to nu de)) (a : ByteArray) (ha : a.size ≤ 9223372036854775807) :
    Calls Try.prog 41 #[.slice A n c, .string a] w (ReachedPost w (tb n fr to nu de) a) := by
  have hn12 : n ≤ 12 := hok.1
  have H := Lib.hid h
  have OK := Lib.hid hok
  obtain ⟨T, hT⟩ : ∃ T, T = tb n fr to nu de := ⟨_, rfl⟩
  have SIZE := Lib.hid (fun (L : List Ent) (g : Good T a L) => good_size g ha (fun k hk => by rw [hT] at hk ⊢; exact ⟨h.z_fr k hk, h.z_to k hk⟩))
  have LEN := Lib.hid (fun (L : List Ent) (g : Good T a L) => (show L.length ≤ 25 by have h1 := g.len; have h2 : T.n ≤ 12 := (by rw [hT]; exact hn12); omega))
  have OKT := Lib.hid (show T.Ok by rw [hT]; exact hok.ok)
  have HT := Lib.hid hT
  rw [← hT]
  clear h hok hT ha
  obtain ⟨i0, hi0, hz0, hs0, hb0⟩ := str_parts
  obtain ⟨i1, hi1, hz1, hs1, hb1⟩ := ratio_parts
  go_enter Try.func41, Try.ntmps41
  go_wp2_with fail
  have ST0 := Lib.hid (reach_start w w (Nat.le_refl _) a)
  have BE0 := Lib.hid (show Below w.heap.size w ((w.alloc (.cells #[.string a] 9)).alloc (.cells #[.int .i64 1, .int .i64 1] 30)) from ((Below.refl _ _).alloc (Nat.le_refl _) _).alloc (by simp) _)
  go_loopw [7, 8, 9, 11, 12, 13, 14] (fun uv fv iv _ _ _ _ wr => ∃ (i gu cu gv cv : Nat) (L : List Ent), uv = .slice (some ⟨gu, 0, none⟩) L.length cu ∧ fv = .slice (some ⟨gv, 0, none⟩) L.length cv ∧ iv = .int .i64 (i : Int) ∧ i ≤ L.length ∧ ReachSt w.heap.size wr gu cu gv cv L ∧ Good T a L ∧ ToI T a i 0 L ∧ Below w.heap.size w wr) (fun _ _ iv _ _ _ _ _ => 26 - (intOf iv).toNat)
  case atStart => exact ⟨0, w.heap.size, 1, w.heap.size + 1, 1, one a, rfl, rfl, rfl, Nat.zero_le _, ST0.out, Good.start T a, ToI.start T a, BE0.out⟩
  case round =>
    clear ST0 BE0
    obtain ⟨i, gu, cu, gv, cv, L, rfl, rfl, rfl, hiL, hst, hg, hto, hbe⟩ := hrel
    have hL25 := LEN.out L hg
    have ST := Lib.hid hst
    have GO := Lib.hid hg
    have TO := Lib.hid hto
    have BE := Lib.hid hbe
    clear hst hg hto hbe
    by_cases hlt : i < L.length
    case neg =>
      have hlt' : ¬ (i : Int) < (L.length : Int) := by omega
      obtain ⟨e, hfo⟩ := TO.out.done OKT.out (by omega)
      have ST2 := Lib.hid (e ▸ ST.out)
      have E := Lib.hid e
      have FO := Lib.hid hfo
      clear e hfo
      go_wp2_with fail
      go_ret3
      exact .inl ⟨FO.out, gu, cu, gv, cv, by rw [← E.out]; rfl, ST2.out, BE.out⟩
    have hlt' : (i : Int) < (L.length : Int) := by omega
    obtain ⟨wo, rfl⟩ : ∃ wo : World, wo = wr := ⟨_, rfl⟩
    go_wp2_with fail
    go_loopw [7, 8, 11, 12, 13, 14, 27] (fun uv fv _ _ _ _ kv wr => ∃ (k gu cu gv cv : Nat) (L : List Ent), uv = .slice (some ⟨gu, 0, none⟩) L.length cu ∧ fv = .slice (some ⟨gv, 0, none⟩) L.length cv ∧ kv = .int .i64 (k : Int) ∧ k ≤ n ∧ i < L.length ∧ ReachSt w.heap.size wr gu cu gv cv L ∧ Good T a L ∧ ToI T a i k L ∧ Below w.heap.size w wr) (fun _ _ _ _ _ _ kv _ => n - (intOf kv).toNat)
    case atStart => exact ⟨0, gu, cu, gv, cv, L, rfl, rfl, rfl, Nat.zero_le _, hlt, ST.out, GO.out, TO.out, BE.out⟩
    case round =>
      clear ST GO TO BE hlt hlt' hiL hL25
      obtain ⟨k, gu, cu, gv, cv, L, rfl, rfl, rfl, hk, hlt, hst, hg, hto, hbe⟩ := hrel
      have hL25 := LEN.out L hg
      have hlt' : (i : Int) < (L.length : Int) := by omega
      have ST := Lib.hid hst
      have GO := Lib.hid hg
      have TO := Lib.hid hto
      have BE := Lib.hid hbe
      clear hst hg hto hbe
      by_cases hkn : k < n
      case neg =>
        have hkn' : ¬ (k : Int) < (n : Int) := by omega
        obtain rfl : k = n := by omega
        have NX := Lib.hid (TO.out.next hlt (by rw [HT.out]; exact Nat.le_refl _))
        go_wp2_with fail
        go_roundw
        case rel => exact ⟨i + 1, gu, cu, gv, cv, L, rfl, rfl, by go_num, by omega, ST.out, GO.out, NX.out, BE.out⟩
        case measure => simp [intOf]; omega
      have hkn' : (k : Int) < (n : Int) := by omega
      obtain ⟨b, o, rfl, hB, r0, r1, r2, r3⟩ := (H.out.call BE.out).cells hkn
      have n0 := ST.out.name hlt
      have f0 := ST.out.num hlt
      have f1 := ST.out.den hlt
      have lu := ST.out.ltu
      have lv := ST.out.ltv
      have hne := ST.out.ne
      have hkT : k < T.n := by rw [HT.out]; exact hkn
      have cM := cand_mulF (T := T) (k := k) hlt
      have cD := cand_divF (T := T) (k := k) hlt
      have cN := cand_noneF (T := T) (k := k) hlt
      have zTo := H.out.z_to k hkn
      have zFr := H.out.z_fr k hkn
      rw [show T.fr k = fr k by rw [HT.out]; rfl] at cM cD cN
      rw [show T.to k = to k by rw [HT.out]; rfl] at cM cD cN
      rw [show T.fa k = (nu k, de k) by rw [HT.out]; rfl] at cM cD
      have cCM : ∀ W : World, Calls Try.prog 60 #[.agg #[.int .i64 (faF L i).1, .int .i64 (faF L i).2], .agg #[.int .i64 (nu k), .int .i64 (de k)]] W fun e w' => e = .returned (.agg #[.int .i64 (mulP (faF L i) (nu k, de k)).1, .int .i64 (mulP (faF L i) (nu k, de k)).2]) ∧ Below W.heap.size W w' := fun W => impl_MultiplyRatios _ _ _ _ W
      have cCD : ∀ W : World, Calls Try.prog 61 #[.agg #[.int .i64 (faF L i).1, .int .i64 (faF L i).2], .agg #[.int .i64 (nu k), .int .i64 (de k)]] W fun e w' => e = .returned (.agg #[.int .i64 (divP (faF L i) (nu k, de k)).1, .int .i64 (divP (faF L i) (nu k, de k)).2]) ∧ Below W.heap.size W w' := fun W => impl_DivideRatios _ _ _ _ W
      have CM := Lib.hid cCM
      have CD := Lib.hid cCD
      clear cCM cCD
      obtain ⟨nm, hnm⟩ : ∃ nm, nm = nmF L i := ⟨_, rfl⟩
      obtain ⟨af, haf⟩ : ∃ af, af = fr k := ⟨_, rfl⟩
      obtain ⟨at_, hat⟩ : ∃ at_, at_ = to k := ⟨_, rfl⟩
      obtain ⟨pM, hM⟩ : ∃ p, p = mulP (faF L i) (nu k, de k) := ⟨_, rfl⟩
      obtain ⟨pD, hD⟩ : ∃ p, p = divP (faF L i) (nu k, de k) := ⟨_, rfl⟩
      rw [← hnm] at n0 cM cD cN
      rw [← haf] at r0 cM cD cN zFr
      rw [← hat] at r1 cM cD cN zTo
      rw [← hM] at CM cM
      rw [← hD] at CD cD
      clear hnm haf hat hM hD
      generalize (faF L i).1 = f0n at *
      generalize (faF L i).2 = f0d at *
      generalize nu k = nk at *
      generalize de k = dk at *
      have CN := Lib.hid cN
      have CM2 := Lib.hid cM
      have CD2 := Lib.hid cD
      clear cN cM cD

      by_cases e1 : af = nm
      case pos =>
        have t1 : (nm.toList == af.toList) = true := by rw [e1]; exact txt_same nm
        have cc := CM2.out e1
        have CC := Lib.hid cc
        clear cc e1
        go_wp2_with fail
        obtain ⟨Y, hY⟩ : ∃ Y, Y = (wr.alloc (.cells #[.string af, .string at_, .int .i64 nk, .int .i64 dk] 59)).alloc (.cells #[.int .i64 0, .int .i64 0] 30) := ⟨_, rfl⟩
        have HY := Lib.hid hY
        have BX := Lib.hid (show Row Y (wr.heap.size + 1) 30 2 (boxF (0, 0)) by rw [hY]; have h := row_lit (wr.alloc (.cells #[.string af, .string at_, .int .i64 nk, .int .i64 dk] 59)) #[.int .i64 0, .int .i64 0] 30 2 (boxF (0, 0)) (by decide) (fun i hi => by unfold boxF; rcases (by omega : i = 0 ∨ i = 1) with rfl | rfl <;> rfl); simpa using h)
        have STY := Lib.hid (show ReachSt w.heap.size Y gu cu gv cv L by rw [hY]; exact (ST.out.alloc _).alloc _)
        have BY := Lib.hid (show Below w.heap.size w Y by rw [hY]; exact (BE.out.alloc BE.out.size _).alloc (by have := BE.out.size; simp; omega) _)
        have y0 : Y.cell? ⟨wr.heap.size, 0, none⟩ = some (.string af) := by rw [hY]; simp [go_sem]
        have y1 : Y.cell? ⟨wr.heap.size, 1, none⟩ = some (.string at_) := by rw [hY]; simp [go_sem]
        have y2 : Y.cell? ⟨wr.heap.size, 2, none⟩ = some (.int .i64 nk) := by rw [hY]; simp [go_sem]
        have y3 : Y.cell? ⟨wr.heap.size, 3, none⟩ = some (.int .i64 dk) := by rw [hY]; simp [go_sem]
        have y4 : Y.cell? ⟨gu, i, none⟩ = some (.string nm) := by rw [hY]; exact (World.cell?_alloc_lt _ _ _ (by have := lu.2; simp; omega)).trans ((World.cell?_alloc_lt _ _ _ lu.2).trans n0)
        have y5 : Y.cell? ⟨gv, i * 2, none⟩ = some (.int .i64 f0n) := by rw [hY]; exact (World.cell?_alloc_lt _ _ _ (by have := lv.2; simp; omega)).trans ((World.cell?_alloc_lt _ _ _ lv.2).trans f0)
        have y6 : Y.cell? ⟨gv, i * 2 + 1, none⟩ = some (.int .i64 f0d) := by rw [hY]; exact (World.cell?_alloc_lt _ _ _ (by have := lv.2; simp; omega)).trans ((World.cell?_alloc_lt _ _ _ lv.2).trans f1)
        have hbu : wr.heap.size + 1 ≠ gu := by omega
        have hbv : wr.heap.size + 1 ≠ gv := by omega
        have hwb : w.heap.size ≤ wr.heap.size + 1 := by have := BE.out.size; omega
        rw [← HY.out]
        clear HY hY r0 r1 r2 r3 n0 f0 f1 hB ST BE lu lv
        generalize wr.heap.size = rx at *
        have z0 := fun d os => cell_regrown y0 d os
        have z1 := fun d os => cell_regrown y1 d os
        have z2 := fun d os => cell_regrown y2 d os
        have z3 := fun d os => cell_regrown y3 d os
        have z4 := fun d os => cell_regrown y4 d os
        have z5 := fun d os => cell_regrown y5 d os
        have z6 := fun d os => cell_regrown y6 d os
        refine wp_region_quiet_tail (C := fun w' => ∃ p : Regrown, w' = grow (redrawn Y p.d) p.os) 9 (by kernel_rfl) (by kernel_rfl) ⟨⟨Y.drawn + 1, #[]⟩, by rw [grow_empty]; rfl⟩ ?_
        simp only [List.take_succ_cons, List.take_zero, List.drop_succ_cons, List.drop_zero]
        repeat (first | go_big_quiet_step ((go_at_call 60; exact Calls.regrown_of (CM.out _))) | quiet_step ((go_at_call 60; exact Calls.regrown_of (CM.out _))))
        refine wpQuiet_nil ?_
        rintro w4 ⟨p4, hw4⟩
        have by4 : Below Y.heap.size Y w4 := by rw [hw4]; exact below_regrown Y _ _
        have ST4 := Lib.hid (STY.out.call by4)
        have B4 := Lib.hid (BY.out.trans (by4.mono BY.out.size))
        have BX4 := Lib.hid (BX.out.call by4)
        have g0 : w4.cell? ⟨rx + 1, 0, none⟩ = some (.int .i64 0) := BX4.out.cell (i := 0) (by omega)
        have g1 : w4.cell? ⟨rx + 1, 1, none⟩ = some (.int .i64 0) := BX4.out.cell (i := 1) (by omega)
        have x0 := BX4.out.frozen 0
        have x1 := BX4.out.frozen 1
        clear hw4 by4 z0 z1 z2 z3 z4 z5 z6 y0 y1 y2 y3 y4 y5 y6 STY BY BX CM
        obtain ⟨W6, hW6⟩ : ∃ W6, W6 = (w4.setCell ⟨rx + 1, 0, none⟩ (.int .i64 pM.1)).setCell ⟨rx + 1, 1, none⟩ (.int .i64 pM.2) := ⟨_, rfl⟩
        have HW := Lib.hid hW6
        have ST6 := Lib.hid (show ReachSt w.heap.size W6 gu cu gv cv L by rw [hW6]; exact ST4.out.far2 hbu hbv _ _)
        have B6 := Lib.hid (show Below w.heap.size w W6 by rw [hW6]; exact (B4.out.setCell (p := ⟨rx + 1, 0, none⟩) hwb _).setCell (p := ⟨rx + 1, 1, none⟩) hwb _)
        have BX6 := Lib.hid (show Row W6 (rx + 1) 30 2 (boxF pM) by rw [hW6]; exact box_store BX4.out pM)
        clear hW6 ST4 B4 BX4
        go_wp2_with fail
        rw [← HW.out]
        clear HW g0 g1 x0 x1
        refine (impl_isRatio pM.1 pM.2 _).mono ?_; rintro e w7 ⟨rfl, b7⟩
        have ST7 := Lib.hid (ST6.out.call b7)
        have B7 := Lib.hid (B6.out.trans (b7.mono B6.out.size))
        have BX7 := Lib.hid (BX6.out.call b7)
        clear b7 ST6 B6 BX6
        cases hf : isR pM.1 pM.2
        case false =>
          have NF := Lib.hid (TO.out.bad OKT.out hlt hkT CC.out (show ¬ isP pM by unfold isP; rw [hf]; exact fun h => by cases h))
          clear hf
          go_wp2_with fail
          go_ret3
          exact .inr ⟨NF.out, rfl, B7.out⟩
        have PF := Lib.hid (show isP pM from hf)
        obtain ⟨z, hz⟩ : ∃ z, z = fndV (nmF L) at_ L.length := ⟨_, rfl⟩
        have HZ := Lib.hid hz
        have hzb := fndV_bd (f := nmF L) (s := at_) L.length
        rw [← hz] at hzb
        have FND := Lib.hid (fun (W : World) (h : ReachSt w.heap.size W gu cu gv cv L) => indexOf_any W (some ⟨gu, 0, none⟩) L.length cu (nmF L) at_ (h.strs (SIZE.out L GO.out)))
        rw [← hz] at FND
        clear hz hf
        go_wp2_with fail
        refine (FND.out _ ST7.out).mono ?_; rintro e w8 ⟨rfl, hw8⟩; obtain rfl := hw8.symm
        clear FND
        by_cases hn : z < 0
        case neg =>
          obtain ⟨j, hj0, hj, hjn, hjm⟩ : ∃ j : Nat, z = (j : Int) ∧ j < L.length ∧ nmF L j = at_ ∧ (at_, faF L j) ∈ L := by have h := hn; rw [HZ.out] at h ⊢; exact find_pos h
          subst hj0
          have q0 := ST7.out.num hj
          have q1 := ST7.out.den hj
          have k0 : w7.cell? ⟨rx + 1, 0, none⟩ = some (.int .i64 pM.1) := BX7.out.cell (i := 0) (by omega)
          have k1 : w7.cell? ⟨rx + 1, 1, none⟩ = some (.int .i64 pM.2) := BX7.out.cell (i := 1) (by omega)
          obtain ⟨g, hg⟩ : ∃ g, g = faF L j := ⟨_, rfl⟩
          rw [← hg] at q0 q1 hjm
          have JM := Lib.hid hjm
          clear hn hg hjm hjn
          have hjl : (j : Int) < (L.length : Int) := by omega
          by_cases hq : g = pM
          case pos =>
            have TT := Lib.hid (TO.out.same hlt hkT CC.out PF.out (by rw [← hq]; exact JM.out))
            have u0 : (g.1 == pM.1) = true := by rw [hq]; simp
            have u1 : (g.2 == pM.2) = true := by rw [hq]; simp
            clear hq
            go_wp2_with fail
            go_quiet (fail)
            go_wp2_with fail
            go_roundw
            case rel => exact ⟨k + 1, gu, cu, gv, cv, L, rfl, rfl, by go_num, by omega, hlt, ST7.out.drewN _, GO.out, TT.out, below_drewN B7.out _⟩
            case measure => simp [intOf]; omega
          case neg =>
            have NF := Lib.hid (TO.out.clash OKT.out hlt hkT CC.out PF.out JM.out hq)
            have u0 : ¬ (g.1 = pM.1 ∧ g.2 = pM.2) := fun h => hq (Prod.ext h.1 h.2)
            clear hq
            by_cases v0 : g.1 = pM.1
            case pos =>
              have v1 : (g.1 == pM.1) = true := by rw [v0]; simp
              have v2 : (g.2 == pM.2) = false := by simp; exact fun h => u0 ⟨v0, h⟩
              clear u0 v0
              go_wp2_with fail
              go_quiet (fail)
              go_wp2_with fail
              go_ret3
              exact .inr ⟨NF.out, rfl, below_drewN B7.out _⟩
            case neg =>
              have v1 : (g.1 == pM.1) = false := by simp; exact v0
              clear u0 v0
              go_wp2_with fail
              go_quiet (fail)
              go_wp2_with fail
              go_ret3
              exact .inr ⟨NF.out, rfl, below_drewN B7.out _⟩
        have nn : at_ ∉ nms L := find_neg.1 (by rw [← HZ.out]; exact hn)
        have TT := Lib.hid (TO.out.push hlt hkT CC.out PF.out nn)
        have GG := Lib.hid (GO.out.push hlt hkT CC.out PF.out nn)
        have lu := ST7.out.ltu
        have lv := ST7.out.ltv
        have lb := BX7.out.lt
        clear nn
        go_wp2_with (at_builtin; refine appS w7 rfl _ _ 41 rfl (B := w.heap.size) (i := i0) (z := .string ByteArray.empty) (s := 1) (bytes := 16) (F := namC (L ++ [(at_, pM)])) (v := .slice (some ⟨gu, 0, none⟩) L.length cu) (n := L.length) (xs := #[.string at_]) Try.underlying41 hi0 hz0 hs0 hb0 rfl (by decide) rfl (ST7.out.nam.congr (fun a b ha hb => namC_app _ _ ha)) B7.out.size rfl (fun q hq => by obtain rfl : q = 0 := (by omega); simp [namC_new]) (fun q hq => by rw [namC_new]; rfl) (by omega) (by decide) ?_)
        intro v7 w9 hv7 hg7 hb7
        obtain ⟨gu2, cu2, rfl⟩ := hv7.form (by omega)
        have hgu := own_or hb7
        have R9 := Lib.hid (ST7.out.rat.grown hg7 (.inr (fun e => hne (by simpa [Value.ownBlock] using e.symm))))
        have BX9 := Lib.hid (BX7.out.own hg7 (own_ne hbu.symm))
        have B9 := Lib.hid (below_own B7.out hg7 (fun r hr => by simp [Value.ownBlock] at hr; omega) B7.out.size)
        have N9 := Lib.hid hv7
        have lw := hg7.size
        have lg2 := (hv7.lt (k := gu2) rfl).2
        have k0 : w9.cell? ⟨rx + 1, 0, none⟩ = some (.int .i64 pM.1) := BX9.out.cell (i := 0) (by omega)
        have k1 : w9.cell? ⟨rx + 1, 1, none⟩ = some (.int .i64 pM.2) := BX9.out.cell (i := 1) (by omega)
        have hne2 : gu2 ≠ gv := by omega
        clear hv7 hg7 hb7 ST7 B7 BX7
        go_wp2_with (at_builtin; refine appS w9 rfl _ _ 60 rfl (B := w.heap.size) (i := i1) (z := .agg #[.int .i64 0, .int .i64 0]) (s := 2) (bytes := 16) (F := ratC (L ++ [(at_, pM)])) (v := .slice (some ⟨gv, 0, none⟩) L.length cv) (n := L.length) (xs := #[.int .i64 pM.1, .int .i64 pM.2]) Try.underlying60 hi1 hz1 hs1 hb1 rfl (by decide) rfl (R9.out.congr (fun a b ha hb => ratC_app _ _ ha)) B9.out.size rfl (fun q hq => by rcases (by omega : q = 0 ∨ q = 1) with rfl | rfl <;> simp [ratC_new]) (fun q hq => by rw [ratC_new]; split <;> rfl) (by omega) (by decide) ?_)
        intro v8 w10 hv8 hg8 hb8
        obtain ⟨gv2, cv2, rfl⟩ := hv8.form (by omega)
        have hgv := own_or hb8
        have N10 := Lib.hid (N9.out.grown hg8 (.inr (fun e => hne2 (by simpa [Value.ownBlock] using e))))
        have R10 := Lib.hid hv8
        have B10 := Lib.hid (below_own B9.out hg8 (fun r hr => by simp [Value.ownBlock] at hr; omega) B9.out.size)
        have hne3 : gu2 ≠ gv2 := by omega
        clear hv8 hg8 hb8 N9 R9 B9 BX9 k0 k1
        go_wp2_with fail
        go_roundw
        case rel => exact ⟨k + 1, gu2, cu2, gv2, cv2, L ++ [(at_, pM)], by rw [List.length_append]; rfl, by rw [List.length_append]; rfl, by go_num, by omega, by rw [List.length_append]; omega, ReachSt.push N10.out R10.out hne3, GG.out, TT.out, B10.out⟩
        case measure => simp [intOf]; omega
      have t1 : (nm.toList == af.toList) = false := txt_other (fun h => e1 h.symm)
      have E1 := Lib.hid e1
      clear e1
      by_cases e2 : at_ = nm
      case pos =>
        have cc := CD2.out E1.out e2
        have CC := Lib.hid cc
        clear cc
        subst e2
        have t2 := txt_same at_
        go_wp2_with fail
        obtain ⟨Y, hY⟩ : ∃ Y, Y = (wr.alloc (.cells #[.string af, .string at_, .int .i64 nk, .int .i64 dk] 59)).alloc (.cells #[.int .i64 0, .int .i64 0] 30) := ⟨_, rfl⟩
        have HY := Lib.hid hY
        have BX := Lib.hid (show Row Y (wr.heap.size + 1) 30 2 (boxF (0, 0)) by rw [hY]; have h := row_lit (wr.alloc (.cells #[.string af, .string at_, .int .i64 nk, .int .i64 dk] 59)) #[.int .i64 0, .int .i64 0] 30 2 (boxF (0, 0)) (by decide) (fun i hi => by unfold boxF; rcases (by omega : i = 0 ∨ i = 1) with rfl | rfl <;> rfl); simpa using h)
        have STY := Lib.hid (show ReachSt w.heap.size Y gu cu gv cv L by rw [hY]; exact (ST.out.alloc _).alloc _)
        have BY := Lib.hid (show Below w.heap.size w Y by rw [hY]; exact (BE.out.alloc BE.out.size _).alloc (by have := BE.out.size; simp; omega) _)
        have y0 : Y.cell? ⟨wr.heap.size, 0, none⟩ = some (.string af) := by rw [hY]; simp [go_sem]
        have y1 : Y.cell? ⟨wr.heap.size, 1, none⟩ = some (.string at_) := by rw [hY]; simp [go_sem]
        have y2 : Y.cell? ⟨wr.heap.size, 2, none⟩ = some (.int .i64 nk) := by rw [hY]; simp [go_sem]
        have y3 : Y.cell? ⟨wr.heap.size, 3, none⟩ = some (.int .i64 dk) := by rw [hY]; simp [go_sem]
        have y4 : Y.cell? ⟨gu, i, none⟩ = some (.string at_) := by rw [hY]; exact (World.cell?_alloc_lt _ _ _ (by have := lu.2; simp; omega)).trans ((World.cell?_alloc_lt _ _ _ lu.2).trans n0)
        have y5 : Y.cell? ⟨gv, i * 2, none⟩ = some (.int .i64 f0n) := by rw [hY]; exact (World.cell?_alloc_lt _ _ _ (by have := lv.2; simp; omega)).trans ((World.cell?_alloc_lt _ _ _ lv.2).trans f0)
        have y6 : Y.cell? ⟨gv, i * 2 + 1, none⟩ = some (.int .i64 f0d) := by rw [hY]; exact (World.cell?_alloc_lt _ _ _ (by have := lv.2; simp; omega)).trans ((World.cell?_alloc_lt _ _ _ lv.2).trans f1)
        have hbu : wr.heap.size + 1 ≠ gu := by omega
        have hbv : wr.heap.size + 1 ≠ gv := by omega
        have hwb : w.heap.size ≤ wr.heap.size + 1 := by have := BE.out.size; omega
        rw [← HY.out]
        clear HY hY r0 r1 r2 r3 n0 f0 f1 hB ST BE lu lv
        generalize wr.heap.size = rx at *
        have z0 := fun d os => cell_regrown y0 d os
        have z1 := fun d os => cell_regrown y1 d os
        have z2 := fun d os => cell_regrown y2 d os
        have z3 := fun d os => cell_regrown y3 d os
        have z4 := fun d os => cell_regrown y4 d os
        have z5 := fun d os => cell_regrown y5 d os
        have z6 := fun d os => cell_regrown y6 d os
        refine wp_region_quiet_tail (C := fun w' => ∃ p : Regrown, w' = grow (redrawn Y p.d) p.os) 9 (by kernel_rfl) (by kernel_rfl) ⟨⟨Y.drawn + 1, #[]⟩, by rw [grow_empty]; rfl⟩ ?_
        simp only [List.take_succ_cons, List.take_zero, List.drop_succ_cons, List.drop_zero]
        repeat (first | go_big_quiet_step ((go_at_call 61; exact Calls.regrown_of (CD.out _))) | quiet_step ((go_at_call 61; exact Calls.regrown_of (CD.out _))))
        refine wpQuiet_nil ?_
        rintro w4 ⟨p4, hw4⟩
        have by4 : Below Y.heap.size Y w4 := by rw [hw4]; exact below_regrown Y _ _
        have ST4 := Lib.hid (STY.out.call by4)
        have B4 := Lib.hid (BY.out.trans (by4.mono BY.out.size))
        have BX4 := Lib.hid (BX.out.call by4)
        have g0 : w4.cell? ⟨rx + 1, 0, none⟩ = some (.int .i64 0) := BX4.out.cell (i := 0) (by omega)
        have g1 : w4.cell? ⟨rx + 1, 1, none⟩ = some (.int .i64 0) := BX4.out.cell (i := 1) (by omega)
        have x0 := BX4.out.frozen 0
        have x1 := BX4.out.frozen 1
        clear hw4 by4 z0 z1 z2 z3 z4 z5 z6 y0 y1 y2 y3 y4 y5 y6 STY BY BX CD
        obtain ⟨W6, hW6⟩ : ∃ W6, W6 = (w4.setCell ⟨rx + 1, 0, none⟩ (.int .i64 pD.1)).setCell ⟨rx + 1, 1, none⟩ (.int .i64 pD.2) := ⟨_, rfl⟩
        have HW := Lib.hid hW6
        have ST6 := Lib.hid (show ReachSt w.heap.size W6 gu cu gv cv L by rw [hW6]; exact ST4.out.far2 hbu hbv _ _)
        have B6 := Lib.hid (show Below w.heap.size w W6 by rw [hW6]; exact (B4.out.setCell (p := ⟨rx + 1, 0, none⟩) hwb _).setCell (p := ⟨rx + 1, 1, none⟩) hwb _)
        have BX6 := Lib.hid (show Row W6 (rx + 1) 30 2 (boxF pD) by rw [hW6]; exact box_store BX4.out pD)
        clear hW6 ST4 B4 BX4
        go_wp2_with fail
        rw [← HW.out]
        clear HW g0 g1 x0 x1
        refine (impl_isRatio pD.1 pD.2 _).mono ?_; rintro e w7 ⟨rfl, b7⟩
        have ST7 := Lib.hid (ST6.out.call b7)
        have B7 := Lib.hid (B6.out.trans (b7.mono B6.out.size))
        have BX7 := Lib.hid (BX6.out.call b7)
        clear b7 ST6 B6 BX6
        cases hf : isR pD.1 pD.2
        case false =>
          have NF := Lib.hid (TO.out.bad OKT.out hlt hkT CC.out (show ¬ isP pD by unfold isP; rw [hf]; exact fun h => by cases h))
          clear hf
          go_wp2_with fail
          go_ret3
          exact .inr ⟨NF.out, rfl, B7.out⟩
        have PF := Lib.hid (show isP pD from hf)
        obtain ⟨z, hz⟩ : ∃ z, z = fndV (nmF L) af L.length := ⟨_, rfl⟩
        have HZ := Lib.hid hz
        have hzb := fndV_bd (f := nmF L) (s := af) L.length
        rw [← hz] at hzb
        have FND := Lib.hid (fun (W : World) (h : ReachSt w.heap.size W gu cu gv cv L) => indexOf_any W (some ⟨gu, 0, none⟩) L.length cu (nmF L) af (h.strs (SIZE.out L GO.out)))
        rw [← hz] at FND
        clear hz hf
        go_wp2_with fail
        refine (FND.out _ ST7.out).mono ?_; rintro e w8 ⟨rfl, hw8⟩; obtain rfl := hw8.symm
        clear FND
        by_cases hn : z < 0
        case neg =>
          obtain ⟨j, hj0, hj, hjn, hjm⟩ : ∃ j : Nat, z = (j : Int) ∧ j < L.length ∧ nmF L j = af ∧ (af, faF L j) ∈ L := by have h := hn; rw [HZ.out] at h ⊢; exact find_pos h
          subst hj0
          have q0 := ST7.out.num hj
          have q1 := ST7.out.den hj
          have k0 : w7.cell? ⟨rx + 1, 0, none⟩ = some (.int .i64 pD.1) := BX7.out.cell (i := 0) (by omega)
          have k1 : w7.cell? ⟨rx + 1, 1, none⟩ = some (.int .i64 pD.2) := BX7.out.cell (i := 1) (by omega)
          obtain ⟨g, hg⟩ : ∃ g, g = faF L j := ⟨_, rfl⟩
          rw [← hg] at q0 q1 hjm
          have JM := Lib.hid hjm
          clear hn hg hjm hjn
          have hjl : (j : Int) < (L.length : Int) := by omega
          by_cases hq : g = pD
          case pos =>
            have TT := Lib.hid (TO.out.same hlt hkT CC.out PF.out (by rw [← hq]; exact JM.out))
            have u0 : (g.1 == pD.1) = true := by rw [hq]; simp
            have u1 : (g.2 == pD.2) = true := by rw [hq]; simp
            clear hq
            go_wp2_with fail
            go_quiet (fail)
            go_wp2_with fail
            go_roundw
            case rel => exact ⟨k + 1, gu, cu, gv, cv, L, rfl, rfl, by go_num, by omega, hlt, ST7.out.drewN _, GO.out, TT.out, below_drewN B7.out _⟩
            case measure => simp [intOf]; omega
          case neg =>
            have NF := Lib.hid (TO.out.clash OKT.out hlt hkT CC.out PF.out JM.out hq)
            have u0 : ¬ (g.1 = pD.1 ∧ g.2 = pD.2) := fun h => hq (Prod.ext h.1 h.2)
            clear hq
            by_cases v0 : g.1 = pD.1
            case pos =>
              have v1 : (g.1 == pD.1) = true := by rw [v0]; simp
              have v2 : (g.2 == pD.2) = false := by simp; exact fun h => u0 ⟨v0, h⟩
              clear u0 v0
              go_wp2_with fail
              go_quiet (fail)
              go_wp2_with fail
              go_ret3
              exact .inr ⟨NF.out, rfl, below_drewN B7.out _⟩
            case neg =>
              have v1 : (g.1 == pD.1) = false := by simp; exact v0
              clear u0 v0
              go_wp2_with fail
              go_quiet (fail)
              go_wp2_with fail
              go_ret3
              exact .inr ⟨NF.out, rfl, below_drewN B7.out _⟩
        have nn : af ∉ nms L := find_neg.1 (by rw [← HZ.out]; exact hn)
        have TT := Lib.hid (TO.out.push hlt hkT CC.out PF.out nn)
        have GG := Lib.hid (GO.out.push hlt hkT CC.out PF.out nn)
        have lu := ST7.out.ltu
        have lv := ST7.out.ltv
        have lb := BX7.out.lt
        clear nn
        go_wp2_with (at_builtin; refine appS w7 rfl _ _ 41 rfl (B := w.heap.size) (i := i0) (z := .string ByteArray.empty) (s := 1) (bytes := 16) (F := namC (L ++ [(af, pD)])) (v := .slice (some ⟨gu, 0, none⟩) L.length cu) (n := L.length) (xs := #[.string af]) Try.underlying41 hi0 hz0 hs0 hb0 rfl (by decide) rfl (ST7.out.nam.congr (fun a b ha hb => namC_app _ _ ha)) B7.out.size rfl (fun q hq => by obtain rfl : q = 0 := (by omega); simp [namC_new]) (fun q hq => by rw [namC_new]; rfl) (by omega) (by decide) ?_)
        intro v7 w9 hv7 hg7 hb7
        obtain ⟨gu2, cu2, rfl⟩ := hv7.form (by omega)
        have hgu := own_or hb7
        have R9 := Lib.hid (ST7.out.rat.grown hg7 (.inr (fun e => hne (by simpa [Value.ownBlock] using e.symm))))
        have BX9 := Lib.hid (BX7.out.own hg7 (own_ne hbu.symm))
        have B9 := Lib.hid (below_own B7.out hg7 (fun r hr => by simp [Value.ownBlock] at hr; omega) B7.out.size)
        have N9 := Lib.hid hv7
        have lw := hg7.size
        have lg2 := (hv7.lt (k := gu2) rfl).2
        have k0 : w9.cell? ⟨rx + 1, 0, none⟩ = some (.int .i64 pD.1) := BX9.out.cell (i := 0) (by omega)
        have k1 : w9.cell? ⟨rx + 1, 1, none⟩ = some (.int .i64 pD.2) := BX9.out.cell (i := 1) (by omega)
        have hne2 : gu2 ≠ gv := by omega
        clear hv7 hg7 hb7 ST7 B7 BX7
        go_wp2_with (at_builtin; refine appS w9 rfl _ _ 60 rfl (B := w.heap.size) (i := i1) (z := .agg #[.int .i64 0, .int .i64 0]) (s := 2) (bytes := 16) (F := ratC (L ++ [(af, pD)])) (v := .slice (some ⟨gv, 0, none⟩) L.length cv) (n := L.length) (xs := #[.int .i64 pD.1, .int .i64 pD.2]) Try.underlying60 hi1 hz1 hs1 hb1 rfl (by decide) rfl (R9.out.congr (fun a b ha hb => ratC_app _ _ ha)) B9.out.size rfl (fun q hq => by rcases (by omega : q = 0 ∨ q = 1) with rfl | rfl <;> simp [ratC_new]) (fun q hq => by rw [ratC_new]; split <;> rfl) (by omega) (by decide) ?_)
        intro v8 w10 hv8 hg8 hb8
        obtain ⟨gv2, cv2, rfl⟩ := hv8.form (by omega)
        have hgv := own_or hb8
        have N10 := Lib.hid (N9.out.grown hg8 (.inr (fun e => hne2 (by simpa [Value.ownBlock] using e))))
        have R10 := Lib.hid hv8
        have B10 := Lib.hid (below_own B9.out hg8 (fun r hr => by simp [Value.ownBlock] at hr; omega) B9.out.size)
        have hne3 : gu2 ≠ gv2 := by omega
        clear hv8 hg8 hb8 N9 R9 B9 BX9 k0 k1
        go_wp2_with fail
        go_roundw
        case rel => exact ⟨k + 1, gu2, cu2, gv2, cv2, L ++ [(af, pD)], by rw [List.length_append]; rfl, by rw [List.length_append]; rfl, by go_num, by omega, by rw [List.length_append]; omega, ReachSt.push N10.out R10.out hne3, GG.out, TT.out, B10.out⟩
        case measure => simp [intOf]; omega
      have t2 : (nm.toList == at_.toList) = false := txt_other (fun h => e2 h.symm)
      have TT := Lib.hid (TO.out.none hlt hkT (CN.out E1.out e2))
      have STY := Lib.hid ((ST.out.alloc (.cells #[.string af, .string at_, .int .i64 nk, .int .i64 dk] 59)).alloc (.cells #[.int .i64 0, .int .i64 0] 30))
      have BY := Lib.hid (show Below w.heap.size w ((wr.alloc (.cells #[.string af, .string at_, .int .i64 nk, .int .i64 dk] 59)).alloc (.cells #[.int .i64 0, .int .i64 0] 30)) from (BE.out.alloc BE.out.size _).alloc (by have := BE.out.size; simp; omega) _)
      clear e2
      go_wp2_with fail
      refine ⟨⟨k + 1, gu, cu, gv, cv, L, rfl, rfl, by go_num, by omega, hlt, STY.out, GO.out, TT.out, BY.out⟩, ?_⟩
      simp [intOf]; omega
end Go.Proofs.Ytccejhhhengpcaa
