/-
  Contracts of the program's LargestRemainder.
-/
import Derived.Test.YtmplfpdokkcpcaaLrNum
import Derived.BigQuiet
namespace Go.Proofs.Ytmplfpdokkcpcaa
open Go.RowKit cost num
set_option linter.unusedVariables false
set_option linter.unusedSimpArgs false
theorem impl_lr_no1 (w : World) (A : Option Addr) (n cap : Nat) (f : Nat → Int) (h : IntsF w A n cap f) (t : Int) (haw : awB f n = false) :
    Calls Try.prog 23 #[.int .i64 t, .slice A n cap] w (NewInts w 0 (fun _ => 0) false) := by
  have hn : n ≤ 9223372036854775807 := by have := h.max; have := h.le; omega
  have H := Lib.hid h
  clear h
  go_enter Try.func23, Try.ntmps23
  go_wp2_with (first | (go_at_call 12; refine (impl_areWeights _ _ _ _ _ H.out).mono ?_; rintro e w' ⟨rfl, hw'⟩; obtain rfl := hw'.symm))
  go_ret2
  exact ⟨_, _, rfl, IntsF.empty _ _ _ (by omega) _, .inl rfl, Below.refl _ _⟩
theorem impl_lr_no2 (w : World) (A : Option Addr) (n cap : Nat) (f : Nat → Int) (h : IntsF w A n cap f) (t : Int) (haw : awB f n = true) (ht : ¬ (-1000000000 ≤ t ∧ t ≤ 1000000000)) :
    Calls Try.prog 23 #[.int .i64 t, .slice A n cap] w (NewInts w 0 (fun _ => 0) false) := by
  have hn : n ≤ 9223372036854775807 := by have := h.max; have := h.le; omega
  have H := Lib.hid h
  clear h
  go_enter Try.func23, Try.ntmps23
  go_wp2_with (first | (go_at_call 12; refine (impl_areWeights _ _ _ _ _ H.out).mono ?_; rintro e w' ⟨rfl, hw'⟩; obtain rfl := hw'.symm) | (go_at_call 30; refine (in_no _ _ _ _ (by omega)).mono ?_; rintro e w' ⟨rfl, hw'⟩; obtain rfl := hw'.symm))
  go_ret2
  exact ⟨_, _, rfl, IntsF.empty _ _ _ (by omega) _, .inl rfl, Below.refl _ _⟩
set_option maxHeartbeats 2000000 in
theorem impl_lr_neg (w : World) (A : Option Addr) (n cap : Nat) (f : Nat → Int) (h : IntsF w A n cap f) (t : Int) (haw : awB f n = true) (ht : -1000000000 ≤ t ∧ t ≤ 1000000000) (hs : t < 0) :
    Calls Try.prog 23 #[.int .i64 t, .slice A n cap] w (NewInts w n (lr f n t) true) := by
  have hn : n ≤ 9223372036854775807 := by have := h.max; have := h.le; omega
  have H := Lib.hid h
  clear h
  obtain ⟨n1, n40, hpos⟩ := aw_n haw
  have n1' : (0 : Int) < (n : Int) := by omega
  have n1n : 0 < n := by omega
  have hz : (sumTo f n == 0) = false := by simp; omega
  have hsums := aw_sums haw
  have hS := aw_sums haw n (Nat.le_refl _)
  have hsg : sgn t = -1 := by unfold sgn; rw [if_pos hs]
  have HS := Lib.hid hsums
  have HONE := Lib.hid (lr_one haw ht)
  have HMOD := Lib.hid (lr_tmod haw ht)
  have HSB := Lib.hid (fun k hk => (⟨(lr_sum_bounds haw ht k hk).1, (lr_sum_bounds haw ht k hk).2.1⟩ : _ ∧ _))
  have HABS := Lib.hid (lr_abs haw ht)
  have HSTEP := Lib.hid (lr_step haw ht)
  have HRST := Lib.hid (lr_rst haw ht)
  have HB := Lib.hid (lr_bounds haw ht)
  have hleft := (lr_left haw ht).2
  have HT := Lib.hid ht
  clear hsums
  obtain ⟨i0, hi, hz0, hz1, hz2⟩ := info_parts int_info
  go_enter Try.func23, Try.ntmps23
  go_wp2_with (first | (go_at_call 12; refine (impl_areWeights _ _ _ _ _ H.out).mono ?_; rintro e w' ⟨rfl, hw'⟩; obtain rfl := hw'.symm) | (go_at_call 30; refine (in_yes _ _ _ _ (by omega)).mono ?_; rintro e w' ⟨rfl, hw'⟩; obtain rfl := hw'.symm))
  clear haw
  refine (impl_sumOf _ _ _ _ _ H.out (fun j hj => by have := HS.out j hj; omega)).mono ?_
  rintro e w' ⟨rfl, hw'⟩; obtain rfl := hw'.symm
  go_wp2_with fail
  go_loopw [7, 8, 29] (fun v u i wr => ∃ k g7 c7 g8 c8 : Nat, k ≤ n ∧ i = .int .i64 (k : Int) ∧ v = .slice (some ⟨g7, 0, none⟩) k c7 ∧ u = .slice (some ⟨g8, 0, none⟩) k c8 ∧ g7 ≠ g8 ∧ Own w.heap.size wr 3 g7 k c7 (fun i => .int .i64 ((t * f i).tdiv (sumTo f n))) ∧ Own w.heap.size wr 3 g8 k c8 (fun i => .int .i64 (lrRest f n t i)) ∧ Below w.heap.size w wr) (fun _ _ i _ => n - (intOf i).toNat)
  case atStart => exact ⟨0, w.heap.size, 0, w.heap.size + 1, 0, Nat.zero_le _, rfl, rfl, rfl, by omega, (own_new w (Nat.le_refl _) _ _).alloc _, by simpa using own_new (w.alloc (.cells #[] 3)) (B := w.heap.size) (by simp) 3 _, ((Below.refl _ _).alloc (Nat.le_refl _) _).alloc (by simp) _⟩
  case round =>
    obtain ⟨k, g7, c7, g8, c8, hk, rfl, rfl, rfl, hne, ho7, ho8, hbel⟩ := hrel
    have O7 := Lib.hid ho7
    have O8 := Lib.hid ho8
    have BE := Lib.hid hbel
    clear ho7 ho8 hbel
    by_cases hlt : k < n
    · have hlt' : (k : Int) < (n : Int) := by omega
      obtain ⟨b, o, rfl, hB, hc, hfb⟩ := (H.out.call BE.out).cell k hlt
      obtain ⟨p1, p2, p3, p4, p5, p6⟩ := HONE.out k hlt
      go_wp2_with (at_builtin; refine app1 _ rfl _ _ 22 rfl (i := i0) (z := .int .i64 0) (bytes := 8) Try.underlying22 hi hz0 hz1 hz2 rfl rfl rfl (O7.out) (BE.out.size) rfl (rfl) (by omega) (by decide) ?_)
      intro g7' c7' w1 ho7 hg7 hat7
      have lt8 := O8.out.lt
      have O7' := Lib.hid ho7
      have hne' : g7' ≠ g8 := by omega
      have O8' := Lib.hid (O8.out.grown hg7 hne)
      have BE' := Lib.hid (BE.out.trans (grown_below hg7 O7.out.base BE.out.size))
      clear ho7 hg7 hat7 hc
      go_wp2_with fail
      refine (absolute_any _ _ (by omega) (by omega)).mono ?_
      rintro e w' ⟨rfl, hw'⟩; obtain rfl := hw'.symm
      rw [HMOD.out k hlt]
      go_wp2_with (at_builtin; refine app1 _ rfl _ _ 22 rfl (i := i0) (z := .int .i64 0) (bytes := 8) Try.underlying22 hi hz0 hz1 hz2 rfl rfl rfl (O8'.out) (BE'.out.size) rfl (rfl) (by omega) (by decide) ?_)
      intro g8' c8' w2 ho8 hg8 hat8
      have lt7 := O7'.out.lt
      have O8'' := Lib.hid ho8
      have O7'' := Lib.hid (O7'.out.grown hg8 (by omega))
      have BE'' := Lib.hid (BE'.out.trans (grown_below hg8 O8'.out.base BE'.out.size))
      clear ho8 hg8
      go_wp2_with fail
      go_roundw
      case rel => exact ⟨k + 1, _, _, _, _, by omega, by go_num, rfl, rfl, by omega, O7''.out, O8''.out, BE''.out⟩
      case measure => simp [intOf]; omega
    · obtain rfl : k = n := by omega
      go_wp2_with fail
      refine (impl_sumOf _ _ _ _ _ (O7.out.ints (fun i hi => by have := HONE.out i hi; omega)) (fun j hj => HSB.out j hj)).mono ?_
      rintro e w' ⟨rfl, hw'⟩; obtain rfl := hw'.symm
      have hsb := HSB.out k (Nat.le_refl _)
      have hT := HT.out
      go_wp2_with fail
      refine (absolute_any _ _ (by omega) (by omega)).mono ?_
      rintro e w' ⟨rfl, hw'⟩; obtain rfl := hw'.symm
      rw [HABS.out]
      clear hsb hT
      go_wp2_with fail
      go_loopw [12] (fun l wq => ∃ j : Nat, j ≤ lrLeft f k t ∧ l = .int .i64 ((lrLeft f k t : Int) - j) ∧ Own w.heap.size wq 3 g7 k c7 (fun i => .int .i64 ((t * f i).tdiv (sumTo f k) + sgn t * cnt (lrRest f k t) k j i)) ∧ Own w.heap.size wq 3 g8 k c8 (fun i => .int .i64 (rst (lrRest f k t) k j i)) ∧ Below w.heap.size w wq) (fun l _ => (intOf l).toNat)
      case atStart => exact ⟨0, Nat.zero_le _, by simp, O7.out.congr (fun i _ => by simp [cnt]), O8.out, BE.out⟩
      case round =>
        obtain ⟨j, hj, rfl, ho7, ho8, hbel⟩ := hrel
        have P7 := Lib.hid ho7
        have P8 := Lib.hid ho8
        have BQ := Lib.hid hbel
        clear ho7 ho8 hbel
        by_cases hjl : j < lrLeft f k t
        · have hjl' : (0 : Int) < (lrLeft f k t : Int) - j := by omega
          have hjs : (lrLeft f k t : Int) - j - 1 = (lrLeft f k t : Int) - ((j + 1 : Nat) : Int) := by omega
          go_wp2_with fail
          go_loopw [13, 64] (fun b i wz => ∃ x m : Nat, x ≤ k ∧ i = .int .i64 (x : Int) ∧ b = .int .i64 (bst (rst (lrRest f k t) k j) x : Int) ∧ wz = wr.drewN m) (fun _ i _ => k - (intOf i).toNat)
          case atStart => exact ⟨0, 0, Nat.zero_le _, rfl, rfl, rfl⟩
          case round =>
            obtain ⟨x, m, hx, rfl, rfl, rfl⟩ := hrel
            have hb := bst_in (rst (lrRest f k t) k j) n1n x hx
            have hb' : (bst (rst (lrRest f k t) k j) x : Int) < (k : Int) := by omega
            by_cases hxk : x < k
            · have hxk' : (x : Int) < (k : Int) := by omega
              have cx : wr.cell? ⟨g8, x, none⟩ = some (.int .i64 (rst (lrRest f k t) k j x)) := P8.out.row.cell hxk
              have cb : wr.cell? ⟨g8, bst (rst (lrRest f k t) k j) x, none⟩ = some (.int .i64 (rst (lrRest f k t) k j (bst (rst (lrRest f k t) k j) x))) := P8.out.row.cell hb
              by_cases hgt : rst (lrRest f k t) k j (bst (rst (lrRest f k t) k j) x) < rst (lrRest f k t) k j x
              · go_wp2_with fail
                go_quiet (fail)
                obtain ⟨nq1, rfl⟩ : ∃ m : Nat, m = nq := ⟨_, rfl⟩
                go_wp2_with fail
                go_roundw
                case rel => exact ⟨x + 1, m + nq1, by omega, by go_num, by simp only [bst]; rw [if_pos hgt], rfl⟩
                case measure => simp [intOf]; omega
              · go_wp2_with fail
                go_quiet (fail)
                obtain ⟨nq1, rfl⟩ : ∃ m : Nat, m = nq := ⟨_, rfl⟩
                go_wp2_with fail
                go_roundw
                case rel => exact ⟨x + 1, m + nq1, by omega, by go_num, by simp only [bst]; rw [if_neg (by omega)], rfl⟩
                case measure => simp [intOf]; omega
            · obtain rfl : x = k := by omega
              have c7b : wr.cell? ⟨g7, bst (rst (lrRest f x t) x j) x, none⟩ = some (.int .i64 ((t * f (bst (rst (lrRest f x t) x j) x)).tdiv (sumTo f x) + sgn t * cnt (lrRest f x t) x j (bst (rst (lrRest f x t) x j) x))) := P7.out.row.cell hb
              have c8b : wr.cell? ⟨g8, bst (rst (lrRest f x t) x j) x, none⟩ = some (.int .i64 (rst (lrRest f x t) x j (bst (rst (lrRest f x t) x j) x))) := P8.out.row.cell hb
              have f7b := P7.out.row.frozen (bst (rst (lrRest f x t) x j) x)
              have f8b := P8.out.row.frozen (bst (rst (lrRest f x t) x j) x)
              have s1 := HSTEP.out j hj _ hb
              have s2 := HSTEP.out (j + 1) (by omega) _ hb
              have ecnt : ∀ i, cnt (lrRest f x t) x (j + 1) i = if i = bst (rst (lrRest f x t) x j) x then cnt (lrRest f x t) x j i + 1 else cnt (lrRest f x t) x j i := fun i => rfl
              have erst : ∀ i, rst (lrRest f x t) x (j + 1) i = if i = bst (rst (lrRest f x t) x j) x then -1 else rst (lrRest f x t) x j i := fun i => rfl
              rw [ecnt, if_pos rfl, hsg] at s2
              rw [hsg] at s1 c7b
              have ECNT := Lib.hid ecnt
              have ERST := Lib.hid erst
              clear ecnt erst
              generalize hbb : bst (rst (lrRest f x t) x j) x = b at *
              go_wp2_with fail
              go_roundw
              case rel =>
                refine ⟨j + 1, by omega, by go_num, ?_, ?_, ?_⟩
                · refine (((P7.out.drewN m).set hb _).far (by simp; omega) _).congr (fun i hi => ?_)
                  rw [ECNT.out i]
                  by_cases e : i = b
                  · subst e; simp only [if_pos rfl, hsg]; go_num
                  · simp only [if_neg e]
                · refine (((P8.out.drewN m).far (by simp; omega) _).set hb _).congr (fun i hi => ?_)
                  rw [ERST.out i]
                  by_cases e : i = b
                  · simp only [if_pos e]
                  · simp only [if_neg e]
                · have hd : Below w.heap.size wr (wr.drewN m) := ⟨rfl, rfl, rfl, Nat.le_refl _, fun _ _ => rfl⟩
                  refine Below.setCell (Below.setCell (BQ.out.trans hd) ?_ _) ?_ _
                  · exact P7.out.base
                  · exact P8.out.base
              case measure => simp [intOf]; omega
        · obtain rfl : j = lrLeft f k t := by omega
          have hz0' : ¬ (0 : Int) < (lrLeft f k t : Int) - (lrLeft f k t : Nat) := by omega
          go_wp2_with fail
          go_ret2
          have Q7 := P7.out.congr (f' := fun i => .int .i64 (lr f k t i)) (fun i hi => by show Value.int _ _ = _; rw [(HB.out i hi).2.2])
          exact ⟨_, _, rfl, Q7.ints (fun i hi => by have := HB.out i hi; omega), .inr ⟨_, rfl, Q7.base, Q7.row⟩, BQ.out⟩
set_option maxHeartbeats 2000000 in
theorem impl_lr_pos (w : World) (A : Option Addr) (n cap : Nat) (f : Nat → Int) (h : IntsF w A n cap f) (t : Int) (haw : awB f n = true) (ht : -1000000000 ≤ t ∧ t ≤ 1000000000) (hs : ¬ t < 0) :
    Calls Try.prog 23 #[.int .i64 t, .slice A n cap] w (NewInts w n (lr f n t) true) := by
  have hn : n ≤ 9223372036854775807 := by have := h.max; have := h.le; omega
  have H := Lib.hid h
  clear h
  obtain ⟨n1, n40, hpos⟩ := aw_n haw
  have n1' : (0 : Int) < (n : Int) := by omega
  have n1n : 0 < n := by omega
  have hz : (sumTo f n == 0) = false := by simp; omega
  have hsums := aw_sums haw
  have hS := aw_sums haw n (Nat.le_refl _)
  have hsg : sgn t = 1 := by unfold sgn; rw [if_neg hs]
  have HS := Lib.hid hsums
  have HONE := Lib.hid (lr_one haw ht)
  have HMOD := Lib.hid (lr_tmod haw ht)
  have HSB := Lib.hid (fun k hk => (⟨(lr_sum_bounds haw ht k hk).1, (lr_sum_bounds haw ht k hk).2.1⟩ : _ ∧ _))
  have HABS := Lib.hid (lr_abs haw ht)
  have HSTEP := Lib.hid (lr_step haw ht)
  have HRST := Lib.hid (lr_rst haw ht)
  have HB := Lib.hid (lr_bounds haw ht)
  have hleft := (lr_left haw ht).2
  have HT := Lib.hid ht
  clear hsums
  obtain ⟨i0, hi, hz0, hz1, hz2⟩ := info_parts int_info
  go_enter Try.func23, Try.ntmps23
  go_wp2_with (first | (go_at_call 12; refine (impl_areWeights _ _ _ _ _ H.out).mono ?_; rintro e w' ⟨rfl, hw'⟩; obtain rfl := hw'.symm) | (go_at_call 30; refine (in_yes _ _ _ _ (by omega)).mono ?_; rintro e w' ⟨rfl, hw'⟩; obtain rfl := hw'.symm))
  clear haw
  refine (impl_sumOf _ _ _ _ _ H.out (fun j hj => by have := HS.out j hj; omega)).mono ?_
  rintro e w' ⟨rfl, hw'⟩; obtain rfl := hw'.symm
  go_wp2_with fail
  go_loopw [7, 8, 29] (fun v u i wr => ∃ k g7 c7 g8 c8 : Nat, k ≤ n ∧ i = .int .i64 (k : Int) ∧ v = .slice (some ⟨g7, 0, none⟩) k c7 ∧ u = .slice (some ⟨g8, 0, none⟩) k c8 ∧ g7 ≠ g8 ∧ Own w.heap.size wr 3 g7 k c7 (fun i => .int .i64 ((t * f i).tdiv (sumTo f n))) ∧ Own w.heap.size wr 3 g8 k c8 (fun i => .int .i64 (lrRest f n t i)) ∧ Below w.heap.size w wr) (fun _ _ i _ => n - (intOf i).toNat)
  case atStart => exact ⟨0, w.heap.size, 0, w.heap.size + 1, 0, Nat.zero_le _, rfl, rfl, rfl, by omega, (own_new w (Nat.le_refl _) _ _).alloc _, by simpa using own_new (w.alloc (.cells #[] 3)) (B := w.heap.size) (by simp) 3 _, ((Below.refl _ _).alloc (Nat.le_refl _) _).alloc (by simp) _⟩
  case round =>
    obtain ⟨k, g7, c7, g8, c8, hk, rfl, rfl, rfl, hne, ho7, ho8, hbel⟩ := hrel
    have O7 := Lib.hid ho7
    have O8 := Lib.hid ho8
    have BE := Lib.hid hbel
    clear ho7 ho8 hbel
    by_cases hlt : k < n
    · have hlt' : (k : Int) < (n : Int) := by omega
      obtain ⟨b, o, rfl, hB, hc, hfb⟩ := (H.out.call BE.out).cell k hlt
      obtain ⟨p1, p2, p3, p4, p5, p6⟩ := HONE.out k hlt
      go_wp2_with (at_builtin; refine app1 _ rfl _ _ 22 rfl (i := i0) (z := .int .i64 0) (bytes := 8) Try.underlying22 hi hz0 hz1 hz2 rfl rfl rfl (O7.out) (BE.out.size) rfl (rfl) (by omega) (by decide) ?_)
      intro g7' c7' w1 ho7 hg7 hat7
      have lt8 := O8.out.lt
      have O7' := Lib.hid ho7
      have hne' : g7' ≠ g8 := by omega
      have O8' := Lib.hid (O8.out.grown hg7 hne)
      have BE' := Lib.hid (BE.out.trans (grown_below hg7 O7.out.base BE.out.size))
      clear ho7 hg7 hat7 hc
      go_wp2_with fail
      refine (absolute_any _ _ (by omega) (by omega)).mono ?_
      rintro e w' ⟨rfl, hw'⟩; obtain rfl := hw'.symm
      rw [HMOD.out k hlt]
      go_wp2_with (at_builtin; refine app1 _ rfl _ _ 22 rfl (i := i0) (z := .int .i64 0) (bytes := 8) Try.underlying22 hi hz0 hz1 hz2 rfl rfl rfl (O8'.out) (BE'.out.size) rfl (rfl) (by omega) (by decide) ?_)
      intro g8' c8' w2 ho8 hg8 hat8
      have lt7 := O7'.out.lt
      have O8'' := Lib.hid ho8
      have O7'' := Lib.hid (O7'.out.grown hg8 (by omega))
      have BE'' := Lib.hid (BE'.out.trans (grown_below hg8 O8'.out.base BE'.out.size))
      clear ho8 hg8
      go_wp2_with fail
      go_roundw
      case rel => exact ⟨k + 1, _, _, _, _, by omega, by go_num, rfl, rfl, by omega, O7''.out, O8''.out, BE''.out⟩
      case measure => simp [intOf]; omega
    · obtain rfl : k = n := by omega
      go_wp2_with fail
      refine (impl_sumOf _ _ _ _ _ (O7.out.ints (fun i hi => by have := HONE.out i hi; omega)) (fun j hj => HSB.out j hj)).mono ?_
      rintro e w' ⟨rfl, hw'⟩; obtain rfl := hw'.symm
      have hsb := HSB.out k (Nat.le_refl _)
      have hT := HT.out
      go_wp2_with fail
      refine (absolute_any _ _ (by omega) (by omega)).mono ?_
      rintro e w' ⟨rfl, hw'⟩; obtain rfl := hw'.symm
      rw [HABS.out]
      clear hsb hT
      go_wp2_with fail
      go_loopw [12] (fun l wq => ∃ j : Nat, j ≤ lrLeft f k t ∧ l = .int .i64 ((lrLeft f k t : Int) - j) ∧ Own w.heap.size wq 3 g7 k c7 (fun i => .int .i64 ((t * f i).tdiv (sumTo f k) + sgn t * cnt (lrRest f k t) k j i)) ∧ Own w.heap.size wq 3 g8 k c8 (fun i => .int .i64 (rst (lrRest f k t) k j i)) ∧ Below w.heap.size w wq) (fun l _ => (intOf l).toNat)
      case atStart => exact ⟨0, Nat.zero_le _, by simp, O7.out.congr (fun i _ => by simp [cnt]), O8.out, BE.out⟩
      case round =>
        obtain ⟨j, hj, rfl, ho7, ho8, hbel⟩ := hrel
        have P7 := Lib.hid ho7
        have P8 := Lib.hid ho8
        have BQ := Lib.hid hbel
        clear ho7 ho8 hbel
        by_cases hjl : j < lrLeft f k t
        · have hjl' : (0 : Int) < (lrLeft f k t : Int) - j := by omega
          have hjs : (lrLeft f k t : Int) - j - 1 = (lrLeft f k t : Int) - ((j + 1 : Nat) : Int) := by omega
          go_wp2_with fail
          go_loopw [13, 64] (fun b i wz => ∃ x m : Nat, x ≤ k ∧ i = .int .i64 (x : Int) ∧ b = .int .i64 (bst (rst (lrRest f k t) k j) x : Int) ∧ wz = wr.drewN m) (fun _ i _ => k - (intOf i).toNat)
          case atStart => exact ⟨0, 0, Nat.zero_le _, rfl, rfl, rfl⟩
          case round =>
            obtain ⟨x, m, hx, rfl, rfl, rfl⟩ := hrel
            have hb := bst_in (rst (lrRest f k t) k j) n1n x hx
            have hb' : (bst (rst (lrRest f k t) k j) x : Int) < (k : Int) := by omega
            by_cases hxk : x < k
            · have hxk' : (x : Int) < (k : Int) := by omega
              have cx : wr.cell? ⟨g8, x, none⟩ = some (.int .i64 (rst (lrRest f k t) k j x)) := P8.out.row.cell hxk
              have cb : wr.cell? ⟨g8, bst (rst (lrRest f k t) k j) x, none⟩ = some (.int .i64 (rst (lrRest f k t) k j (bst (rst (lrRest f k t) k j) x))) := P8.out.row.cell hb
              by_cases hgt : rst (lrRest f k t) k j (bst (rst (lrRest f k t) k j) x) < rst (lrRest f k t) k j x
              · go_wp2_with fail
                go_quiet (fail)
                obtain ⟨nq1, rfl⟩ : ∃ m : Nat, m = nq := ⟨_, rfl⟩
                go_wp2_with fail
                go_roundw
                case rel => exact ⟨x + 1, m + nq1, by omega, by go_num, by simp only [bst]; rw [if_pos hgt], rfl⟩
                case measure => simp [intOf]; omega
              · go_wp2_with fail
                go_quiet (fail)
                obtain ⟨nq1, rfl⟩ : ∃ m : Nat, m = nq := ⟨_, rfl⟩
                go_wp2_with fail
                go_roundw
                case rel => exact ⟨x + 1, m + nq1, by omega, by go_num, by simp only [bst]; rw [if_neg (by omega)], rfl⟩
                case measure => simp [intOf]; omega
            · obtain rfl : x = k := by omega
              have c7b : wr.cell? ⟨g7, bst (rst (lrRest f x t) x j) x, none⟩ = some (.int .i64 ((t * f (bst (rst (lrRest f x t) x j) x)).tdiv (sumTo f x) + sgn t * cnt (lrRest f x t) x j (bst (rst (lrRest f x t) x j) x))) := P7.out.row.cell hb
              have c8b : wr.cell? ⟨g8, bst (rst (lrRest f x t) x j) x, none⟩ = some (.int .i64 (rst (lrRest f x t) x j (bst (rst (lrRest f x t) x j) x))) := P8.out.row.cell hb
              have f7b := P7.out.row.frozen (bst (rst (lrRest f x t) x j) x)
              have f8b := P8.out.row.frozen (bst (rst (lrRest f x t) x j) x)
              have s1 := HSTEP.out j hj _ hb
              have s2 := HSTEP.out (j + 1) (by omega) _ hb
              have ecnt : ∀ i, cnt (lrRest f x t) x (j + 1) i = if i = bst (rst (lrRest f x t) x j) x then cnt (lrRest f x t) x j i + 1 else cnt (lrRest f x t) x j i := fun i => rfl
              have erst : ∀ i, rst (lrRest f x t) x (j + 1) i = if i = bst (rst (lrRest f x t) x j) x then -1 else rst (lrRest f x t) x j i := fun i => rfl
              rw [ecnt, if_pos rfl, hsg] at s2
              rw [hsg] at s1 c7b
              have ECNT := Lib.hid ecnt
              have ERST := Lib.hid erst
              clear ecnt erst
              generalize hbb : bst (rst (lrRest f x t) x j) x = b at *
              go_wp2_with fail
              go_roundw
              case rel =>
                refine ⟨j + 1, by omega, by go_num, ?_, ?_, ?_⟩
                · refine (((P7.out.drewN m).set hb _).far (by simp; omega) _).congr (fun i hi => ?_)
                  rw [ECNT.out i]
                  by_cases e : i = b
                  · subst e; simp only [if_pos rfl, hsg]; go_num
                  · simp only [if_neg e]
                · refine (((P8.out.drewN m).far (by simp; omega) _).set hb _).congr (fun i hi => ?_)
                  rw [ERST.out i]
                  by_cases e : i = b
                  · simp only [if_pos e]
                  · simp only [if_neg e]
                · have hd : Below w.heap.size wr (wr.drewN m) := ⟨rfl, rfl, rfl, Nat.le_refl _, fun _ _ => rfl⟩
                  refine Below.setCell (Below.setCell (BQ.out.trans hd) ?_ _) ?_ _
                  · exact P7.out.base
                  · exact P8.out.base
              case measure => simp [intOf]; omega
        · obtain rfl : j = lrLeft f k t := by omega
          have hz0' : ¬ (0 : Int) < (lrLeft f k t : Int) - (lrLeft f k t : Nat) := by omega
          go_wp2_with fail
          go_ret2
          have Q7 := P7.out.congr (f' := fun i => .int .i64 (lr f k t i)) (fun i hi => by show Value.int _ _ = _; rw [(HB.out i hi).2.2])
          exact ⟨_, _, rfl, Q7.ints (fun i hi => by have := HB.out i hi; omega), .inr ⟨_, rfl, Q7.base, Q7.row⟩, BQ.out⟩
theorem impl_lr_yes (w : World) (A : Option Addr) (n cap : Nat) (f : Nat → Int) (h : IntsF w A n cap f) (t : Int) (haw : awB f n = true) (ht : -1000000000 ≤ t ∧ t ≤ 1000000000) :
    Calls Try.prog 23 #[.int .i64 t, .slice A n cap] w (NewInts w n (lr f n t) true) := by
  by_cases hs : t < 0
  · exact impl_lr_neg w A n cap f h t haw ht hs
  · exact impl_lr_pos w A n cap f h t haw ht hs
end Go.Proofs.Ytmplfpdokkcpcaa
