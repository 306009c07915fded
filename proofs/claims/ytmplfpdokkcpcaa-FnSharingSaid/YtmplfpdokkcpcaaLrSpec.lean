/-
  Contracts of the reference's LargestRemainder.
-/
import Derived.Test.YtmplfpdokkcpcaaLrNum
import Derived.BigQuiet
namespace Go.Proofs.Ytmplfpdokkcpcaa
open Go.RowKit cost num
set_option linter.unusedVariables false
set_option linter.unusedSimpArgs false
theorem spec_lr_no1 (w : World) (A : Option Addr) (n cap : Nat) (f : Nat → Int) (h : IntsF w A n cap f) (t : Int) (haw : awB f n = false) :
    Calls Try.prog 22 #[.int .i64 t, .slice A n cap] w (NewInts w 0 (fun _ => 0) false) := by
  have hn : n ≤ 9223372036854775807 := by have := h.max; have := h.le; omega
  have H := Lib.hid h
  clear h
  go_enter Try.func22, Try.ntmps22
  go_wp2_with (first | (go_at_call 10; refine (spec_areWeights _ _ _ _ _ H.out).mono ?_; rintro e w' ⟨rfl, hw'⟩; obtain rfl := hw'.symm))
  go_ret2
  exact ⟨_, _, rfl, IntsF.empty _ _ _ (by omega) _, .inl rfl, (Below.refl _ _).alloc (Nat.le_refl _) _⟩
theorem spec_lr_no2 (w : World) (A : Option Addr) (n cap : Nat) (f : Nat → Int) (h : IntsF w A n cap f) (t : Int) (haw : awB f n = true) (ht : ¬ (-1000000000 ≤ t ∧ t ≤ 1000000000)) :
    Calls Try.prog 22 #[.int .i64 t, .slice A n cap] w (NewInts w 0 (fun _ => 0) false) := by
  have hn : n ≤ 9223372036854775807 := by have := h.max; have := h.le; omega
  have H := Lib.hid h
  clear h
  go_enter Try.func22, Try.ntmps22
  go_wp2_with (first | (go_at_call 10; refine (spec_areWeights _ _ _ _ _ H.out).mono ?_; rintro e w' ⟨rfl, hw'⟩; obtain rfl := hw'.symm) | (go_at_call 28; refine (l1In_no _ _ _ _ (by omega)).mono ?_; rintro e w' ⟨rfl, hw'⟩; obtain rfl := hw'.symm))
  go_ret2
  exact ⟨_, _, rfl, IntsF.empty _ _ _ (by omega) _, .inl rfl, (Below.refl _ _).alloc (Nat.le_refl _) _⟩
set_option maxHeartbeats 2000000 in
theorem spec_lr_neg (w : World) (A : Option Addr) (n cap : Nat) (f : Nat → Int) (h : IntsF w A n cap f) (t : Int) (haw : awB f n = true) (ht : -1000000000 ≤ t ∧ t ≤ 1000000000) (hs : t < 0) :
    Calls Try.prog 22 #[.int .i64 t, .slice A n cap] w (NewInts w n (lr f n t) true) := by
  have hn : n ≤ 9223372036854775807 := by have := h.max; have := h.le; omega
  have H := Lib.hid h
  clear h
  obtain ⟨n1, n40, hpos⟩ := aw_n haw
  have n1' : (0 : Int) < (n : Int) := by omega
  have n1n : 0 < n := by omega
  have hz : (sumTo f n == 0) = false := by simp; omega
  have hsums := aw_sums haw
  have hS := aw_sums haw n (Nat.le_refl _)
  have hsg : sgn t = -1 := by unfold sgn; rw [if_pos hs]
  have HS := Lib.hid hsums
  have HONE := Lib.hid (fun i hi => (⟨lr_prod haw ht i hi, lr_div haw ht i hi⟩ : _ ∧ _))
  have HQ := Lib.hid (lr_quo_sum haw ht)
  have HL := Lib.hid (lr_left haw ht).1
  have HSTEP := Lib.hid (fun j (hj : j ≤ lrLeft f n t) i hi => (⟨(lr_div haw ht i hi).2.2.2, cnt_bounds (lrRest f n t) n j i⟩ : _ ∧ _))
  have HB := Lib.hid (lr_bounds haw ht)
  have hleft := (lr_left haw ht).2
  have HT := Lib.hid ht
  clear hsums
  obtain ⟨i0, hi, hz0, hz1, hz2⟩ := info_parts int_info
  go_enter Try.func22, Try.ntmps22
  go_wp2_with (first | (go_at_call 10; refine (spec_areWeights _ _ _ _ _ H.out).mono ?_; rintro e w' ⟨rfl, hw'⟩; obtain rfl := hw'.symm) | (go_at_call 28; refine (l1In_yes _ _ _ _ (by omega)).mono ?_; rintro e w' ⟨rfl, hw'⟩; obtain rfl := hw'.symm))
  clear haw
  refine (spec_l1Sum _ _ _ _ _ H.out (fun j hj => by have := HS.out j hj; omega)).mono ?_
  rintro e w' ⟨rfl, hw'⟩; obtain rfl := hw'.symm
  have hT := HT.out
  go_wp2_with fail
  clear hT
  go_loopw [8, 9, 10, 11] (fun v u l i wr => ∃ k g8 c8 g9 c9 : Nat, k ≤ n ∧ i = .int .i64 (k : Int) ∧ v = .slice (some ⟨g8, 0, none⟩) k c8 ∧ u = .slice (some ⟨g9, 0, none⟩) k c9 ∧ l = .int .i64 (sgn t * t - sumTo (lrQuo f n t) k) ∧ g8 ≠ g9 ∧ Own w.heap.size wr 3 g8 k c8 (fun i => .int .i64 (lrQuo f n t i)) ∧ Own w.heap.size wr 3 g9 k c9 (fun i => .int .i64 (lrRest f n t i)) ∧ Below w.heap.size w wr) (fun _ _ _ i _ => n - (intOf i).toNat)
  case atStart => exact ⟨0, w.heap.size, 0, w.heap.size + 1, 0, Nat.zero_le _, rfl, rfl, rfl, by simp [sumTo, hsg], by omega, (own_new w (Nat.le_refl _) _ _).alloc _, by simpa using own_new (w.alloc (.cells #[] 3)) (B := w.heap.size) (by simp) 3 _, ((Below.refl _ _).alloc (Nat.le_refl _) _).alloc (by simp) _⟩
  case round =>
    obtain ⟨k, g8, c8, g9, c9, hk, rfl, rfl, rfl, rfl, hne, ho8, ho9, hbel⟩ := hrel
    have O8 := Lib.hid ho8
    have O9 := Lib.hid ho9
    have BE := Lib.hid hbel
    clear ho8 ho9 hbel
    by_cases hlt : k < n
    · have hlt' : (k : Int) < (n : Int) := by omega
      obtain ⟨b, o, rfl, hB, hc, hfb⟩ := (H.out.call BE.out).cell k hlt
      obtain ⟨⟨p1, p2⟩, p3, p4, p5, p6, p7⟩ := HONE.out k hlt
      have hT := HT.out
      have hq := HQ.out k (by omega)
      rw [hsg] at p1 p2
      have eq1 : (-1 * t * f k).tdiv (sumTo f n) = lrQuo f n t k := by unfold lrQuo; rw [hsg]
      have eq2 : (-1 * t * f k).tmod (sumTo f n) = lrRest f n t k := by unfold lrRest; rw [hsg]
      have esum : sumTo (lrQuo f n t) (k + 1) = sumTo (lrQuo f n t) k + lrQuo f n t k := rfl
      have ESUM := Lib.hid esum
      rw [hsg]
      clear p3 esum
      simp only [Int.neg_one_mul] at p1 p2 eq1 eq2
      simp only [Int.neg_one_mul]
      go_wp2_with (at_builtin; refine app1 _ rfl _ _ 22 rfl (i := i0) (z := .int .i64 0) (bytes := 8) Try.underlying22 hi hz0 hz1 hz2 rfl rfl rfl (O8.out) (BE.out.size) rfl (by rw [← eq1]) (by omega) (by decide) ?_)
      intro g8' c8' w1 ho8 hg8 hat8
      have lt9 := O9.out.lt
      have O8' := Lib.hid ho8
      have hne' : g8' ≠ g9 := by omega
      have O9' := Lib.hid (O9.out.grown hg8 hne)
      have BE' := Lib.hid (BE.out.trans (grown_below hg8 O8.out.base BE.out.size))
      clear ho8 hg8 hat8 hc
      go_wp2_with (at_builtin; refine app1 _ rfl _ _ 22 rfl (i := i0) (z := .int .i64 0) (bytes := 8) Try.underlying22 hi hz0 hz1 hz2 rfl rfl rfl (O9'.out) (BE'.out.size) rfl (by rw [← eq2]) (by omega) (by decide) ?_)
      intro g9' c9' w2 ho9 hg9 hat9
      have lt8 := O8'.out.lt
      have O9'' := Lib.hid ho9
      have O8'' := Lib.hid (O8'.out.grown hg9 (by omega))
      have BE'' := Lib.hid (BE'.out.trans (grown_below hg9 O9'.out.base BE'.out.size))
      clear ho9 hg9
      go_wp2_with fail
      go_roundw
      case rel => exact ⟨k + 1, _, _, _, _, by omega, by go_num, rfl, rfl, by rw [ESUM.out]; exact congrArg _ (by omega), by omega, O8''.out, O9''.out, BE''.out⟩
      case measure => simp [intOf]; omega
    · obtain rfl : k = n := by omega
      rw [HL.out]
      go_wp2_with fail
      go_loopw [10] (fun l wq => ∃ j : Nat, j ≤ lrLeft f k t ∧ l = .int .i64 ((lrLeft f k t : Int) - j) ∧ Own w.heap.size wq 3 g8 k c8 (fun i => .int .i64 (lrQuo f k t i + cnt (lrRest f k t) k j i)) ∧ Own w.heap.size wq 3 g9 k c9 (fun i => .int .i64 (rst (lrRest f k t) k j i)) ∧ Below w.heap.size w wq) (fun l _ => (intOf l).toNat)
      case atStart => exact ⟨0, Nat.zero_le _, by simp, O8.out.congr (fun i _ => by simp [cnt]), O9.out, BE.out⟩
      case round =>
        obtain ⟨j, hj, rfl, ho8, ho9, hbel⟩ := hrel
        have P8 := Lib.hid ho8
        have P9 := Lib.hid ho9
        have BQ := Lib.hid hbel
        clear ho8 ho9 hbel
        by_cases hjl : j < lrLeft f k t
        · have hjl' : (0 : Int) < (lrLeft f k t : Int) - j := by omega
          go_wp2_with fail
          go_loopw [13, 14] (fun b i wz => ∃ x m : Nat, 1 ≤ x ∧ x ≤ k ∧ i = .int .i64 (x : Int) ∧ b = .int .i64 (bst (rst (lrRest f k t) k j) x : Int) ∧ wz = wr.drewN m) (fun _ i _ => k - (intOf i).toNat)
          case atStart => exact ⟨1, 0, Nat.le_refl _, n1, rfl, by simp [bst], rfl⟩
          case round =>
            obtain ⟨x, m, hx1, hx, rfl, rfl, rfl⟩ := hrel
            have hb := bst_in (rst (lrRest f k t) k j) n1n x hx
            have hb' : (bst (rst (lrRest f k t) k j) x : Int) < (k : Int) := by omega
            by_cases hxk : x < k
            · have hxk' : (x : Int) < (k : Int) := by omega
              have cx : wr.cell? ⟨g9, x, none⟩ = some (.int .i64 (rst (lrRest f k t) k j x)) := P9.out.row.cell hxk
              have cb : wr.cell? ⟨g9, bst (rst (lrRest f k t) k j) x, none⟩ = some (.int .i64 (rst (lrRest f k t) k j (bst (rst (lrRest f k t) k j) x))) := P9.out.row.cell hb
              by_cases hgt : rst (lrRest f k t) k j (bst (rst (lrRest f k t) k j) x) < rst (lrRest f k t) k j x
              · go_wp2_with fail
                go_quiet (fail)
                obtain ⟨nq1, rfl⟩ : ∃ m : Nat, m = nq := ⟨_, rfl⟩
                go_wp2_with fail
                go_roundw
                case rel => exact ⟨x + 1, m + nq1, by omega, by omega, by go_num, by simp only [bst]; rw [if_pos hgt], rfl⟩
                case measure => simp [intOf]; omega
              · go_wp2_with fail
                go_quiet (fail)
                obtain ⟨nq1, rfl⟩ : ∃ m : Nat, m = nq := ⟨_, rfl⟩
                go_wp2_with fail
                go_roundw
                case rel => exact ⟨x + 1, m + nq1, by omega, by omega, by go_num, by simp only [bst]; rw [if_neg (by omega)], rfl⟩
                case measure => simp [intOf]; omega
            · obtain rfl : x = k := by omega
              have c8b : wr.cell? ⟨g8, bst (rst (lrRest f x t) x j) x, none⟩ = some (.int .i64 (lrQuo f x t (bst (rst (lrRest f x t) x j) x) + cnt (lrRest f x t) x j (bst (rst (lrRest f x t) x j) x))) := P8.out.row.cell hb
              have c9b : wr.cell? ⟨g9, bst (rst (lrRest f x t) x j) x, none⟩ = some (.int .i64 (rst (lrRest f x t) x j (bst (rst (lrRest f x t) x j) x))) := P9.out.row.cell hb
              have f8b := P8.out.row.frozen (bst (rst (lrRest f x t) x j) x)
              have f9b := P9.out.row.frozen (bst (rst (lrRest f x t) x j) x)
              obtain ⟨⟨s1, s2⟩, s3, s4⟩ := HSTEP.out j hj _ hb
              have ecnt : ∀ i, cnt (lrRest f x t) x (j + 1) i = if i = bst (rst (lrRest f x t) x j) x then cnt (lrRest f x t) x j i + 1 else cnt (lrRest f x t) x j i := fun i => rfl
              have erst : ∀ i, rst (lrRest f x t) x (j + 1) i = if i = bst (rst (lrRest f x t) x j) x then -1 else rst (lrRest f x t) x j i := fun i => rfl
              have ECNT := Lib.hid ecnt
              have ERST := Lib.hid erst
              clear ecnt erst
              generalize hbb : bst (rst (lrRest f x t) x j) x = b at *
              go_wp2_with fail
              go_roundw
              case rel =>
                refine ⟨j + 1, by omega, by go_num, ?_, ?_, ?_⟩
                · refine (((P8.out.drewN m).far (by simp; omega) _).set hb _).congr (fun i hi => ?_)
                  rw [ECNT.out i]
                  by_cases e : i = b
                  · subst e; simp only [if_pos rfl]; go_num
                  · simp only [if_neg e]
                · refine (((P9.out.drewN m).set hb _).far (by simp; omega) _).congr (fun i hi => ?_)
                  rw [ERST.out i]
                  by_cases e : i = b
                  · simp only [if_pos e]
                  · simp only [if_neg e]
                · have hd : Below w.heap.size wr (wr.drewN m) := ⟨rfl, rfl, rfl, Nat.le_refl _, fun _ _ => rfl⟩
                  refine Below.setCell (Below.setCell (BQ.out.trans hd) ?_ _) ?_ _
                  · exact P9.out.base
                  · exact P8.out.base
              case measure => simp [intOf]; omega
        · obtain rfl : j = lrLeft f k t := by omega
          have hz0' : ¬ (0 : Int) < (lrLeft f k t : Int) - (lrLeft f k t : Nat) := by omega
          go_wp2_with fail
          go_loopw [15] (fun i wz => ∃ y : Nat, y ≤ k ∧ i = .int .i64 (y : Int) ∧ Own w.heap.size wz 3 g8 k c8 (fun i => .int .i64 (if i < y then lr f k t i else lrQuo f k t i + cnt (lrRest f k t) k (lrLeft f k t) i)) ∧ Below w.heap.size w wz) (fun i _ => k - (intOf i).toNat)
          case atStart => exact ⟨0, Nat.zero_le _, rfl, P8.out.congr (fun i _ => by simp), BQ.out⟩
          case round =>
            obtain ⟨y, hy, rfl, ho8, hbel⟩ := hrel
            have R8 := Lib.hid ho8
            have BR := Lib.hid hbel
            clear ho8 hbel
            by_cases hyk : y < k
            · have hyk' : (y : Int) < (k : Int) := by omega
              have cy : wr.cell? ⟨g8, y, none⟩ = some (.int .i64 (lrQuo f k t y + cnt (lrRest f k t) k (lrLeft f k t) y)) := (R8.out.row.cell hyk).trans (by simp)
              have fy := R8.out.row.frozen y
              obtain ⟨⟨s1, s2⟩, s3, s4⟩ := HSTEP.out (lrLeft f k t) (Nat.le_refl _) y hyk
              have elr : lr f k t y = -1 * (lrQuo f k t y + cnt (lrRest f k t) k (lrLeft f k t) y) := by unfold lr; rw [hsg]
              have ELR := Lib.hid elr
              clear elr
              go_wp2_with fail
              go_roundw
              case rel =>
                refine ⟨y + 1, by omega, by go_num, ?_, ?_⟩
                · refine (R8.out.set hyk _).congr (fun i hi => ?_)
                  by_cases e : i = y
                  · subst e
                    simp only [if_pos rfl, if_pos (Nat.lt_succ_self _), ELR.out] <;> first | rfl | (simp; done) | (exact congrArg _ (by omega)) | go_num
                  · simp only [if_neg e]
                    by_cases e2 : i < y
                    · rw [if_pos e2, if_pos (by omega)]
                    · rw [if_neg e2, if_neg (by omega)]
                · refine Below.setCell BR.out ?_ _
                  exact R8.out.base
              case measure => simp [intOf]; omega
            · obtain rfl : y = k := by omega
              go_wp2_with fail
              go_ret2
              have Q8 := R8.out.congr (f' := fun i => .int .i64 (lr f y t i)) (fun i hi => by rw [if_pos hi])
              exact ⟨_, _, rfl, Q8.ints (fun i hi => by have := HB.out i hi; omega), .inr ⟨_, rfl, Q8.base, Q8.row⟩, BR.out⟩
set_option maxHeartbeats 2000000 in
theorem spec_lr_pos (w : World) (A : Option Addr) (n cap : Nat) (f : Nat → Int) (h : IntsF w A n cap f) (t : Int) (haw : awB f n = true) (ht : -1000000000 ≤ t ∧ t ≤ 1000000000) (hs : ¬ t < 0) :
    Calls Try.prog 22 #[.int .i64 t, .slice A n cap] w (NewInts w n (lr f n t) true) := by
  have hn : n ≤ 9223372036854775807 := by have := h.max; have := h.le; omega
  have H := Lib.hid h
  clear h
  obtain ⟨n1, n40, hpos⟩ := aw_n haw
  have n1' : (0 : Int) < (n : Int) := by omega
  have n1n : 0 < n := by omega
  have hz : (sumTo f n == 0) = false := by simp; omega
  have hsums := aw_sums haw
  have hS := aw_sums haw n (Nat.le_refl _)
  have hsg : sgn t = 1 := by unfold sgn; rw [if_neg hs]
  have HS := Lib.hid hsums
  have HONE := Lib.hid (fun i hi => (⟨lr_prod haw ht i hi, lr_div haw ht i hi⟩ : _ ∧ _))
  have HQ := Lib.hid (lr_quo_sum haw ht)
  have HL := Lib.hid (lr_left haw ht).1
  have HSTEP := Lib.hid (fun j (hj : j ≤ lrLeft f n t) i hi => (⟨(lr_div haw ht i hi).2.2.2, cnt_bounds (lrRest f n t) n j i⟩ : _ ∧ _))
  have HB := Lib.hid (lr_bounds haw ht)
  have hleft := (lr_left haw ht).2
  have HT := Lib.hid ht
  clear hsums
  obtain ⟨i0, hi, hz0, hz1, hz2⟩ := info_parts int_info
  go_enter Try.func22, Try.ntmps22
  go_wp2_with (first | (go_at_call 10; refine (spec_areWeights _ _ _ _ _ H.out).mono ?_; rintro e w' ⟨rfl, hw'⟩; obtain rfl := hw'.symm) | (go_at_call 28; refine (l1In_yes _ _ _ _ (by omega)).mono ?_; rintro e w' ⟨rfl, hw'⟩; obtain rfl := hw'.symm))
  clear haw
  refine (spec_l1Sum _ _ _ _ _ H.out (fun j hj => by have := HS.out j hj; omega)).mono ?_
  rintro e w' ⟨rfl, hw'⟩; obtain rfl := hw'.symm
  have hT := HT.out
  go_wp2_with fail
  clear hT
  go_loopw [8, 9, 10, 11] (fun v u l i wr => ∃ k g8 c8 g9 c9 : Nat, k ≤ n ∧ i = .int .i64 (k : Int) ∧ v = .slice (some ⟨g8, 0, none⟩) k c8 ∧ u = .slice (some ⟨g9, 0, none⟩) k c9 ∧ l = .int .i64 (sgn t * t - sumTo (lrQuo f n t) k) ∧ g8 ≠ g9 ∧ Own w.heap.size wr 3 g8 k c8 (fun i => .int .i64 (lrQuo f n t i)) ∧ Own w.heap.size wr 3 g9 k c9 (fun i => .int .i64 (lrRest f n t i)) ∧ Below w.heap.size w wr) (fun _ _ _ i _ => n - (intOf i).toNat)
  case atStart => exact ⟨0, w.heap.size, 0, w.heap.size + 1, 0, Nat.zero_le _, rfl, rfl, rfl, by simp [sumTo, hsg], by omega, (own_new w (Nat.le_refl _) _ _).alloc _, by simpa using own_new (w.alloc (.cells #[] 3)) (B := w.heap.size) (by simp) 3 _, ((Below.refl _ _).alloc (Nat.le_refl _) _).alloc (by simp) _⟩
  case round =>
    obtain ⟨k, g8, c8, g9, c9, hk, rfl, rfl, rfl, rfl, hne, ho8, ho9, hbel⟩ := hrel
    have O8 := Lib.hid ho8
    have O9 := Lib.hid ho9
    have BE := Lib.hid hbel
    clear ho8 ho9 hbel
    by_cases hlt : k < n
    · have hlt' : (k : Int) < (n : Int) := by omega
      obtain ⟨b, o, rfl, hB, hc, hfb⟩ := (H.out.call BE.out).cell k hlt
      obtain ⟨⟨p1, p2⟩, p3, p4, p5, p6, p7⟩ := HONE.out k hlt
      have hT := HT.out
      have hq := HQ.out k (by omega)
      rw [hsg] at p1 p2
      have eq1 : (1 * t * f k).tdiv (sumTo f n) = lrQuo f n t k := by unfold lrQuo; rw [hsg]
      have eq2 : (1 * t * f k).tmod (sumTo f n) = lrRest f n t k := by unfold lrRest; rw [hsg]
      have esum : sumTo (lrQuo f n t) (k + 1) = sumTo (lrQuo f n t) k + lrQuo f n t k := rfl
      have ESUM := Lib.hid esum
      rw [hsg]
      clear p3 esum
      simp only [Int.one_mul] at p1 p2 eq1 eq2
      simp only [Int.one_mul]
      go_wp2_with (at_builtin; refine app1 _ rfl _ _ 22 rfl (i := i0) (z := .int .i64 0) (bytes := 8) Try.underlying22 hi hz0 hz1 hz2 rfl rfl rfl (O8.out) (BE.out.size) rfl (by rw [← eq1]) (by omega) (by decide) ?_)
      intro g8' c8' w1 ho8 hg8 hat8
      have lt9 := O9.out.lt
      have O8' := Lib.hid ho8
      have hne' : g8' ≠ g9 := by omega
      have O9' := Lib.hid (O9.out.grown hg8 hne)
      have BE' := Lib.hid (BE.out.trans (grown_below hg8 O8.out.base BE.out.size))
      clear ho8 hg8 hat8 hc
      go_wp2_with (at_builtin; refine app1 _ rfl _ _ 22 rfl (i := i0) (z := .int .i64 0) (bytes := 8) Try.underlying22 hi hz0 hz1 hz2 rfl rfl rfl (O9'.out) (BE'.out.size) rfl (by rw [← eq2]) (by omega) (by decide) ?_)
      intro g9' c9' w2 ho9 hg9 hat9
      have lt8 := O8'.out.lt
      have O9'' := Lib.hid ho9
      have O8'' := Lib.hid (O8'.out.grown hg9 (by omega))
      have BE'' := Lib.hid (BE'.out.trans (grown_below hg9 O9'.out.base BE'.out.size))
      clear ho9 hg9
      go_wp2_with fail
      go_roundw
      case rel => exact ⟨k + 1, _, _, _, _, by omega, by go_num, rfl, rfl, by rw [ESUM.out]; exact congrArg _ (by omega), by omega, O8''.out, O9''.out, BE''.out⟩
      case measure => simp [intOf]; omega
    · obtain rfl : k = n := by omega
      rw [HL.out]
      go_wp2_with fail
      go_loopw [10] (fun l wq => ∃ j : Nat, j ≤ lrLeft f k t ∧ l = .int .i64 ((lrLeft f k t : Int) - j) ∧ Own w.heap.size wq 3 g8 k c8 (fun i => .int .i64 (lrQuo f k t i + cnt (lrRest f k t) k j i)) ∧ Own w.heap.size wq 3 g9 k c9 (fun i => .int .i64 (rst (lrRest f k t) k j i)) ∧ Below w.heap.size w wq) (fun l _ => (intOf l).toNat)
      case atStart => exact ⟨0, Nat.zero_le _, by simp, O8.out.congr (fun i _ => by simp [cnt]), O9.out, BE.out⟩
      case round =>
        obtain ⟨j, hj, rfl, ho8, ho9, hbel⟩ := hrel
        have P8 := Lib.hid ho8
        have P9 := Lib.hid ho9
        have BQ := Lib.hid hbel
        clear ho8 ho9 hbel
        by_cases hjl : j < lrLeft f k t
        · have hjl' : (0 : Int) < (lrLeft f k t : Int) - j := by omega
          go_wp2_with fail
          go_loopw [13, 14] (fun b i wz => ∃ x m : Nat, 1 ≤ x ∧ x ≤ k ∧ i = .int .i64 (x : Int) ∧ b = .int .i64 (bst (rst (lrRest f k t) k j) x : Int) ∧ wz = wr.drewN m) (fun _ i _ => k - (intOf i).toNat)
          case atStart => exact ⟨1, 0, Nat.le_refl _, n1, rfl, by simp [bst], rfl⟩
          case round =>
            obtain ⟨x, m, hx1, hx, rfl, rfl, rfl⟩ := hrel
            have hb := bst_in (rst (lrRest f k t) k j) n1n x hx
            have hb' : (bst (rst (lrRest f k t) k j) x : Int) < (k : Int) := by omega
            by_cases hxk : x < k
            · have hxk' : (x : Int) < (k : Int) := by omega
              have cx : wr.cell? ⟨g9, x, none⟩ = some (.int .i64 (rst (lrRest f k t) k j x)) := P9.out.row.cell hxk
              have cb : wr.cell? ⟨g9, bst (rst (lrRest f k t) k j) x, none⟩ = some (.int .i64 (rst (lrRest f k t) k j (bst (rst (lrRest f k t) k j) x))) := P9.out.row.cell hb
              by_cases hgt : rst (lrRest f k t) k j (bst (rst (lrRest f k t) k j) x) < rst (lrRest f k t) k j x
              · go_wp2_with fail
                go_quiet (fail)
                obtain ⟨nq1, rfl⟩ : ∃ m : Nat, m = nq := ⟨_, rfl⟩
                go_wp2_with fail
                go_roundw
                case rel => exact ⟨x + 1, m + nq1, by omega, by omega, by go_num, by simp only [bst]; rw [if_pos hgt], rfl⟩
                case measure => simp [intOf]; omega
              · go_wp2_with fail
                go_quiet (fail)
                obtain ⟨nq1, rfl⟩ : ∃ m : Nat, m = nq := ⟨_, rfl⟩
                go_wp2_with fail
                go_roundw
                case rel => exact ⟨x + 1, m + nq1, by omega, by omega, by go_num, by simp only [bst]; rw [if_neg (by omega)], rfl⟩
                case measure => simp [intOf]; omega
            · obtain rfl : x = k := by omega
              have c8b : wr.cell? ⟨g8, bst (rst (lrRest f x t) x j) x, none⟩ = some (.int .i64 (lrQuo f x t (bst (rst (lrRest f x t) x j) x) + cnt (lrRest f x t) x j (bst (rst (lrRest f x t) x j) x))) := P8.out.row.cell hb
              have c9b : wr.cell? ⟨g9, bst (rst (lrRest f x t) x j) x, none⟩ = some (.int .i64 (rst (lrRest f x t) x j (bst (rst (lrRest f x t) x j) x))) := P9.out.row.cell hb
              have f8b := P8.out.row.frozen (bst (rst (lrRest f x t) x j) x)
              have f9b := P9.out.row.frozen (bst (rst (lrRest f x t) x j) x)
              obtain ⟨⟨s1, s2⟩, s3, s4⟩ := HSTEP.out j hj _ hb
              have ecnt : ∀ i, cnt (lrRest f x t) x (j + 1) i = if i = bst (rst (lrRest f x t) x j) x then cnt (lrRest f x t) x j i + 1 else cnt (lrRest f x t) x j i := fun i => rfl
              have erst : ∀ i, rst (lrRest f x t) x (j + 1) i = if i = bst (rst (lrRest f x t) x j) x then -1 else rst (lrRest f x t) x j i := fun i => rfl
              have ECNT := Lib.hid ecnt
              have ERST := Lib.hid erst
              clear ecnt erst
              generalize hbb : bst (rst (lrRest f x t) x j) x = b at *
              go_wp2_with fail
              go_roundw
              case rel =>
                refine ⟨j + 1, by omega, by go_num, ?_, ?_, ?_⟩
                · refine (((P8.out.drewN m).far (by simp; omega) _).set hb _).congr (fun i hi => ?_)
                  rw [ECNT.out i]
                  by_cases e : i = b
                  · subst e; simp only [if_pos rfl]; go_num
                  · simp only [if_neg e]
                · refine (((P9.out.drewN m).set hb _).far (by simp; omega) _).congr (fun i hi => ?_)
                  rw [ERST.out i]
                  by_cases e : i = b
                  · simp only [if_pos e]
                  · simp only [if_neg e]
                · have hd : Below w.heap.size wr (wr.drewN m) := ⟨rfl, rfl, rfl, Nat.le_refl _, fun _ _ => rfl⟩
                  refine Below.setCell (Below.setCell (BQ.out.trans hd) ?_ _) ?_ _
                  · exact P9.out.base
                  · exact P8.out.base
              case measure => simp [intOf]; omega
        · obtain rfl : j = lrLeft f k t := by omega
          have hz0' : ¬ (0 : Int) < (lrLeft f k t : Int) - (lrLeft f k t : Nat) := by omega
          go_wp2_with fail
          go_loopw [15] (fun i wz => ∃ y : Nat, y ≤ k ∧ i = .int .i64 (y : Int) ∧ Own w.heap.size wz 3 g8 k c8 (fun i => .int .i64 (if i < y then lr f k t i else lrQuo f k t i + cnt (lrRest f k t) k (lrLeft f k t) i)) ∧ Below w.heap.size w wz) (fun i _ => k - (intOf i).toNat)
          case atStart => exact ⟨0, Nat.zero_le _, rfl, P8.out.congr (fun i _ => by simp), BQ.out⟩
          case round =>
            obtain ⟨y, hy, rfl, ho8, hbel⟩ := hrel
            have R8 := Lib.hid ho8
            have BR := Lib.hid hbel
            clear ho8 hbel
            by_cases hyk : y < k
            · have hyk' : (y : Int) < (k : Int) := by omega
              have cy : wr.cell? ⟨g8, y, none⟩ = some (.int .i64 (lrQuo f k t y + cnt (lrRest f k t) k (lrLeft f k t) y)) := (R8.out.row.cell hyk).trans (by simp)
              have fy := R8.out.row.frozen y
              obtain ⟨⟨s1, s2⟩, s3, s4⟩ := HSTEP.out (lrLeft f k t) (Nat.le_refl _) y hyk
              have elr : lr f k t y = 1 * (lrQuo f k t y + cnt (lrRest f k t) k (lrLeft f k t) y) := by unfold lr; rw [hsg]
              have ELR := Lib.hid elr
              clear elr
              go_wp2_with fail
              go_roundw
              case rel =>
                refine ⟨y + 1, by omega, by go_num, ?_, ?_⟩
                · refine (R8.out.set hyk _).congr (fun i hi => ?_)
                  by_cases e : i = y
                  · subst e
                    simp only [if_pos rfl, if_pos (Nat.lt_succ_self _), ELR.out] <;> first | rfl | (simp; done) | (exact congrArg _ (by omega)) | go_num
                  · simp only [if_neg e]
                    by_cases e2 : i < y
                    · rw [if_pos e2, if_pos (by omega)]
                    · rw [if_neg e2, if_neg (by omega)]
                · refine Below.setCell BR.out ?_ _
                  exact R8.out.base
              case measure => simp [intOf]; omega
            · obtain rfl : y = k := by omega
              go_wp2_with fail
              go_ret2
              have Q8 := R8.out.congr (f' := fun i => .int .i64 (lr f y t i)) (fun i hi => by rw [if_pos hi])
              exact ⟨_, _, rfl, Q8.ints (fun i hi => by have := HB.out i hi; omega), .inr ⟨_, rfl, Q8.base, Q8.row⟩, BR.out⟩
theorem spec_lr_yes (w : World) (A : Option Addr) (n cap : Nat) (f : Nat → Int) (h : IntsF w A n cap f) (t : Int) (haw : awB f n = true) (ht : -1000000000 ≤ t ∧ t ≤ 1000000000) :
    Calls Try.prog 22 #[.int .i64 t, .slice A n cap] w (NewInts w n (lr f n t) true) := by
  by_cases hs : t < 0
  · exact spec_lr_neg w A n cap f h t haw ht hs
  · exact spec_lr_pos w A n cap f h t haw ht hs
end Go.Proofs.Ytmplfpdokkcpcaa
