/-
  Contracts of the functions on ratios, of the program and of the reference: both compute the same.
-/
import Derived.Test.YtccejhhhengpcaaBase6
namespace Go.Proofs.Ytccejhhhengpcaa
open Go.RowKit num

theorem bcell {W w1 : World} (hb : Below W.heap.size W w1) : (∀ b o, b < W.heap.size → w1.cell? ⟨b, o, none⟩ = W.cell? ⟨b, o, none⟩) ∧ (∀ b o, b < W.heap.size → w1.frozen? ⟨b, o, none⟩ = W.frozen? ⟨b, o, none⟩) :=
  ⟨fun b o h => hb.cell (p := ⟨b, o, none⟩) h, fun b o h => hb.frozen (p := ⟨b, o, none⟩) h⟩
theorem tdiv_le {n g : Int} (hn : -2000000000000000000 ≤ n ∧ n ≤ 2000000000000000000) : -2000000000000000000 ≤ n.tdiv g ∧ n.tdiv g ≤ 2000000000000000000 := by
  have := Int.natAbs_tdiv_le_natAbs n g
  omega
theorem mk_bad {n d : Int} (h : d = 0 ∨ ¬ (-2000000000000000000 ≤ n ∧ n ≤ 2000000000000000000) ∨ ¬ (-2000000000000000000 ≤ d ∧ d ≤ 2000000000000000000)) : mk n d = (0, 0) := by
  unfold mk; rw [if_pos]
  rcases h with h | h | h
  · exact .inl h
  · exact .inr (.inl (by unfold fits; exact decide_eq_false h))
  · exact .inr (.inr (by unfold fits; exact decide_eq_false h))
theorem mk_pos {n d : Int} (hn : -2000000000000000000 ≤ n ∧ n ≤ 2000000000000000000) (hd : 0 < d) (hd2 : d ≤ 2000000000000000000) : mk n d = low n d := by
  unfold mk; rw [if_neg, if_neg (by omega)]
  rintro (h | h | h)
  · omega
  · unfold fits at h; rw [decide_eq_true hn] at h; cases h
  · unfold fits at h; rw [decide_eq_true (by omega)] at h; cases h
theorem mk_neg {n d : Int} (hn : -2000000000000000000 ≤ n ∧ n ≤ 2000000000000000000) (hd : d < 0) (hd2 : -2000000000000000000 ≤ d) : mk n d = low (-n) (-d) := by
  unfold mk; rw [if_neg, if_pos hd]
  rintro (h | h | h)
  · omega
  · unfold fits at h; rw [decide_eq_true hn] at h; cases h
  · unfold fits at h; rw [decide_eq_true (by omega)] at h; cases h
theorem low_yes {n d : Int} (hd : 0 < d) (h : isR (n.tdiv (gcdI n d)) (d / gcdI n d) = true) : low n d = (n.tdiv (gcdI n d), d / gcdI n d) := by
  unfold low; rw [Int.tdiv_eq_ediv_of_nonneg (a := d) (by omega), if_pos h]
theorem low_no {n d : Int} (hd : 0 < d) (h : isR (n.tdiv (gcdI n d)) (d / gcdI n d) = false) : low n d = (0, 0) := by
  unfold low; rw [Int.tdiv_eq_ediv_of_nonneg (a := d) (by omega), if_neg (by simp [h])]

theorem impl_mk_zero (n d : Int) (w : World) (h : d = 0) :
    Calls Try.prog 71 #[.int .i64 n, .int .i64 d] w fun e w' => e = .returned (.agg #[.int .i64 (mk n d).1, .int .i64 (mk n d).2]) ∧ Below w.heap.size w w' := by
  rw [mk_bad (.inl h)]
  subst h
  go_enter Try.func71, Try.ntmps71
  go_wp2_with fail
  go_returns
  exact ⟨rfl, by repeat' (first | exact Below.refl _ _ | assumption | refine Below.alloc ?_ ?_ _ | refine below_drewN ?_ _ | refine Below.drew ?_ | refine Below.setCell ?_ ?_ _ | refine below_then (by assumption) ?_ ?_ | omega | (simp; done) | (simp; omega))⟩
theorem impl_mk_badn (n d : Int) (w : World) (h0 : d ≠ 0) (h : ¬ (-2000000000000000000 ≤ n ∧ n ≤ 2000000000000000000)) :
    Calls Try.prog 71 #[.int .i64 n, .int .i64 d] w fun e w' => e = .returned (.agg #[.int .i64 (mk n d).1, .int .i64 (mk n d).2]) ∧ Below w.heap.size w w' := by
  rw [mk_bad (.inr (.inl h))]
  have hd0 : (d == 0) = false := by simp [h0]
  go_enter Try.func71, Try.ntmps71
  go_wp2_with (first | (go_at_call 51; refine (in_yes _ _ _ _ (by omega)).mono ?_; rintro e w' ⟨rfl, rfl⟩) | (go_at_call 51; refine (in_no _ _ _ _ (by omega)).mono ?_; rintro e w' ⟨rfl, rfl⟩) | (go_at_call 70; refine (absolute_any _ _ (by omega) (by omega)).mono ?_; rintro e w' ⟨rfl, rfl⟩) | (go_at_call 69; refine (divisor_any _ _ _ (by omega) (by omega) (by omega) (by omega)).mono ?_; rintro e w' ⟨rfl, nq, rfl⟩))
  go_returns
  exact ⟨rfl, by repeat' (first | exact Below.refl _ _ | assumption | refine Below.alloc ?_ ?_ _ | refine below_drewN ?_ _ | refine Below.drew ?_ | refine Below.setCell ?_ ?_ _ | refine below_then (by assumption) ?_ ?_ | omega | (simp; done) | (simp; omega))⟩
theorem impl_mk_badd (n d : Int) (w : World) (h0 : d ≠ 0) (hn : -2000000000000000000 ≤ n ∧ n ≤ 2000000000000000000) (h : ¬ (-2000000000000000000 ≤ d ∧ d ≤ 2000000000000000000)) :
    Calls Try.prog 71 #[.int .i64 n, .int .i64 d] w fun e w' => e = .returned (.agg #[.int .i64 (mk n d).1, .int .i64 (mk n d).2]) ∧ Below w.heap.size w w' := by
  rw [mk_bad (.inr (.inr h))]
  have hd0 : (d == 0) = false := by simp [h0]
  go_enter Try.func71, Try.ntmps71
  go_wp2_with (first | (go_at_call 51; refine (in_yes _ _ _ _ (by omega)).mono ?_; rintro e w' ⟨rfl, rfl⟩) | (go_at_call 51; refine (in_no _ _ _ _ (by omega)).mono ?_; rintro e w' ⟨rfl, rfl⟩) | (go_at_call 70; refine (absolute_any _ _ (by omega) (by omega)).mono ?_; rintro e w' ⟨rfl, rfl⟩) | (go_at_call 69; refine (divisor_any _ _ _ (by omega) (by omega) (by omega) (by omega)).mono ?_; rintro e w' ⟨rfl, nq, rfl⟩))
  go_returns
  exact ⟨rfl, by repeat' (first | exact Below.refl _ _ | assumption | refine Below.alloc ?_ ?_ _ | refine below_drewN ?_ _ | refine Below.drew ?_ | refine Below.setCell ?_ ?_ _ | refine below_then (by assumption) ?_ ?_ | omega | (simp; done) | (simp; omega))⟩
theorem impl_mk_pos_yes (n d : Int) (w : World) (hn : -2000000000000000000 ≤ n ∧ n ≤ 2000000000000000000) (hd : 0 < d) (hd2 : d ≤ 2000000000000000000) (hr : isR (n.tdiv (gcdI n d)) (d / gcdI n d) = true) :
    Calls Try.prog 71 #[.int .i64 n, .int .i64 d] w fun e w' => e = .returned (.agg #[.int .i64 (mk n d).1, .int .i64 (mk n d).2]) ∧ Below w.heap.size w w' := by
  rw [mk_pos hn hd hd2, low_yes (by omega) hr]
  have hd0 : (d == 0) = false := by simp; omega
  have hg1 : 1 ≤ gcdI n d := gcdI_pos n d (by omega)
  have hg2 : gcdI n d ≤ d := gcdI_le_right n d (by omega)
  have hgz : (gcdI n d == 0) = false := by simp; omega
  have hgn : gcdI ((n.natAbs : Nat) : Int) d = gcdI n d := gcdI_natAbs n d
  have hna : ((n.natAbs : Nat) : Int) ≤ 2000000000000000000 := by omega
  obtain ⟨q1, q2⟩ := tdiv_le (n := n) (g := gcdI n d) ⟨by omega, by omega⟩
  have hdd : (d).tdiv (gcdI n d) = d / gcdI n d := Int.tdiv_eq_ediv_of_nonneg (by omega)
  obtain ⟨q3, q4⟩ := tdiv_le (n := d) (g := gcdI n d) ⟨by omega, by omega⟩
  rw [hdd] at q3 q4
  clear hdd
  obtain ⟨hn1, hn2⟩ := hn
  go_enter Try.func71, Try.ntmps71
  go_wp2_with (first | (go_at_call 51; refine (in_yes _ _ _ _ (by omega)).mono ?_; rintro e w' ⟨rfl, rfl⟩) | (go_at_call 51; refine (in_no _ _ _ _ (by omega)).mono ?_; rintro e w' ⟨rfl, rfl⟩) | (go_at_call 70; refine (absolute_any _ _ (by omega) (by omega)).mono ?_; rintro e w' ⟨rfl, rfl⟩) | (go_at_call 69; refine (divisor_any _ _ _ (by omega) (by omega) (by omega) (by omega)).mono ?_; rintro e w' ⟨rfl, nq, rfl⟩))
  go_region
  go_wp2_with fail
  refine (impl_isRatio _ _ _).mono ?_; rintro e w1 ⟨rfl, hb1⟩
  obtain ⟨hc1, hf1⟩ := bcell hb1
  have hz0 := hb1.size
  simp at hz0
  have hz1 : w.heap.size < w1.heap.size := by omega
  have hz2 : w.heap.size + 1 < w1.heap.size := by omega
  have k0 : w1.cell? ⟨w.heap.size, 0, none⟩ = some (.int .i64 0) := by rw [hc1 _ _ (by simp; omega)]; simp [go_sem]
  have k1 : w1.cell? ⟨w.heap.size, 1, none⟩ = some (.int .i64 0) := by rw [hc1 _ _ (by simp; omega)]; simp [go_sem]
  go_wp2_with fail
  refine bodyPost_ret (by simp [results, Try.results71, go_sem, k0, k1]; try rfl) rfl ?_
  exact ⟨rfl, by repeat' (first | exact Below.refl _ _ | assumption | refine Below.alloc ?_ ?_ _ | refine below_drewN ?_ _ | refine Below.drew ?_ | refine Below.setCell ?_ ?_ _ | refine below_then (by assumption) ?_ ?_ | omega | (simp; done) | (simp; omega))⟩
theorem impl_mk_pos_no (n d : Int) (w : World) (hn : -2000000000000000000 ≤ n ∧ n ≤ 2000000000000000000) (hd : 0 < d) (hd2 : d ≤ 2000000000000000000) (hr : isR (n.tdiv (gcdI n d)) (d / gcdI n d) = false) :
    Calls Try.prog 71 #[.int .i64 n, .int .i64 d] w fun e w' => e = .returned (.agg #[.int .i64 (mk n d).1, .int .i64 (mk n d).2]) ∧ Below w.heap.size w w' := by
  rw [mk_pos hn hd hd2, low_no (by omega) hr]
  have hd0 : (d == 0) = false := by simp; omega
  have hg1 : 1 ≤ gcdI n d := gcdI_pos n d (by omega)
  have hg2 : gcdI n d ≤ d := gcdI_le_right n d (by omega)
  have hgz : (gcdI n d == 0) = false := by simp; omega
  have hgn : gcdI ((n.natAbs : Nat) : Int) d = gcdI n d := gcdI_natAbs n d
  have hna : ((n.natAbs : Nat) : Int) ≤ 2000000000000000000 := by omega
  obtain ⟨q1, q2⟩ := tdiv_le (n := n) (g := gcdI n d) ⟨by omega, by omega⟩
  have hdd : (d).tdiv (gcdI n d) = d / gcdI n d := Int.tdiv_eq_ediv_of_nonneg (by omega)
  obtain ⟨q3, q4⟩ := tdiv_le (n := d) (g := gcdI n d) ⟨by omega, by omega⟩
  rw [hdd] at q3 q4
  clear hdd
  obtain ⟨hn1, hn2⟩ := hn
  go_enter Try.func71, Try.ntmps71
  go_wp2_with (first | (go_at_call 51; refine (in_yes _ _ _ _ (by omega)).mono ?_; rintro e w' ⟨rfl, rfl⟩) | (go_at_call 51; refine (in_no _ _ _ _ (by omega)).mono ?_; rintro e w' ⟨rfl, rfl⟩) | (go_at_call 70; refine (absolute_any _ _ (by omega) (by omega)).mono ?_; rintro e w' ⟨rfl, rfl⟩) | (go_at_call 69; refine (divisor_any _ _ _ (by omega) (by omega) (by omega) (by omega)).mono ?_; rintro e w' ⟨rfl, nq, rfl⟩))
  go_region
  go_wp2_with fail
  refine (impl_isRatio _ _ _).mono ?_; rintro e w1 ⟨rfl, hb1⟩
  obtain ⟨hc1, hf1⟩ := bcell hb1
  have hz0 := hb1.size
  simp at hz0
  have hz1 : w.heap.size < w1.heap.size := by omega
  have hz2 : w.heap.size + 1 < w1.heap.size := by omega
  have k0 : w1.cell? ⟨w.heap.size, 0, none⟩ = some (.int .i64 0) := by rw [hc1 _ _ (by simp; omega)]; simp [go_sem]
  have k1 : w1.cell? ⟨w.heap.size, 1, none⟩ = some (.int .i64 0) := by rw [hc1 _ _ (by simp; omega)]; simp [go_sem]
  go_wp2_with fail
  refine bodyPost_ret (by simp [results, Try.results71, go_sem, k0, k1]; try rfl) rfl ?_
  exact ⟨rfl, by repeat' (first | exact Below.refl _ _ | assumption | refine Below.alloc ?_ ?_ _ | refine below_drewN ?_ _ | refine Below.drew ?_ | refine Below.setCell ?_ ?_ _ | refine below_then (by assumption) ?_ ?_ | omega | (simp; done) | (simp; omega))⟩
theorem impl_mk_neg_yes (n d : Int) (w : World) (hn : -2000000000000000000 ≤ n ∧ n ≤ 2000000000000000000) (hd : d < 0) (hd2 : -2000000000000000000 ≤ d) (hr : isR ((-n).tdiv (gcdI (-n) (-d))) ((-d) / gcdI (-n) (-d)) = true) :
    Calls Try.prog 71 #[.int .i64 n, .int .i64 d] w fun e w' => e = .returned (.agg #[.int .i64 (mk n d).1, .int .i64 (mk n d).2]) ∧ Below w.heap.size w w' := by
  obtain ⟨m, rfl⟩ : ∃ m, n = -m := ⟨-n, by omega⟩
  obtain ⟨c, rfl⟩ : ∃ c, d = -c := ⟨-d, by omega⟩
  rw [mk_neg hn hd hd2, low_yes (by omega) hr]
  simp only [Int.neg_neg] at hr ⊢
  have hd0 : (-c == 0) = false := by simp; omega
  have hg1 : 1 ≤ gcdI m c := gcdI_pos m c (by omega)
  have hg2 : gcdI m c ≤ c := gcdI_le_right m c (by omega)
  have hgz : (gcdI m c == 0) = false := by simp; omega
  have hgn : gcdI ((m.natAbs : Nat) : Int) c = gcdI m c := gcdI_natAbs m c
  have hna : ((m.natAbs : Nat) : Int) ≤ 2000000000000000000 := by omega
  obtain ⟨q1, q2⟩ := tdiv_le (n := m) (g := gcdI m c) ⟨by omega, by omega⟩
  have hdd : (c).tdiv (gcdI m c) = c / gcdI m c := Int.tdiv_eq_ediv_of_nonneg (by omega)
  obtain ⟨q3, q4⟩ := tdiv_le (n := c) (g := gcdI m c) ⟨by omega, by omega⟩
  rw [hdd] at q3 q4
  clear hdd
  obtain ⟨hn1, hn2⟩ := hn
  go_enter Try.func71, Try.ntmps71
  go_wp2_with (first | (go_at_call 51; refine (in_yes _ _ _ _ (by omega)).mono ?_; rintro e w' ⟨rfl, rfl⟩) | (go_at_call 51; refine (in_no _ _ _ _ (by omega)).mono ?_; rintro e w' ⟨rfl, rfl⟩) | (go_at_call 70; refine (absolute_any _ _ (by omega) (by omega)).mono ?_; rintro e w' ⟨rfl, rfl⟩) | (go_at_call 69; refine (divisor_any _ _ _ (by omega) (by omega) (by omega) (by omega)).mono ?_; rintro e w' ⟨rfl, nq, rfl⟩))
  go_region
  go_wp2_with fail
  refine (impl_isRatio _ _ _).mono ?_; rintro e w1 ⟨rfl, hb1⟩
  obtain ⟨hc1, hf1⟩ := bcell hb1
  have hz0 := hb1.size
  simp at hz0
  have hz1 : w.heap.size < w1.heap.size := by omega
  have hz2 : w.heap.size + 1 < w1.heap.size := by omega
  have k0 : w1.cell? ⟨w.heap.size, 0, none⟩ = some (.int .i64 0) := by rw [hc1 _ _ (by simp; omega)]; simp [go_sem]
  have k1 : w1.cell? ⟨w.heap.size, 1, none⟩ = some (.int .i64 0) := by rw [hc1 _ _ (by simp; omega)]; simp [go_sem]
  go_wp2_with fail
  refine bodyPost_ret (by simp [results, Try.results71, go_sem, k0, k1]; try rfl) rfl ?_
  exact ⟨rfl, by repeat' (first | exact Below.refl _ _ | assumption | refine Below.alloc ?_ ?_ _ | refine below_drewN ?_ _ | refine Below.drew ?_ | refine Below.setCell ?_ ?_ _ | refine below_then (by assumption) ?_ ?_ | omega | (simp; done) | (simp; omega))⟩
theorem impl_mk_neg_no (n d : Int) (w : World) (hn : -2000000000000000000 ≤ n ∧ n ≤ 2000000000000000000) (hd : d < 0) (hd2 : -2000000000000000000 ≤ d) (hr : isR ((-n).tdiv (gcdI (-n) (-d))) ((-d) / gcdI (-n) (-d)) = false) :
    Calls Try.prog 71 #[.int .i64 n, .int .i64 d] w fun e w' => e = .returned (.agg #[.int .i64 (mk n d).1, .int .i64 (mk n d).2]) ∧ Below w.heap.size w w' := by
  obtain ⟨m, rfl⟩ : ∃ m, n = -m := ⟨-n, by omega⟩
  obtain ⟨c, rfl⟩ : ∃ c, d = -c := ⟨-d, by omega⟩
  rw [mk_neg hn hd hd2, low_no (by omega) hr]
  simp only [Int.neg_neg] at hr ⊢
  have hd0 : (-c == 0) = false := by simp; omega
  have hg1 : 1 ≤ gcdI m c := gcdI_pos m c (by omega)
  have hg2 : gcdI m c ≤ c := gcdI_le_right m c (by omega)
  have hgz : (gcdI m c == 0) = false := by simp; omega
  have hgn : gcdI ((m.natAbs : Nat) : Int) c = gcdI m c := gcdI_natAbs m c
  have hna : ((m.natAbs : Nat) : Int) ≤ 2000000000000000000 := by omega
  obtain ⟨q1, q2⟩ := tdiv_le (n := m) (g := gcdI m c) ⟨by omega, by omega⟩
  have hdd : (c).tdiv (gcdI m c) = c / gcdI m c := Int.tdiv_eq_ediv_of_nonneg (by omega)
  obtain ⟨q3, q4⟩ := tdiv_le (n := c) (g := gcdI m c) ⟨by omega, by omega⟩
  rw [hdd] at q3 q4
  clear hdd
  obtain ⟨hn1, hn2⟩ := hn
  go_enter Try.func71, Try.ntmps71
  go_wp2_with (first | (go_at_call 51; refine (in_yes _ _ _ _ (by omega)).mono ?_; rintro e w' ⟨rfl, rfl⟩) | (go_at_call 51; refine (in_no _ _ _ _ (by omega)).mono ?_; rintro e w' ⟨rfl, rfl⟩) | (go_at_call 70; refine (absolute_any _ _ (by omega) (by omega)).mono ?_; rintro e w' ⟨rfl, rfl⟩) | (go_at_call 69; refine (divisor_any _ _ _ (by omega) (by omega) (by omega) (by omega)).mono ?_; rintro e w' ⟨rfl, nq, rfl⟩))
  go_region
  go_wp2_with fail
  refine (impl_isRatio _ _ _).mono ?_; rintro e w1 ⟨rfl, hb1⟩
  obtain ⟨hc1, hf1⟩ := bcell hb1
  have hz0 := hb1.size
  simp at hz0
  have hz1 : w.heap.size < w1.heap.size := by omega
  have hz2 : w.heap.size + 1 < w1.heap.size := by omega
  have k0 : w1.cell? ⟨w.heap.size, 0, none⟩ = some (.int .i64 0) := by rw [hc1 _ _ (by simp; omega)]; simp [go_sem]
  have k1 : w1.cell? ⟨w.heap.size, 1, none⟩ = some (.int .i64 0) := by rw [hc1 _ _ (by simp; omega)]; simp [go_sem]
  go_wp2_with fail
  refine bodyPost_ret (by simp [results, Try.results71, go_sem, k0, k1]; try rfl) rfl ?_
  exact ⟨rfl, by repeat' (first | exact Below.refl _ _ | assumption | refine Below.alloc ?_ ?_ _ | refine below_drewN ?_ _ | refine Below.drew ?_ | refine Below.setCell ?_ ?_ _ | refine below_then (by assumption) ?_ ?_ | omega | (simp; done) | (simp; omega))⟩
theorem impl_mk_any (n d : Int) (w : World)  :
    Calls Try.prog 71 #[.int .i64 n, .int .i64 d] w fun e w' => e = .returned (.agg #[.int .i64 (mk n d).1, .int .i64 (mk n d).2]) ∧ Below w.heap.size w w' := by
  by_cases h0 : d = 0
  · exact impl_mk_zero n d w h0
  · by_cases hn : -2000000000000000000 ≤ n ∧ n ≤ 2000000000000000000
    · by_cases hd : -2000000000000000000 ≤ d ∧ d ≤ 2000000000000000000
      · by_cases hs : d < 0
        · cases hr : isR ((-n).tdiv (gcdI (-n) (-d))) ((-d) / gcdI (-n) (-d))
          · exact impl_mk_neg_no n d w hn hs hd.1 hr
          · exact impl_mk_neg_yes n d w hn hs hd.1 hr
        · cases hr : isR (n.tdiv (gcdI n d)) (d / gcdI n d)
          · exact impl_mk_pos_no n d w hn (by omega) hd.2 hr
          · exact impl_mk_pos_yes n d w hn (by omega) hd.2 hr
      · exact impl_mk_badd n d w h0 hn hd
    · exact impl_mk_badn n d w h0 hn

theorem spec_mk_zero (n d : Int) (w : World) (h : d = 0) :
    Calls Try.prog 49 #[.int .i64 n, .int .i64 d] w fun e w' => e = .returned (.agg #[.int .i64 (mk n d).1, .int .i64 (mk n d).2]) ∧ Below w.heap.size w w' := by
  rw [mk_bad (.inl h)]
  subst h
  go_enter Try.func49, Try.ntmps49
  go_wp2_with fail
  go_returns
  exact ⟨rfl, by repeat' (first | exact Below.refl _ _ | assumption | refine Below.alloc ?_ ?_ _ | refine below_drewN ?_ _ | refine Below.drew ?_ | refine Below.setCell ?_ ?_ _ | refine below_then (by assumption) ?_ ?_ | omega | (simp; done) | (simp; omega))⟩
theorem spec_mk_badn (n d : Int) (w : World) (h0 : d ≠ 0) (h : ¬ (-2000000000000000000 ≤ n ∧ n ≤ 2000000000000000000)) :
    Calls Try.prog 49 #[.int .i64 n, .int .i64 d] w fun e w' => e = .returned (.agg #[.int .i64 (mk n d).1, .int .i64 (mk n d).2]) ∧ Below w.heap.size w w' := by
  rw [mk_bad (.inr (.inl h))]
  have hd0 : (d == 0) = false := by simp [h0]
  go_enter Try.func49, Try.ntmps49
  go_wp2_with (first | (go_at_call 56; refine (l1In_yes _ _ _ _ (by omega)).mono ?_; rintro e w' ⟨rfl, rfl⟩) | (go_at_call 56; refine (l1In_no _ _ _ _ (by omega)).mono ?_; rintro e w' ⟨rfl, rfl⟩) | (go_at_call 66; refine (l2Gcd_any _ _ _ (by omega) (by omega) (by omega) (by omega)).mono ?_; rintro e w' ⟨rfl, nq, rfl⟩))
  go_returns
  exact ⟨rfl, by repeat' (first | exact Below.refl _ _ | assumption | refine Below.alloc ?_ ?_ _ | refine below_drewN ?_ _ | refine Below.drew ?_ | refine Below.setCell ?_ ?_ _ | refine below_then (by assumption) ?_ ?_ | omega | (simp; done) | (simp; omega))⟩
theorem spec_mk_badd (n d : Int) (w : World) (h0 : d ≠ 0) (hn : -2000000000000000000 ≤ n ∧ n ≤ 2000000000000000000) (h : ¬ (-2000000000000000000 ≤ d ∧ d ≤ 2000000000000000000)) :
    Calls Try.prog 49 #[.int .i64 n, .int .i64 d] w fun e w' => e = .returned (.agg #[.int .i64 (mk n d).1, .int .i64 (mk n d).2]) ∧ Below w.heap.size w w' := by
  rw [mk_bad (.inr (.inr h))]
  have hd0 : (d == 0) = false := by simp [h0]
  go_enter Try.func49, Try.ntmps49
  go_wp2_with (first | (go_at_call 56; refine (l1In_yes _ _ _ _ (by omega)).mono ?_; rintro e w' ⟨rfl, rfl⟩) | (go_at_call 56; refine (l1In_no _ _ _ _ (by omega)).mono ?_; rintro e w' ⟨rfl, rfl⟩) | (go_at_call 66; refine (l2Gcd_any _ _ _ (by omega) (by omega) (by omega) (by omega)).mono ?_; rintro e w' ⟨rfl, nq, rfl⟩))
  go_returns
  exact ⟨rfl, by repeat' (first | exact Below.refl _ _ | assumption | refine Below.alloc ?_ ?_ _ | refine below_drewN ?_ _ | refine Below.drew ?_ | refine Below.setCell ?_ ?_ _ | refine below_then (by assumption) ?_ ?_ | omega | (simp; done) | (simp; omega))⟩
theorem spec_mk_pos_yes (n d : Int) (w : World) (hn : -2000000000000000000 ≤ n ∧ n ≤ 2000000000000000000) (hd : 0 < d) (hd2 : d ≤ 2000000000000000000) (hr : isR (n.tdiv (gcdI n d)) (d / gcdI n d) = true) :
    Calls Try.prog 49 #[.int .i64 n, .int .i64 d] w fun e w' => e = .returned (.agg #[.int .i64 (mk n d).1, .int .i64 (mk n d).2]) ∧ Below w.heap.size w w' := by
  rw [mk_pos hn hd hd2, low_yes (by omega) hr]
  have hd0 : (d == 0) = false := by simp; omega
  have hg1 : 1 ≤ gcdI n d := gcdI_pos n d (by omega)
  have hg2 : gcdI n d ≤ d := gcdI_le_right n d (by omega)
  have hgz : (gcdI n d == 0) = false := by simp; omega
  have hgn : gcdI ((n.natAbs : Nat) : Int) d = gcdI n d := gcdI_natAbs n d
  have hna : ((n.natAbs : Nat) : Int) ≤ 2000000000000000000 := by omega
  obtain ⟨q1, q2⟩ := tdiv_le (n := n) (g := gcdI n d) ⟨by omega, by omega⟩
  have hdd : (d).tdiv (gcdI n d) = d / gcdI n d := Int.tdiv_eq_ediv_of_nonneg (by omega)
  obtain ⟨q3, q4⟩ := tdiv_le (n := d) (g := gcdI n d) ⟨by omega, by omega⟩
  rw [hdd] at q3 q4
  clear hdd
  obtain ⟨hn1, hn2⟩ := hn
  go_enter Try.func49, Try.ntmps49
  go_wp2_with (first | (go_at_call 56; refine (l1In_yes _ _ _ _ (by omega)).mono ?_; rintro e w' ⟨rfl, rfl⟩) | (go_at_call 56; refine (l1In_no _ _ _ _ (by omega)).mono ?_; rintro e w' ⟨rfl, rfl⟩) | (go_at_call 66; refine (l2Gcd_any _ _ _ (by omega) (by omega) (by omega) (by omega)).mono ?_; rintro e w' ⟨rfl, nq, rfl⟩))
  go_region
  go_wp2_with fail
  refine (spec_isRatio _ _ _).mono ?_; rintro e w1 ⟨rfl, hb1⟩
  obtain ⟨hc1, hf1⟩ := bcell hb1
  have hz0 := hb1.size
  simp at hz0
  have hz1 : w.heap.size < w1.heap.size := by omega
  have hz2 : w.heap.size + 1 < w1.heap.size := by omega
  have k0 : w1.cell? ⟨w.heap.size, 0, none⟩ = some (.int .i64 0) := by rw [hc1 _ _ (by simp; omega)]; simp [go_sem]
  have k1 : w1.cell? ⟨w.heap.size, 1, none⟩ = some (.int .i64 0) := by rw [hc1 _ _ (by simp; omega)]; simp [go_sem]
  go_wp2_with fail
  refine bodyPost_ret (by simp [results, Try.results49, go_sem, k0, k1]; try rfl) rfl ?_
  exact ⟨rfl, by repeat' (first | exact Below.refl _ _ | assumption | refine Below.alloc ?_ ?_ _ | refine below_drewN ?_ _ | refine Below.drew ?_ | refine Below.setCell ?_ ?_ _ | refine below_then (by assumption) ?_ ?_ | omega | (simp; done) | (simp; omega))⟩
theorem spec_mk_pos_no (n d : Int) (w : World) (hn : -2000000000000000000 ≤ n ∧ n ≤ 2000000000000000000) (hd : 0 < d) (hd2 : d ≤ 2000000000000000000) (hr : isR (n.tdiv (gcdI n d)) (d / gcdI n d) = false) :
    Calls Try.prog 49 #[.int .i64 n, .int .i64 d] w fun e w' => e = .returned (.agg #[.int .i64 (mk n d).1, .int .i64 (mk n d).2]) ∧ Below w.heap.size w w' := by
  rw [mk_pos hn hd hd2, low_no (by omega) hr]
  have hd0 : (d == 0) = false := by simp; omega
  have hg1 : 1 ≤ gcdI n d := gcdI_pos n d (by omega)
  have hg2 : gcdI n d ≤ d := gcdI_le_right n d (by omega)
  have hgz : (gcdI n d == 0) = false := by simp; omega
  have hgn : gcdI ((n.natAbs : Nat) : Int) d = gcdI n d := gcdI_natAbs n d
  have hna : ((n.natAbs : Nat) : Int) ≤ 2000000000000000000 := by omega
  obtain ⟨q1, q2⟩ := tdiv_le (n := n) (g := gcdI n d) ⟨by omega, by omega⟩
  have hdd : (d).tdiv (gcdI n d) = d / gcdI n d := Int.tdiv_eq_ediv_of_nonneg (by omega)
  obtain ⟨q3, q4⟩ := tdiv_le (n := d) (g := gcdI n d) ⟨by omega, by omega⟩
  rw [hdd] at q3 q4
  clear hdd
  obtain ⟨hn1, hn2⟩ := hn
  go_enter Try.func49, Try.ntmps49
  go_wp2_with (first | (go_at_call 56; refine (l1In_yes _ _ _ _ (by omega)).mono ?_; rintro e w' ⟨rfl, rfl⟩) | (go_at_call 56; refine (l1In_no _ _ _ _ (by omega)).mono ?_; rintro e w' ⟨rfl, rfl⟩) | (go_at_call 66; refine (l2Gcd_any _ _ _ (by omega) (by omega) (by omega) (by omega)).mono ?_; rintro e w' ⟨rfl, nq, rfl⟩))
  go_region
  go_wp2_with fail
  refine (spec_isRatio _ _ _).mono ?_; rintro e w1 ⟨rfl, hb1⟩
  obtain ⟨hc1, hf1⟩ := bcell hb1
  have hz0 := hb1.size
  simp at hz0
  have hz1 : w.heap.size < w1.heap.size := by omega
  have hz2 : w.heap.size + 1 < w1.heap.size := by omega
  have k0 : w1.cell? ⟨w.heap.size, 0, none⟩ = some (.int .i64 0) := by rw [hc1 _ _ (by simp; omega)]; simp [go_sem]
  have k1 : w1.cell? ⟨w.heap.size, 1, none⟩ = some (.int .i64 0) := by rw [hc1 _ _ (by simp; omega)]; simp [go_sem]
  go_wp2_with fail
  refine bodyPost_ret (by simp [results, Try.results49, go_sem, k0, k1]; try rfl) rfl ?_
  exact ⟨rfl, by repeat' (first | exact Below.refl _ _ | assumption | refine Below.alloc ?_ ?_ _ | refine below_drewN ?_ _ | refine Below.drew ?_ | refine Below.setCell ?_ ?_ _ | refine below_then (by assumption) ?_ ?_ | omega | (simp; done) | (simp; omega))⟩
theorem spec_mk_neg_yes (n d : Int) (w : World) (hn : -2000000000000000000 ≤ n ∧ n ≤ 2000000000000000000) (hd : d < 0) (hd2 : -2000000000000000000 ≤ d) (hr : isR ((-n).tdiv (gcdI (-n) (-d))) ((-d) / gcdI (-n) (-d)) = true) :
    Calls Try.prog 49 #[.int .i64 n, .int .i64 d] w fun e w' => e = .returned (.agg #[.int .i64 (mk n d).1, .int .i64 (mk n d).2]) ∧ Below w.heap.size w w' := by
  obtain ⟨m, rfl⟩ : ∃ m, n = -m := ⟨-n, by omega⟩
  obtain ⟨c, rfl⟩ : ∃ c, d = -c := ⟨-d, by omega⟩
  rw [mk_neg hn hd hd2, low_yes (by omega) hr]
  simp only [Int.neg_neg] at hr ⊢
  have hd0 : (-c == 0) = false := by simp; omega
  have hg1 : 1 ≤ gcdI m c := gcdI_pos m c (by omega)
  have hg2 : gcdI m c ≤ c := gcdI_le_right m c (by omega)
  have hgz : (gcdI m c == 0) = false := by simp; omega
  have hgn : gcdI ((m.natAbs : Nat) : Int) c = gcdI m c := gcdI_natAbs m c
  have hna : ((m.natAbs : Nat) : Int) ≤ 2000000000000000000 := by omega
  obtain ⟨q1, q2⟩ := tdiv_le (n := m) (g := gcdI m c) ⟨by omega, by omega⟩
  have hdd : (c).tdiv (gcdI m c) = c / gcdI m c := Int.tdiv_eq_ediv_of_nonneg (by omega)
  obtain ⟨q3, q4⟩ := tdiv_le (n := c) (g := gcdI m c) ⟨by omega, by omega⟩
  rw [hdd] at q3 q4
  clear hdd
  obtain ⟨hn1, hn2⟩ := hn
  go_enter Try.func49, Try.ntmps49
  go_wp2_with (first | (go_at_call 56; refine (l1In_yes _ _ _ _ (by omega)).mono ?_; rintro e w' ⟨rfl, rfl⟩) | (go_at_call 56; refine (l1In_no _ _ _ _ (by omega)).mono ?_; rintro e w' ⟨rfl, rfl⟩) | (go_at_call 66; refine (l2Gcd_any _ _ _ (by omega) (by omega) (by omega) (by omega)).mono ?_; rintro e w' ⟨rfl, nq, rfl⟩))
  go_region
  go_wp2_with fail
  refine (spec_isRatio _ _ _).mono ?_; rintro e w1 ⟨rfl, hb1⟩
  obtain ⟨hc1, hf1⟩ := bcell hb1
  have hz0 := hb1.size
  simp at hz0
  have hz1 : w.heap.size < w1.heap.size := by omega
  have hz2 : w.heap.size + 1 < w1.heap.size := by omega
  have k0 : w1.cell? ⟨w.heap.size, 0, none⟩ = some (.int .i64 0) := by rw [hc1 _ _ (by simp; omega)]; simp [go_sem]
  have k1 : w1.cell? ⟨w.heap.size, 1, none⟩ = some (.int .i64 0) := by rw [hc1 _ _ (by simp; omega)]; simp [go_sem]
  go_wp2_with fail
  refine bodyPost_ret (by simp [results, Try.results49, go_sem, k0, k1]; try rfl) rfl ?_
  exact ⟨rfl, by repeat' (first | exact Below.refl _ _ | assumption | refine Below.alloc ?_ ?_ _ | refine below_drewN ?_ _ | refine Below.drew ?_ | refine Below.setCell ?_ ?_ _ | refine below_then (by assumption) ?_ ?_ | omega | (simp; done) | (simp; omega))⟩
theorem spec_mk_neg_no (n d : Int) (w : World) (hn : -2000000000000000000 ≤ n ∧ n ≤ 2000000000000000000) (hd : d < 0) (hd2 : -2000000000000000000 ≤ d) (hr : isR ((-n).tdiv (gcdI (-n) (-d))) ((-d) / gcdI (-n) (-d)) = false) :
    Calls Try.prog 49 #[.int .i64 n, .int .i64 d] w fun e w' => e = .returned (.agg #[.int .i64 (mk n d).1, .int .i64 (mk n d).2]) ∧ Below w.heap.size w w' := by
  obtain ⟨m, rfl⟩ : ∃ m, n = -m := ⟨-n, by omega⟩
  obtain ⟨c, rfl⟩ : ∃ c, d = -c := ⟨-d, by omega⟩
  rw [mk_neg hn hd hd2, low_no (by omega) hr]
  simp only [Int.neg_neg] at hr ⊢
  have hd0 : (-c == 0) = false := by simp; omega
  have hg1 : 1 ≤ gcdI m c := gcdI_pos m c (by omega)
  have hg2 : gcdI m c ≤ c := gcdI_le_right m c (by omega)
  have hgz : (gcdI m c == 0) = false := by simp; omega
  have hgn : gcdI ((m.natAbs : Nat) : Int) c = gcdI m c := gcdI_natAbs m c
  have hna : ((m.natAbs : Nat) : Int) ≤ 2000000000000000000 := by omega
  obtain ⟨q1, q2⟩ := tdiv_le (n := m) (g := gcdI m c) ⟨by omega, by omega⟩
  have hdd : (c).tdiv (gcdI m c) = c / gcdI m c := Int.tdiv_eq_ediv_of_nonneg (by omega)
  obtain ⟨q3, q4⟩ := tdiv_le (n := c) (g := gcdI m c) ⟨by omega, by omega⟩
  rw [hdd] at q3 q4
  clear hdd
  obtain ⟨hn1, hn2⟩ := hn
  go_enter Try.func49, Try.ntmps49
  go_wp2_with (first | (go_at_call 56; refine (l1In_yes _ _ _ _ (by omega)).mono ?_; rintro e w' ⟨rfl, rfl⟩) | (go_at_call 56; refine (l1In_no _ _ _ _ (by omega)).mono ?_; rintro e w' ⟨rfl, rfl⟩) | (go_at_call 66; refine (l2Gcd_any _ _ _ (by omega) (by omega) (by omega) (by omega)).mono ?_; rintro e w' ⟨rfl, nq, rfl⟩))
  go_region
  go_wp2_with fail
  refine (spec_isRatio _ _ _).mono ?_; rintro e w1 ⟨rfl, hb1⟩
  obtain ⟨hc1, hf1⟩ := bcell hb1
  have hz0 := hb1.size
  simp at hz0
  have hz1 : w.heap.size < w1.heap.size := by omega
  have hz2 : w.heap.size + 1 < w1.heap.size := by omega
  have k0 : w1.cell? ⟨w.heap.size, 0, none⟩ = some (.int .i64 0) := by rw [hc1 _ _ (by simp; omega)]; simp [go_sem]
  have k1 : w1.cell? ⟨w.heap.size, 1, none⟩ = some (.int .i64 0) := by rw [hc1 _ _ (by simp; omega)]; simp [go_sem]
  go_wp2_with fail
  refine bodyPost_ret (by simp [results, Try.results49, go_sem, k0, k1]; try rfl) rfl ?_
  exact ⟨rfl, by repeat' (first | exact Below.refl _ _ | assumption | refine Below.alloc ?_ ?_ _ | refine below_drewN ?_ _ | refine Below.drew ?_ | refine Below.setCell ?_ ?_ _ | refine below_then (by assumption) ?_ ?_ | omega | (simp; done) | (simp; omega))⟩
theorem spec_mk_any (n d : Int) (w : World)  :
    Calls Try.prog 49 #[.int .i64 n, .int .i64 d] w fun e w' => e = .returned (.agg #[.int .i64 (mk n d).1, .int .i64 (mk n d).2]) ∧ Below w.heap.size w w' := by
  by_cases h0 : d = 0
  · exact spec_mk_zero n d w h0
  · by_cases hn : -2000000000000000000 ≤ n ∧ n ≤ 2000000000000000000
    · by_cases hd : -2000000000000000000 ≤ d ∧ d ≤ 2000000000000000000
      · by_cases hs : d < 0
        · cases hr : isR ((-n).tdiv (gcdI (-n) (-d))) ((-d) / gcdI (-n) (-d))
          · exact spec_mk_neg_no n d w hn hs hd.1 hr
          · exact spec_mk_neg_yes n d w hn hs hd.1 hr
        · cases hr : isR (n.tdiv (gcdI n d)) (d / gcdI n d)
          · exact spec_mk_pos_no n d w hn (by omega) hd.2 hr
          · exact spec_mk_pos_yes n d w hn (by omega) hd.2 hr
      · exact spec_mk_badd n d w h0 hn hd
    · exact spec_mk_badn n d w h0 hn

end Go.Proofs.Ytccejhhhengpcaa
