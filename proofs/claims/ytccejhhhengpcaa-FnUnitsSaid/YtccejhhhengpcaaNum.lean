/-
  Plain mathematics of the ratios (no program in sight): greatest common divisors, ratios in lowest terms, sums, products, quotients, rounding; that the results are as the laws say.
  No conditions beyond those written at each lemma.
-/
import Derived.KernelRfl
namespace Go.Proofs.Ytccejhhhengpcaa.num

/-- the greatest common divisor, as an integer -/
def gcdI (a b : Int) : Int := (Nat.gcd a.natAbs b.natAbs : Nat)

theorem gcdI_zero (a : Int) : gcdI a 0 = (a.natAbs : Int) := by simp [gcdI]
theorem gcdI_nonneg (a b : Int) : 0 ≤ gcdI a b := by unfold gcdI; omega
theorem gcdI_tmod (a b : Int) : gcdI b (a.tmod b) = gcdI a b := by
  unfold gcdI
  rw [Int.natAbs_tmod, Nat.gcd_comm, ← Nat.gcd_rec, Nat.gcd_comm]
theorem gcdI_emod (a b : Int) (ha : 0 ≤ a) : gcdI b (a % b) = gcdI a b := by
  rw [← Int.tmod_eq_emod_of_nonneg ha, gcdI_tmod]
theorem gcdI_neg_left (a b : Int) : gcdI (-a) b = gcdI a b := by simp [gcdI]
theorem gcdI_natAbs (a b : Int) : gcdI (a.natAbs : Int) b = gcdI a b := by simp [gcdI]
theorem gcdI_pos (a b : Int) (hb : b ≠ 0) : 1 ≤ gcdI a b := by
  unfold gcdI
  have : 0 < Nat.gcd a.natAbs b.natAbs := Nat.gcd_pos_of_pos_right _ (by omega)
  omega
theorem gcdI_dvd_left (a b : Int) : gcdI a b ∣ a := by
  unfold gcdI
  exact Int.ofNat_dvd_left.2 (Nat.gcd_dvd_left _ _)
theorem gcdI_dvd_right (a b : Int) : gcdI a b ∣ b := by
  unfold gcdI
  exact Int.ofNat_dvd_left.2 (Nat.gcd_dvd_right _ _)
theorem gcdI_le_right (a b : Int) (hb : 1 ≤ b) : gcdI a b ≤ b := Int.le_of_dvd (by omega) (gcdI_dvd_right a b)

/-- whether n / d is a ratio in lowest terms -/
def isR (n d : Int) : Bool := decide (1 ≤ d ∧ d ≤ 1000000000 ∧ -1000000000 ≤ n ∧ n ≤ 1000000000 ∧ gcdI n d = 1)
theorem isR_iff {n d : Int} : isR n d = true ↔ (1 ≤ d ∧ d ≤ 1000000000 ∧ -1000000000 ≤ n ∧ n ≤ 1000000000 ∧ gcdI n d = 1) := by simp [isR]

/-- a quotient in lowest terms, the divisor positive -/
def low (n d : Int) : Int × Int := if isR (n.tdiv (gcdI n d)) (d.tdiv (gcdI n d)) = true then (n.tdiv (gcdI n d), d.tdiv (gcdI n d)) else (0, 0)
/-- whether a number may be a part of a quotient -/
def fits (n : Int) : Bool := decide (-2000000000000000000 ≤ n ∧ n ≤ 2000000000000000000)
/-- MakeRatio -/
def mk (n d : Int) : Int × Int :=
  if d = 0 ∨ fits n = false ∨ fits d = false then (0, 0) else if d < 0 then low (-n) (-d) else low n d

theorem isR_zero : isR 0 0 = false := by decide
theorem low_isR (n d : Int) : isR (low n d).1 (low n d).2 = true ∨ low n d = (0, 0) := by
  unfold low; split
  · left; assumption
  · right; rfl
theorem mk_isR (n d : Int) : isR (mk n d).1 (mk n d).2 = true ∨ mk n d = (0, 0) := by
  unfold mk; split
  · right; rfl
  · split
    · exact low_isR _ _
    · exact low_isR _ _
theorem mk_bounds (n d : Int) : -1000000000 ≤ (mk n d).1 ∧ (mk n d).1 ≤ 1000000000 ∧ 0 ≤ (mk n d).2 ∧ (mk n d).2 ≤ 1000000000 := by
  rcases mk_isR n d with h | h
  · have := isR_iff.1 h; omega
  · rw [h]; decide

/-- parts of lowest terms: the divisor is cancelled -/
theorem parts (n d : Int) (hd : d ≠ 0) : ∃ x y : Int, n = gcdI n d * x ∧ d = gcdI n d * y ∧ n.tdiv (gcdI n d) = x ∧ d.tdiv (gcdI n d) = y ∧ Nat.gcd x.natAbs y.natAbs = 1 := by
  obtain ⟨x, hx⟩ := gcdI_dvd_left n d
  obtain ⟨y, hy⟩ := gcdI_dvd_right n d
  have hg := gcdI_pos n d hd
  have hg0 : gcdI n d ≠ 0 := by omega
  refine ⟨x, y, hx, hy, ?_, ?_, ?_⟩
  · have h1 : n.tdiv (gcdI n d) = (gcdI n d * x).tdiv (gcdI n d) := by rw [← hx]
    rw [h1, Int.mul_tdiv_cancel_left _ hg0]
  · have h1 : d.tdiv (gcdI n d) = (gcdI n d * y).tdiv (gcdI n d) := by rw [← hy]
    rw [h1, Int.mul_tdiv_cancel_left _ hg0]
  · have hn : n.natAbs = (gcdI n d).natAbs * x.natAbs := by rw [← Int.natAbs_mul, ← hx]
    have hd' : d.natAbs = (gcdI n d).natAbs * y.natAbs := by rw [← Int.natAbs_mul, ← hy]
    have e : (gcdI n d).natAbs = Nat.gcd n.natAbs d.natAbs := Int.natAbs_natCast _
    have h2 : Nat.gcd n.natAbs d.natAbs = Nat.gcd n.natAbs d.natAbs * Nat.gcd x.natAbs y.natAbs := by
      rw [← Nat.gcd_mul_left, ← e, ← hn, ← hd', e]
    have hp : 0 < Nat.gcd n.natAbs d.natAbs := Nat.gcd_pos_of_pos_right _ (by omega)
    have h3 : Nat.gcd n.natAbs d.natAbs * 1 = Nat.gcd n.natAbs d.natAbs * Nat.gcd x.natAbs y.natAbs := by rw [Nat.mul_one]; exact h2
    exact (Nat.eq_of_mul_eq_mul_left hp h3).symm

/-- two quotients in lowest terms that are equal have equal parts -/
theorem lowest_unique (a b c d : Int) (hb : 1 ≤ b) (hd : 1 ≤ d) (h1 : Nat.gcd a.natAbs b.natAbs = 1) (h2 : Nat.gcd c.natAbs d.natAbs = 1) (h : a * d = c * b) : a = c ∧ b = d := by
  have hN : a.natAbs * d.natAbs = c.natAbs * b.natAbs := by rw [← Int.natAbs_mul, ← Int.natAbs_mul, h]
  have db : d.natAbs ∣ b.natAbs := by
    have : d.natAbs ∣ c.natAbs * b.natAbs := by rw [← hN]; exact Nat.dvd_mul_left _ _
    exact Nat.Coprime.dvd_of_dvd_mul_left (by unfold Nat.Coprime; rw [Nat.gcd_comm]; exact h2) this
  have bd : b.natAbs ∣ d.natAbs := by
    have : b.natAbs ∣ a.natAbs * d.natAbs := by rw [hN]; exact Nat.dvd_mul_left _ _
    exact Nat.Coprime.dvd_of_dvd_mul_left (by unfold Nat.Coprime; rw [Nat.gcd_comm]; exact h1) this
  have e : b.natAbs = d.natAbs := Nat.dvd_antisymm bd db
  have hbd : b = d := by omega
  refine ⟨?_, hbd⟩
  subst hbd
  exact Int.eq_of_mul_eq_mul_right (by omega) h

/-- MakeRatio finds the ratio that the quotient is, if there is one -/
theorem mk_unique (x y n d : Int) (hr : isR n d = true) (hy : y ≠ 0) (hx1 : fits x = true) (hy1 : fits y = true) (h : x * d = y * n) : mk x y = (n, d) := by
  obtain ⟨h1, h2, h3, h4, hg⟩ := isR_iff.1 hr
  have hgn : Nat.gcd n.natAbs d.natAbs = 1 := by unfold gcdI at hg; omega
  have key : ∀ u v : Int, 0 < v → u * d = v * n → low u v = (n, d) := by
    intro u v hv he
    obtain ⟨p, q, hp, hq, hdp, hdq, hc⟩ := parts u v (by omega)
    have hgp := gcdI_pos u v (by omega)
    have hq1 : 1 ≤ q := by
      have h0 : 0 < gcdI u v * q := by rw [← hq]; exact hv
      by_cases h9 : 0 < q
      · omega
      · have := Int.mul_le_mul_of_nonneg_left (show q ≤ 0 by omega) (show 0 ≤ gcdI u v by omega)
        omega
    have hpq : p * d = n * q := by
      have h5 : gcdI u v * (p * d) = gcdI u v * (n * q) := by
        rw [← Int.mul_assoc, ← hp, he, Int.mul_left_comm, ← hq, Int.mul_comm]
      exact Int.eq_of_mul_eq_mul_left (by omega) h5
    obtain ⟨e1, e2⟩ := lowest_unique p q n d hq1 h1 hc hgn hpq
    unfold low
    rw [hdp, hdq, e1, e2, if_pos hr]
  unfold mk
  rw [if_neg (by simp [hy, hx1, hy1])]
  by_cases hneg : y < 0
  · rw [if_pos hneg]
    exact key _ _ (by omega) (by rw [Int.neg_mul, Int.neg_mul, h])
  · rw [if_neg hneg]
    exact key _ _ (by omega) h

/-- what MakeRatio gives is the quotient -/
theorem low_value (n d : Int) (hd : 0 < d) (h : isR (low n d).1 (low n d).2 = true) : (low n d).1 * d = (low n d).2 * n := by
  obtain ⟨x, y, hx, hy, e1, e2, _⟩ := parts n d (by omega)
  unfold low at h ⊢
  rw [e1, e2] at h ⊢
  by_cases hr : isR x y = true
  · rw [if_pos hr]
    show x * d = y * n
    have h1 : x * d = x * (gcdI n d * y) := congrArg (x * ·) hy
    have h2 : y * n = y * (gcdI n d * x) := congrArg (y * ·) hx
    rw [h1, h2, Int.mul_left_comm, Int.mul_left_comm y, Int.mul_comm x y]
  · rw [if_neg hr] at h
    rw [isR_zero] at h
    cases h

theorem low_den (n d : Int) (h : isR (low n d).1 (low n d).2 = true) : (low n d).2 ≠ 0 := by
  have := isR_iff.1 h; omega
theorem mk_value (n d : Int) (h : isR (mk n d).1 (mk n d).2 = true) : d ≠ 0 ∧ (mk n d).1 * d = (mk n d).2 * n := by
  unfold mk at h ⊢
  by_cases h1 : d = 0 ∨ fits n = false ∨ fits d = false
  · rw [if_pos h1, isR_zero] at h; cases h
  · rw [if_neg h1] at h ⊢
    have hd : d ≠ 0 := fun e => h1 (.inl e)
    refine ⟨hd, ?_⟩
    by_cases h2 : d < 0
    · rw [if_pos h2] at h ⊢
      have := low_value (-n) (-d) (by omega) h
      rw [Int.mul_neg, Int.mul_neg] at this
      omega
    · rw [if_neg h2] at h ⊢
      exact low_value n d (by omega) h

/-! ### The functions on ratios -/
def addR (a b c d : Int) : Int × Int := if isR a b = true ∧ isR c d = true then mk (a * d + c * b) (b * d) else (0, 0)
def mulR (a b c d : Int) : Int × Int := if isR a b = true ∧ isR c d = true then mk (a * c) (b * d) else (0, 0)
def divR (a b c d : Int) : Int × Int := if isR a b = true ∧ isR c d = true then mk (a * d) (b * c) else (0, 0)
def cmpI (x y : Int) : Int := if x < y then -1 else if y < x then 1 else 0
def cmpR (a b c d : Int) : Int := if isR a b = true ∧ isR c d = true then cmpI (a * d) (c * b) else 2
def floR (a b : Int) : Int := if isR a b = true then a / b else 0
def ceiR (a b : Int) : Int := if isR a b = true then -((-a) / b) else 0

theorem abs_mul_le (a b A B : Int) (ha : -A ≤ a ∧ a ≤ A) (hb : -B ≤ b ∧ b ≤ B) : -(A * B) ≤ a * b ∧ a * b ≤ A * B := by
  have h : (a * b).natAbs ≤ A.natAbs * B.natAbs := by
    rw [Int.natAbs_mul]; exact Nat.mul_le_mul (by omega) (by omega)
  have e : ((A.natAbs * B.natAbs : Nat) : Int) = A * B := by
    rw [Int.natCast_mul]
    have e1 : (A.natAbs : Int) = A := by omega
    have e2 : (B.natAbs : Int) = B := by omega
    rw [e1, e2]
  have h' : ((a * b).natAbs : Int) ≤ A * B := by rw [← e]; exact Int.ofNat_le.2 h
  omega
theorem prod_le {a b : Int} (ha : -1000000000 ≤ a ∧ a ≤ 1000000000) (hb : -1000000000 ≤ b ∧ b ≤ 1000000000) : -1000000000000000000 ≤ a * b ∧ a * b ≤ 1000000000000000000 := by
  have := abs_mul_le a b 1000000000 1000000000 ha hb
  omega

theorem addR_comm (a b c d : Int) : addR a b c d = addR c d a b := by
  unfold addR
  by_cases h : isR a b = true ∧ isR c d = true
  · rw [if_pos h, if_pos ⟨h.2, h.1⟩, Int.add_comm, Int.mul_comm b d]
  · rw [if_neg h, if_neg (fun k => h ⟨k.2, k.1⟩)]
theorem mulR_comm (a b c d : Int) : mulR a b c d = mulR c d a b := by
  unfold mulR
  by_cases h : isR a b = true ∧ isR c d = true
  · rw [if_pos h, if_pos ⟨h.2, h.1⟩, Int.mul_comm a c, Int.mul_comm b d]
  · rw [if_neg h, if_neg (fun k => h ⟨k.2, k.1⟩)]
theorem fits_of {x : Int} (h : -2000000000000000000 ≤ x ∧ x ≤ 2000000000000000000) : fits x = true := by simp [fits, h]
theorem isR_neg {a b : Int} (h : isR a b = true) : isR (-a) b = true := by
  rw [isR_iff] at h ⊢
  rw [gcdI_neg_left]
  omega

/-- a quotient gives the dividend back -/
theorem div_mul {a b c d : Int} (h : isR (divR a b c d).1 (divR a b c d).2 = true) : mulR (divR a b c d).1 (divR a b c d).2 c d = (a, b) := by
  by_cases hv : isR a b = true ∧ isR c d = true
  · have e : divR a b c d = mk (a * d) (b * c) := by unfold divR; rw [if_pos hv]
    rw [e] at h ⊢
    obtain ⟨hy, hval⟩ := mk_value _ _ h
    obtain ⟨h1, h2, h3, h4, _⟩ := isR_iff.1 hv.1
    obtain ⟨g1, g2, g3, g4, _⟩ := isR_iff.1 hv.2
    obtain ⟨k1, k2, k3, k4, _⟩ := isR_iff.1 h
    unfold mulR
    rw [if_pos ⟨h, hv.2⟩]
    have hc : c ≠ 0 := by rintro rfl; simp at hy
    have p1 := prod_le ⟨k3, k4⟩ ⟨g3, g4⟩
    have p2 := prod_le (a := (mk (a * d) (b * c)).2) (b := d) ⟨by omega, by omega⟩ ⟨by omega, by omega⟩
    refine mk_unique _ _ _ _ hv.1 ?_ (fits_of (by omega)) (fits_of (by omega)) ?_
    · exact Int.mul_ne_zero (by omega) (by omega)
    · rw [Int.mul_assoc, Int.mul_comm c b, hval, Int.mul_assoc, Int.mul_comm d a]
  · have e : divR a b c d = (0, 0) := by unfold divR; rw [if_neg hv]
    rw [e, isR_zero] at h; cases h

/-- a sum less its second part is the first -/
theorem add_sub {a b c d : Int} (h : isR (addR a b c d).1 (addR a b c d).2 = true) : addR (addR a b c d).1 (addR a b c d).2 (-c) d = (a, b) := by
  by_cases hv : isR a b = true ∧ isR c d = true
  · have e : addR a b c d = mk (a * d + c * b) (b * d) := by unfold addR; rw [if_pos hv]
    rw [e] at h ⊢
    obtain ⟨hy, hval⟩ := mk_value _ _ h
    obtain ⟨h1, h2, h3, h4, _⟩ := isR_iff.1 hv.1
    obtain ⟨g1, g2, g3, g4, _⟩ := isR_iff.1 hv.2
    obtain ⟨k1, k2, k3, k4, _⟩ := isR_iff.1 h
    generalize hs : (mk (a * d + c * b) (b * d)).1 = s at *
    generalize ht : (mk (a * d + c * b) (b * d)).2 = t at *
    unfold addR
    rw [if_pos ⟨h, isR_neg hv.2⟩]
    have p1 := prod_le (a := s) (b := d) ⟨by omega, by omega⟩ ⟨by omega, by omega⟩
    have p2 := prod_le (a := -c) (b := t) ⟨by omega, by omega⟩ ⟨by omega, by omega⟩
    have p3 := prod_le (a := t) (b := d) ⟨by omega, by omega⟩ ⟨by omega, by omega⟩
    refine mk_unique _ _ _ _ hv.1 ?_ (fits_of (by omega)) (fits_of (by omega)) ?_
    · exact Int.mul_ne_zero (by omega) (by omega)
    · -- (s * d + -c * t) * b = (t * d) * a, given s * (b * d) = t * (a * d + c * b)
      have e1 : (s * d + -c * t) * b = s * (b * d) - t * (c * b) := by
        rw [Int.add_mul, Int.mul_assoc s d b, Int.mul_comm d b, Int.neg_mul, Int.neg_mul, Int.mul_comm c t, Int.mul_assoc t c b]; omega
      have e2 : t * (a * d + c * b) = (t * d) * a + t * (c * b) := by
        rw [Int.mul_add, Int.mul_comm a d, ← Int.mul_assoc]
      rw [e1, hval, e2]
      omega
  · have e : addR a b c d = (0, 0) := by unfold addR; rw [if_neg hv]
    rw [e, isR_zero] at h; cases h

/-- comparing -/
theorem cmp_neg (a b c d : Int) : (cmpR a b c d = 2 ∧ cmpR c d a b = 2) ∨ (cmpR a b c d = -cmpR c d a b ∧ (cmpR a b c d = 0 ↔ (a = c ∧ b = d))) := by
  unfold cmpR
  by_cases hv : isR a b = true ∧ isR c d = true
  · right
    rw [if_pos hv, if_pos ⟨hv.2, hv.1⟩]
    obtain ⟨h1, h2, h3, h4, h5⟩ := isR_iff.1 hv.1
    obtain ⟨g1, g2, g3, g4, g5⟩ := isR_iff.1 hv.2
    constructor
    · unfold cmpI
      by_cases e1 : a * d < c * b
      · rw [if_pos e1, if_neg (by omega), if_pos e1]
      · rw [if_neg e1]
        by_cases e2 : c * b < a * d
        · rw [if_pos e2, if_pos e2]; rfl
        · rw [if_neg e2, if_neg e2, if_neg e1]; rfl
    · constructor
      · intro h
        have e : a * d = c * b := by
          unfold cmpI at h
          by_cases e1 : a * d < c * b
          · rw [if_pos e1] at h; cases h
          · rw [if_neg e1] at h
            by_cases e2 : c * b < a * d
            · rw [if_pos e2] at h; cases h
            · omega
        exact lowest_unique a b c d h1 g1 (by unfold gcdI at h5; omega) (by unfold gcdI at g5; omega) e
      · rintro ⟨rfl, rfl⟩
        unfold cmpI
        rw [if_neg (by omega), if_neg (by omega)]
  · left
    rw [if_neg hv, if_neg (fun k => hv ⟨k.2, k.1⟩)]
    exact ⟨rfl, rfl⟩

/-- rounding down as Go does it: the quotient rounded towards zero, less one if the remainder is negative -/
theorem flo_go (n d : Int) (hd : 1 ≤ d) : (if n.tmod d < 0 then n.tdiv d - 1 else n.tdiv d) = n / d := by
  have e1 := Int.mul_tdiv_add_tmod n d
  have e2 := Int.mul_ediv_add_emod n d
  have h1 : 0 ≤ n % d := Int.emod_nonneg n (by omega)
  have h2 : n % d < d := Int.emod_lt_of_pos n (by omega)
  have h3 : n.tmod d < d := Int.tmod_lt_of_pos n (by omega)
  have h4 : -d < n.tmod d := by
    have := Int.lt_tmod_of_pos n (show 0 < d by omega); omega
  split
  · rename_i hneg
    have : d * (n.tdiv d - 1 - n / d) = n % d - n.tmod d - d := by
      rw [Int.mul_sub, Int.mul_sub]; omega
    rcases Int.lt_trichotomy (n.tdiv d - 1 - n / d) 0 with h | h | h
    · have := Int.mul_le_mul_of_nonneg_left (show n.tdiv d - 1 - n / d ≤ -1 by omega) (show 0 ≤ d by omega)
      omega
    · omega
    · have := Int.mul_le_mul_of_nonneg_left (show 1 ≤ n.tdiv d - 1 - n / d by omega) (show 0 ≤ d by omega)
      omega
  · rename_i hneg
    have : d * (n.tdiv d - n / d) = n % d - n.tmod d := by
      rw [Int.mul_sub]; omega
    rcases Int.lt_trichotomy (n.tdiv d - n / d) 0 with h | h | h
    · have := Int.mul_le_mul_of_nonneg_left (show n.tdiv d - n / d ≤ -1 by omega) (show 0 ≤ d by omega)
      omega
    · omega
    · have := Int.mul_le_mul_of_nonneg_left (show 1 ≤ n.tdiv d - n / d by omega) (show 0 ≤ d by omega)
      omega
theorem flo_bounds (n d : Int) (hd : 1 ≤ d) (hn : -1000000000 ≤ n ∧ n ≤ 1000000000) : -1000000000 ≤ n / d ∧ n / d ≤ 1000000000 := by
  have e2 := Int.mul_ediv_add_emod n d
  have h1 : 0 ≤ n % d := Int.emod_nonneg n (by omega)
  have h2 : n % d < d := Int.emod_lt_of_pos n (by omega)
  constructor
  · by_cases h : n / d < -1000000000
    · have := Int.mul_le_mul_of_nonneg_left (show n / d ≤ -1000000001 by omega) (show 0 ≤ d by omega)
      omega
    · omega
  · by_cases h : 1000000000 < n / d
    · have := Int.mul_le_mul_of_nonneg_left (show 1000000001 ≤ n / d by omega) (show 0 ≤ d by omega)
      omega
    · omega

theorem gcdI_one (n : Int) : gcdI n 1 = 1 := by simp [gcdI]
theorem low_one (n : Int) (hn : -1000000000 ≤ n ∧ n ≤ 1000000000) : low n 1 = (n, 1) := by
  unfold low
  rw [gcdI_one]
  have : isR n 1 = true := by rw [isR_iff, gcdI_one]; omega
  simp [this]
theorem whole (n : Int) (hn : -1000000000 ≤ n ∧ n ≤ 1000000000) : mk n 1 = (n, 1) := by
  unfold mk
  rw [if_neg (by simp [fits]; omega), if_neg (by omega), low_one n hn]

/-- rounding down and up encloses a ratio -/
theorem rounding {a b : Int} (h : isR a b = true) :
    cmpR (floR a b) 1 a b ≤ 0 ∧ cmpR a b (ceiR a b) 1 ≤ 0 ∧ (ceiR a b = floR a b + 1 ∨ (ceiR a b = floR a b ∧ b = 1)) ∧ floR (-a) b = -ceiR a b ∧
    (-1000000000 ≤ floR a b ∧ floR a b ≤ 1000000000) ∧ (-1000000000 ≤ ceiR a b ∧ ceiR a b ≤ 1000000000) := by
  obtain ⟨h1, h2, h3, h4, h5⟩ := isR_iff.1 h
  have ef : floR a b = a / b := by unfold floR; rw [if_pos h]
  have ec : ceiR a b = -((-a) / b) := by unfold ceiR; rw [if_pos h]
  have ef' : floR (-a) b = (-a) / b := by unfold floR; rw [if_pos (isR_neg h)]
  have bf := flo_bounds a b h1 ⟨h3, h4⟩
  have bc := flo_bounds (-a) b h1 ⟨by omega, by omega⟩
  have r1 : isR (a / b) 1 = true := by rw [isR_iff, gcdI_one]; omega
  have r2 : isR (-((-a) / b)) 1 = true := by rw [isR_iff, gcdI_one]; omega
  have e1 := Int.mul_ediv_add_emod a b
  have e2 := Int.mul_ediv_add_emod (-a) b
  have m1 : 0 ≤ a % b := Int.emod_nonneg a (by omega)
  have m2 : a % b < b := Int.emod_lt_of_pos a (by omega)
  have m3 : 0 ≤ (-a) % b := Int.emod_nonneg (-a) (by omega)
  have m4 : (-a) % b < b := Int.emod_lt_of_pos (-a) (by omega)
  rw [ef, ec, ef']
  refine ⟨?_, ?_, ?_, by omega, bf, by omega⟩
  · unfold cmpR
    rw [if_pos ⟨r1, h⟩]
    have : a / b * b ≤ a * 1 := by rw [Int.mul_comm (a / b), Int.mul_one]; omega
    unfold cmpI
    split
    · omega
    · rw [if_neg (by omega)]; omega
  · unfold cmpR
    rw [if_pos ⟨h, r2⟩]
    have : a * 1 ≤ -((-a) / b) * b := by rw [Int.neg_mul, Int.mul_comm _ b, Int.mul_one]; omega
    unfold cmpI
    split
    · omega
    · rw [if_neg (by omega)]; omega
  · have e3 : b * (a / b + (-a) / b) = -(a % b) - (-a) % b := by rw [Int.mul_add]; omega
    by_cases hz : a % b = 0
    · right
      have hdvd : b ∣ a := Int.dvd_of_emod_eq_zero hz
      have hb : b = 1 := by
        have : b ∣ gcdI a b := by
          unfold gcdI
          have h8 : b.natAbs ∣ Nat.gcd a.natAbs b.natAbs := Nat.dvd_gcd (Int.natAbs_dvd_natAbs.2 hdvd) (Nat.dvd_refl _)
          exact Int.natAbs_dvd.1 (Int.ofNat_dvd.2 h8)
        rw [h5] at this
        have := Int.le_of_dvd (by omega) this
        omega
      subst hb
      simp
    · left
      have : a / b + (-a) / b = -1 := by
        rcases Int.lt_trichotomy (a / b + (-a) / b) (-1) with k | k | k
        · have := Int.mul_le_mul_of_nonneg_left (show a / b + (-a) / b ≤ -2 by omega) (show 0 ≤ b by omega)
          omega
        · exact k
        · have := Int.mul_le_mul_of_nonneg_left (show 0 ≤ a / b + (-a) / b by omega) (show 0 ≤ b by omega)
          omega
      omega
end Go.Proofs.Ytccejhhhengpcaa.num
