/-
  Plain arithmetic of fractions: greatest common divisors, lowest terms, sums and products. No program in sight.
-/
import Derived.Test.YtiglkajafdecgaaBase
namespace Go.Proofs.Ytiglkajafdecgaa.Fp
set_option linter.unusedVariables false

theorem gcd_step (a b : Int) : Int.gcd b (a.tmod b) = Int.gcd a b := by
  unfold Int.gcd
  rw [Int.natAbs_tmod, Nat.gcd_comm a.natAbs, Nat.gcd_comm b.natAbs, ← Nat.gcd_rec]

/-- the greatest common divisor, as an integer -/
def g (a b : Int) : Int := (Int.gcd a b : Int)
theorem g_step (a b : Int) : g b (a.tmod b) = g a b := by unfold g; rw [gcd_step]
theorem g_zero (a : Int) : g a 0 = max a (-a) := by unfold g; rw [Int.gcd_zero_right]; omega
theorem g_nonneg (a b : Int) : 0 ≤ g a b := by unfold g; omega
theorem g_pos (a b : Int) (h : 1 ≤ b) : 1 ≤ g a b := by
  unfold g
  have : 0 < Int.gcd a b := Int.gcd_pos_of_ne_zero_right a (by omega)
  omega
theorem g_le (a b : Int) (h : 1 ≤ b) : g a b ≤ b := by
  unfold g
  have h1 : Int.gcd a b ∣ b.natAbs := by unfold Int.gcd; exact Nat.gcd_dvd_right _ _
  have := Nat.le_of_dvd (by omega) h1
  omega
theorem g_dvd_left (a b : Int) : g a b ∣ a := Int.gcd_dvd_left a b
theorem g_dvd_right (a b : Int) : g a b ∣ b := Int.gcd_dvd_right a b
theorem g_comm (a b : Int) : g a b = g b a := by unfold g; rw [Int.gcd_comm]
theorem g_abs (a b : Int) : g (max a (0 - a)) b = g a b := by
  unfold g Int.gcd
  rw [show (max a (0 - a)).natAbs = a.natAbs by omega]

theorem tmod_lt (a b : Int) (h : b ≠ 0) : (a.tmod b).natAbs < b.natAbs := by
  rw [Int.natAbs_tmod]
  exact Nat.mod_lt _ (by omega)

/-- a fraction in lowest terms: its two parts -/
def rn (n d : Int) : Int := n / g n d
def rd (n d : Int) : Int := d / g n d
theorem rn_tdiv (n d : Int) : n.tdiv (g n d) = rn n d := Int.tdiv_eq_ediv_of_dvd (g_dvd_left n d)
theorem rd_tdiv (n d : Int) : d.tdiv (g n d) = rd n d := Int.tdiv_eq_ediv_of_dvd (g_dvd_right n d)
theorem rn_mul (n d : Int) : rn n d * g n d = n := Int.ediv_mul_cancel (g_dvd_left n d)
theorem rd_mul (n d : Int) : rd n d * g n d = d := Int.ediv_mul_cancel (g_dvd_right n d)
theorem g_red (n d : Int) (h : 1 ≤ d) : g (rn n d) (rd n d) = 1 := by
  unfold rn rd g
  have hp : 0 < Int.gcd n d := Int.gcd_pos_of_ne_zero_right n (by omega)
  rw [Int.gcd_ediv_gcd_ediv_gcd hp]
  rfl
theorem rd_pos (n d : Int) (h : 1 ≤ d) : 1 ≤ rd n d := by
  have h1 := rd_mul n d
  have h2 := g_pos n d h
  by_cases h3 : rd n d < 1
  · have : rd n d * g n d ≤ 0 := Int.mul_nonpos_of_nonpos_of_nonneg (by omega) (by omega)
    omega
  · omega
theorem rd_le (n d : Int) (h : 1 ≤ d) : rd n d ≤ d := by
  have h1 := rd_mul n d
  have h2 := g_pos n d h
  have h3 := rd_pos n d h
  have : rd n d * 1 ≤ rd n d * g n d := Int.mul_le_mul_of_nonneg_left h2 (by omega)
  omega
theorem rn_abs (n d : Int) (h : 1 ≤ d) : -(max n (-n)) ≤ rn n d ∧ rn n d ≤ max n (-n) := by
  have h1 := rn_mul n d
  have h2 := g_pos n d h
  by_cases h3 : rn n d < 0
  · have : -rn n d * 1 ≤ -rn n d * g n d := Int.mul_le_mul_of_nonneg_left h2 (by omega)
    have e : -rn n d * g n d = -n := by rw [Int.neg_mul, h1]
    omega
  · have : rn n d * 1 ≤ rn n d * g n d := Int.mul_le_mul_of_nonneg_left h2 (by omega)
    omega

theorem dvd_mul_cop (b a d : Int) (h : b ∣ a * d) (hc : Int.gcd b a = 1) : b ∣ d := by
  rw [← Int.natAbs_dvd_natAbs] at h ⊢
  rw [Int.natAbs_mul] at h
  exact Nat.Coprime.dvd_of_dvd_mul_left hc h
/-- two fractions in lowest terms that are equal as quotients are the same -/
theorem low_eq (a b c d : Int) (hb : 1 ≤ b) (hd : 1 ≤ d) (h1 : g a b = 1) (h2 : g c d = 1) (h : a * d = c * b) : a = c ∧ b = d := by
  have hbd : b ∣ d := by
    have h3 : b ∣ a * d := ⟨c, by rw [h, Int.mul_comm]⟩
    have h4 : Int.gcd b a = 1 := by rw [Int.gcd_comm]; unfold g at h1; omega
    exact dvd_mul_cop _ _ _ h3 h4
  have hdb : d ∣ b := by
    have h3 : d ∣ c * b := ⟨a, by rw [← h, Int.mul_comm]⟩
    have h4 : Int.gcd d c = 1 := by rw [Int.gcd_comm]; unfold g at h2; omega
    exact dvd_mul_cop _ _ _ h3 h4
  have e : b = d := by
    have := Int.le_of_dvd (by omega) hbd
    have := Int.le_of_dvd (by omega) hdb
    omega
  subst e
  refine ⟨?_, rfl⟩
  exact Int.eq_of_mul_eq_mul_right (by omega) h
theorem red_cross (n d : Int) : rn n d * d = n * rd n d := by
  have h1 := rn_mul n d
  have h2 := rd_mul n d
  calc rn n d * d = rn n d * (rd n d * g n d) := by rw [h2]
    _ = (rn n d * g n d) * rd n d := by rw [Int.mul_comm (rd n d), Int.mul_assoc]
    _ = n * rd n d := by rw [h1]
/-- what is equal as a quotient has the same lowest terms -/
theorem red_eq (n d n' d' : Int) (h : 1 ≤ d) (h' : 1 ≤ d') (e : n * d' = n' * d) : rn n d = rn n' d' ∧ rd n d = rd n' d' := by
  refine low_eq _ _ _ _ (rd_pos n d h) (rd_pos n' d' h') (g_red n d h) (g_red n' d' h') ?_
  have c1 := red_cross n d
  have c2 := red_cross n' d'
  have hne : d * d' ≠ 0 := Int.mul_ne_zero (by omega) (by omega)
  refine Int.eq_of_mul_eq_mul_right hne ?_
  calc rn n d * rd n' d' * (d * d') = (rn n d * d) * (rd n' d' * d') := by ac_rfl
    _ = (n * rd n d) * (rd n' d' * d') := by rw [c1]
    _ = (n * d') * (rd n d * rd n' d') := by ac_rfl
    _ = (n' * d) * (rd n d * rd n' d') := by rw [e]
    _ = (n' * rd n' d') * (rd n d * d) := by ac_rfl
    _ = (rn n' d' * d') * (rd n d * d) := by rw [c2]
    _ = rn n' d' * rd n d * (d * d') := by ac_rfl
theorem red_low (n d : Int) (h : g n d = 1) : rn n d = n ∧ rd n d = d := by unfold rn rd; rw [h]; exact ⟨Int.ediv_one n, Int.ediv_one d⟩

/-- is it a fraction? -/
def vld (n d : Int) : Bool := decide (-9999999 ≤ n) && (decide (n ≤ 9999999) && (decide (1 ≤ d) && (decide (d ≤ 9999999) && g n d == 1)))
theorem vld_iff (n d : Int) : vld n d = true ↔ (-9999999 ≤ n ∧ n ≤ 9999999 ∧ 1 ≤ d ∧ d ≤ 9999999 ∧ g n d = 1) := by simp [vld]

theorem vld_inr (n d : Int) : vld n d = (inr n (-9999999) 9999999 && (inr d 1 9999999 && g n d == 1)) := by
  simp [vld, inr, Bool.and_assoc]
theorem g_neg (a b : Int) : g (-a) b = g a b := by unfold g; rw [Int.neg_gcd]

/-- a number of three parts: numerator, denominator, is it one? -/
def redo (n d : Int) : Int × Int × Bool := if vld (rn n d) (rd n d) then (rn n d, rd n d, true) else (0, 0, false)
def add (a b c d : Int) : Int × Int × Bool := if vld a b && vld c d then redo (a * d + c * b) (b * d) else (0, 0, false)
def tms (a b c d : Int) : Int × Int × Bool := if vld a b && vld c d then redo (a * c) (b * d) else (0, 0, false)
def rng (n d : Int) : Bool := decide (-9999999 ≤ n) && (decide (n ≤ 9999999) && (decide (1 ≤ d) && decide (d ≤ 9999999)))
theorem rng_iff (n d : Int) : rng n d = true ↔ (-9999999 ≤ n ∧ n ≤ 9999999 ∧ 1 ≤ d ∧ d ≤ 9999999) := by simp [rng]
def ofn (n d : Int) : Int × Int × Bool := if rng n d then redo n d else (0, 0, false)
def less (a b c d : Int) : Bool := vld a b && (vld c d && decide (a * d < c * b))
theorem ofn_in (n d : Int) (h : rng n d = true) : vld (rn n d) (rd n d) = true := by
  rw [rng_iff] at h
  obtain ⟨h1, h2, h3, h4⟩ := h
  rw [vld_iff]
  have k1 := rn_abs n d h3
  have k2 := rd_pos n d h3
  have k3 := rd_le n d h3
  exact ⟨by omega, by omega, k2, by omega, g_red n d h3⟩
theorem mul_bd (a b : Int) (ha : -9999999 ≤ a) (ha' : a ≤ 9999999) (hb : -9999999 ≤ b) (hb' : b ≤ 9999999) : -99999980000001 ≤ a * b ∧ a * b ≤ 99999980000001 := by
  have h : (a * b).natAbs ≤ 9999999 * 9999999 := by rw [Int.natAbs_mul]; exact Nat.mul_le_mul (by omega) (by omega)
  omega
theorem mul_pos (a b : Int) (ha : 1 ≤ a) (hb : 1 ≤ b) : 1 ≤ a * b := by
  have : 0 < a * b := Int.mul_pos (by omega) (by omega)
  omega
theorem redo_valid (n d x y : Int) (h : redo n d = (x, y, true)) : x = rn n d ∧ y = rd n d ∧ vld x y = true := by
  unfold redo at h
  split at h
  · simp only [Prod.mk.injEq] at h
    obtain ⟨rfl, rfl, _⟩ := h
    exact ⟨rfl, rfl, by assumption⟩
  · simp at h
theorem tms_comm (a b c d : Int) : tms a b c d = tms c d a b := by
  unfold tms
  rw [Bool.and_comm, Int.mul_comm a c, Int.mul_comm b d]
end Go.Proofs.Ytiglkajafdecgaa.Fp
