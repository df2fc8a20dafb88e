/- Plain facts on binary floating point: the magnitudes of a format in order, comparison, rounding. No program in sight. -/
import Ieee.Arith
import Derived.Laws.FloatBits
namespace Go.Proofs.YtkfhgjknmdlhbaaGreatDoor.Ft
open Ieee

/-- Rounding n / g to a whole number, halves to even. -/
def rhe (n g : Nat) : Nat := n / g + if g < 2 * (n % g) ∨ (g = 2 * (n % g) ∧ n / g % 2 = 1) then 1 else 0

theorem rhe_exact (k g : Nat) (hg : 0 < g) : rhe (k * g) g = k := by
  unfold rhe
  rw [Nat.mul_div_cancel _ hg, Nat.mul_mod_left]
  rw [if_neg (by omega)]; rfl

theorem rhe_mono {n m g : Nat} (hg : 0 < g) (h : n ≤ m) : rhe n g ≤ rhe m g := by
  unfold rhe
  have hn := Nat.div_add_mod n g
  have hm := Nat.div_add_mod m g
  have h1 := Nat.mod_lt n hg
  have h2 := Nat.mod_lt m hg
  have hd : n / g ≤ m / g := Nat.div_le_div_right h
  by_cases e : n / g = m / g
  · rw [e] at hn ⊢
    have : n % g ≤ m % g := by omega
    split <;> split <;> omega
  · split <;> split <;> omega

theorem rhe_scale (n g c : Nat) (hc : 0 < c) : rhe (n * c) (g * c) = rhe n g := by
  unfold rhe
  rw [Nat.mul_div_mul_right _ _ hc, Nat.mul_mod_mul_right]
  have e : 2 * (n % g * c) = (2 * (n % g)) * c := by rw [Nat.mul_assoc]
  rw [e]
  have i1 : g * c < 2 * (n % g) * c ↔ g < 2 * (n % g) := Nat.mul_lt_mul_right hc
  have i2 : g * c = 2 * (n % g) * c ↔ g = 2 * (n % g) := ⟨fun h => Nat.eq_of_mul_eq_mul_right hc h, fun h => by rw [← h]⟩
  simp only [i1, i2]

theorem rhe_le {n g k : Nat} (hg : 0 < g) (h : n ≤ k * g) : rhe n g ≤ k := by
  have := rhe_mono hg h
  rwa [rhe_exact k g hg] at this
theorem rhe_ge {n g k : Nat} (hg : 0 < g) (h : k * g ≤ n) : k ≤ rhe n g := by
  have := rhe_mono hg h
  rwa [rhe_exact k g hg] at this

theorem cut_even (neg : Bool) (n drop : Nat) : Toward.even.cut neg n drop = rhe n (2 ^ drop) := by
  unfold Toward.cut rhe
  simp only [Nat.one_shiftLeft]
  have hb : ∀ c : Prop, [Decidable c] → (decide c).toNat = if c then 1 else 0 := by intro c _; by_cases h : c <;> simp [h]
  by_cases hle : drop ≤ n.log2 + 2
  · rw [Nat.min_eq_left hle]
    congr 1
    by_cases h1 : 2 ^ drop < 2 * (n % 2 ^ drop)
    · simp [h1]
    · by_cases h2 : 2 ^ drop = 2 * (n % 2 ^ drop) ∧ n / 2 ^ drop % 2 = 1
      · rw [if_pos (.inr h2)]; simp [← h2.1, h2.2]
      · rw [if_neg (by intro h; rcases h with h | h; exact h1 h; exact h2 h)]
        have : (decide (2 ^ drop < 2 * (n % 2 ^ drop)) || (2 ^ drop == 2 * (n % 2 ^ drop) && n / 2 ^ drop % 2 == 1)) = false := by
          simp only [h1, decide_false, Bool.false_or]
          rw [Bool.eq_false_iff]; intro hh
          simp only [Bool.and_eq_true, beq_iff_eq] at hh
          exact h2 hh
        rw [this]; rfl
  · rw [Nat.min_eq_right (by omega)]
    have hlt : n < 2 ^ (n.log2 + 1) := Nat.lt_log2_self
    have e : 2 ^ (n.log2 + 2) = 2 * 2 ^ (n.log2 + 1) := by rw [Nat.pow_succ, Nat.mul_comm]
    have hd : 2 ^ (n.log2 + 2) ≤ 2 ^ drop := Nat.pow_le_pow_right (by omega) (by omega)
    rw [Nat.div_eq_of_lt (show n < 2 ^ (n.log2 + 2) by omega), Nat.mod_eq_of_lt (show n < 2 ^ (n.log2 + 2) by omega),
      Nat.div_eq_of_lt (show n < 2 ^ drop by omega), Nat.mod_eq_of_lt (show n < 2 ^ drop by omega)]
    rw [if_neg (by omega)]
    have : (decide (2 ^ (n.log2 + 2) < 2 * n) || (2 ^ (n.log2 + 2) == 2 * n && 0 % 2 == 1)) = false := by
      have : ¬ (2 ^ (n.log2 + 2) < 2 * n) := by omega
      simp [this]
    rw [this]; rfl

variable (f : Format)
theorem B_pos : 0 < f.binade := Nat.two_pow_pos _

/-- The magnitude of a rung, in units of the least one. -/
def mag (r : Nat) : Nat := if r < f.binade then r else (f.binade + r % f.binade) * 2 ^ (r / f.binade - 1)

theorem mag_succ (r : Nat) : mag f r < mag f (r + 1) := by
  have hB := B_pos f
  unfold mag
  by_cases h1 : r + 1 < f.binade
  · rw [if_pos (by omega), if_pos h1]; omega
  · rw [if_neg h1]
    by_cases h0 : r < f.binade
    · have e : r + 1 = f.binade := by omega
      rw [if_pos h0, e, Nat.mod_self, Nat.div_self hB]; simp; omega
    · rw [if_neg h0]
      have hq : 1 ≤ r / f.binade := (Nat.le_div_iff_mul_le hB).2 (by omega)
      have hm := Nat.mod_lt r hB
      have hda := Nat.div_add_mod r f.binade
      by_cases ht : r % f.binade + 1 < f.binade
      · have e1 : (r + 1) / f.binade = r / f.binade := by
          rw [Nat.div_eq_iff hB]
          have : f.binade * (r / f.binade) = r / f.binade * f.binade := Nat.mul_comm ..
          omega
        have e2 : (r + 1) % f.binade = r % f.binade + 1 := by
          have := Nat.div_add_mod (r + 1) f.binade
          rw [e1] at this; omega
        rw [e1, e2]
        exact Nat.mul_lt_mul_of_pos_right (by omega) (Nat.two_pow_pos _)
      · have ht' : r % f.binade + 1 = f.binade := by omega
        have hr1 : r + 1 = f.binade * (r / f.binade + 1) := by rw [Nat.mul_succ]; omega
        have e1 : (r + 1) / f.binade = r / f.binade + 1 := by rw [hr1, Nat.mul_div_cancel_left _ hB]
        have e2 : (r + 1) % f.binade = 0 := by rw [hr1, Nat.mul_mod_right]
        rw [e1, e2]
        have e3 : r / f.binade + 1 - 1 = (r / f.binade - 1) + 1 := by omega
        rw [e3, Nat.pow_succ, Nat.add_zero, ← Nat.mul_assoc, Nat.mul_right_comm]
        exact Nat.mul_lt_mul_of_pos_right (by omega) (Nat.two_pow_pos _)

theorem mag_lt {r s : Nat} (h : r < s) : mag f r < mag f s := by
  induction s with
  | zero => omega
  | succ s ih =>
    by_cases e : r = s
    · subst e; exact mag_succ f r
    · exact Nat.lt_trans (ih (by omega)) (mag_succ f s)
theorem mag_le {r s : Nat} (h : r ≤ s) : mag f r ≤ mag f s := by
  by_cases e : r = s
  · subst e; exact Nat.le_refl _
  · exact Nat.le_of_lt (mag_lt f (by omega))
theorem mag_inj {r s : Nat} (h : mag f r = mag f s) : r = s := by
  by_cases h1 : r < s
  · have := mag_lt f h1; omega
  · by_cases h2 : s < r
    · have := mag_lt f h2; omega
    · omega
theorem mag_zero : mag f 0 = 0 := by unfold mag; rw [if_pos (B_pos f)]

/-- The rung to which the number n * 2 ^ (least place - d) is rounded. -/
def rr (n d : Nat) : Nat := min ((n.log2 - (d + f.fractionBits)) * f.binade + rhe n (2 ^ (n.log2 - (d + f.fractionBits) + d))) f.infRung

theorem rr_le_inf (n d : Nat) : rr f n d ≤ f.infRung := Nat.min_le_right ..

theorem log2_mul_pow (n k : Nat) (h : n ≠ 0) : (n * 2 ^ k).log2 = n.log2 + k := by
  have hp := Nat.two_pow_pos k
  have hn : n * 2 ^ k ≠ 0 := Nat.mul_ne_zero h (by omega)
  rw [Nat.log2_eq_iff hn]
  have h1 := Nat.log2_self_le h
  have h2 : n < 2 ^ (n.log2 + 1) := Nat.lt_log2_self
  constructor
  · rw [Nat.pow_add]; exact Nat.mul_le_mul_right _ h1
  · rw [show n.log2 + k + 1 = (n.log2 + 1) + k by omega, Nat.pow_add]
    exact Nat.mul_lt_mul_of_pos_right h2 hp

theorem rr_scale (n d k : Nat) : rr f (n * 2 ^ k) (d + k) = rr f n d := by
  by_cases h : n = 0
  · subst h
    have e : ∀ g, rhe 0 (2 ^ g) = 0 := fun g => by
      have := rhe_exact 0 (2 ^ g) (Nat.two_pow_pos _); rwa [Nat.zero_mul] at this
    simp [rr, e]
  · unfold rr
    rw [log2_mul_pow n k h]
    have e1 : n.log2 + k - (d + k + f.fractionBits) = n.log2 - (d + f.fractionBits) := by omega
    rw [e1, show n.log2 - (d + f.fractionBits) + (d + k) = (n.log2 - (d + f.fractionBits) + d) + k by omega, Nat.pow_add, rhe_scale _ _ _ (Nat.two_pow_pos k)]

theorem rr_mono {n m : Nat} (d : Nat) (h : n ≤ m) : rr f n d ≤ rr f m d := by
  have hB := B_pos f
  by_cases h0 : n = 0
  · subst h0
    have : rhe 0 (2 ^ d) = 0 := by have := rhe_exact 0 (2 ^ d) (Nat.two_pow_pos _); rwa [Nat.zero_mul] at this
    simp [rr, this]
  have hm0 : m ≠ 0 := by omega
  have hl : n.log2 ≤ m.log2 := (Nat.le_log2 hm0).2 (Nat.le_trans (Nat.log2_self_le h0) h)
  unfold rr
  refine Nat.le_min.2 ⟨?_, Nat.min_le_right ..⟩
  refine Nat.le_trans (Nat.min_le_left ..) ?_
  generalize hs1 : n.log2 - (d + f.fractionBits) = s1
  generalize hs2 : m.log2 - (d + f.fractionBits) = s2
  by_cases e : s1 = s2
  · subst e
    exact Nat.add_le_add_left (rhe_mono (Nat.two_pow_pos _) h) _
  · have hlt : s1 < s2 := by omega
    have u : rhe n (2 ^ (s1 + d)) ≤ 2 * f.binade := by
      refine rhe_le (Nat.two_pow_pos _) ?_
      have h2 : n < 2 ^ (n.log2 + 1) := Nat.lt_log2_self
      have h3 : 2 ^ (n.log2 + 1) ≤ 2 ^ (1 + f.fractionBits + (s1 + d)) := Nat.pow_le_pow_right (by omega) (by omega)
      rw [Nat.pow_add 2 (1 + f.fractionBits), Nat.pow_add 2 1, Nat.pow_one] at h3
      exact Nat.le_of_lt (Nat.lt_of_lt_of_le h2 h3)
    have l : f.binade ≤ rhe m (2 ^ (s2 + d)) := by
      refine rhe_ge (Nat.two_pow_pos _) ?_
      have h1 := Nat.log2_self_le hm0
      have h3 : 2 ^ (f.fractionBits + (s2 + d)) ≤ 2 ^ m.log2 := Nat.pow_le_pow_right (by omega) (by omega)
      rw [Nat.pow_add] at h3
      exact Nat.le_trans h3 h1
    have : (s1 + 1) * f.binade ≤ s2 * f.binade := Nat.mul_le_mul_right _ hlt
    rw [Nat.succ_mul] at this
    omega

theorem rr_mag (r d : Nat) (hr : r ≤ f.infRung) : rr f (mag f r * 2 ^ d) d = r := by
  have hB := B_pos f
  have hp := Nat.two_pow_pos d
  have key : (mag f r * 2 ^ d).log2 - (d + f.fractionBits) = r / f.binade - 1 ∧ rhe (mag f r * 2 ^ d) (2 ^ (r / f.binade - 1 + d)) + (r / f.binade - 1) * f.binade = r := by
    by_cases h : r < f.binade
    · have e : r / f.binade = 0 := Nat.div_eq_of_lt h
      rw [e]
      unfold mag; rw [if_pos h]
      refine ⟨?_, by simp; exact rhe_exact r _ hp⟩
      by_cases h0 : r = 0
      · subst h0; simp
      · rw [log2_mul_pow r d h0]
        have : r.log2 < f.fractionBits := (Nat.log2_lt h0).2 h
        omega
    · have hq : 1 ≤ r / f.binade := (Nat.le_div_iff_mul_le hB).2 (by omega)
      unfold mag; rw [if_neg h]
      have hm := Nat.mod_lt r hB
      have hda := Nat.div_add_mod r f.binade
      generalize r / f.binade = q at *
      generalize r % f.binade = t at *
      have hne : f.binade + t ≠ 0 := by omega
      have hl : (f.binade + t).log2 = f.fractionBits := by
        rw [Nat.log2_eq_iff hne]
        have : f.binade = 2 ^ f.fractionBits := rfl
        rw [Nat.pow_succ]; omega
      rw [Nat.mul_assoc, ← Nat.pow_add]
      refine ⟨by rw [log2_mul_pow _ _ hne, hl]; omega, ?_⟩
      rw [rhe_exact _ _ (Nat.two_pow_pos _)]
      have : f.binade * q = q * f.binade := Nat.mul_comm ..
      have e : q = (q - 1) + 1 := by omega
      have e2 : q * f.binade = (q - 1) * f.binade + f.binade := by
        conv => lhs; rw [e]
        rw [Nat.succ_mul]
      omega
  unfold rr
  rw [key.1]
  have := key.2
  rw [Nat.add_comm, this]
  exact Nat.min_eq_left hr

theorem rr_le {n d r : Nat} (hr : r ≤ f.infRung) (h : n ≤ mag f r * 2 ^ d) : rr f n d ≤ r := by
  have := rr_mono f d h
  rwa [rr_mag f r d hr] at this
theorem rr_ge {n d r : Nat} (hr : r ≤ f.infRung) (h : mag f r * 2 ^ d ≤ n) : r ≤ rr f n d := by
  have := rr_mono f d h
  rwa [rr_mag f r d hr] at this

theorem rhe_shift (m a b : Nat) (_ : a ≤ b) : rhe (m * 2 ^ a) (2 ^ b) = rhe m (2 ^ (b - a)) := by
  have e : 2 ^ b = 2 ^ (b - a) * 2 ^ a := by rw [← Nat.pow_add]; congr 1; omega
  rw [e, rhe_scale _ _ _ (Nat.two_pow_pos _)]

/-- Rounding, told by rungs. -/
theorem nearest_rr (neg : Bool) (m : Nat) (place : Int) (d k : Nat) (h : place + d = f.leastPlace + k) : f.nearest neg m place = f.word neg (rr f (m * 2 ^ k) d) := by
  unfold Format.nearest
  by_cases h0 : m = 0
  · subst h0
    have e : ∀ g, rhe 0 (2 ^ g) = 0 := fun g => by
      have := rhe_exact 0 (2 ^ g) (Nat.two_pow_pos _); rwa [Nat.zero_mul] at this
    simp [rr, e]
  rw [if_neg h0]
  dsimp only
  rw [cut_even]
  unfold rr
  rw [log2_mul_pow m k h0]
  congr 2
  generalize hl : m.log2 = L
  generalize f.leastPlace = lp at *
  generalize f.fractionBits = fb at *
  by_cases hc : (lp : Int) ≤ place + L - fb
  · rw [Int.max_eq_left hc]
    have e1 : (place + L - fb - lp).toNat = L + k - (d + fb) := by omega
    rw [e1]
    congr 1
    rw [Nat.shiftLeft_eq]
    by_cases hp : L ≤ fb
    · have e2 : (place - (place + L - fb)).toNat = fb - L := by omega
      have e3 : (place + L - fb - place).toNat = 0 := by omega
      rw [e2, e3]
      have e4 : L + k - (d + fb) + d ≤ k := by omega
      have e5 : 2 ^ k = 2 ^ (fb - L) * 2 ^ (L + k - (d + fb) + d) := by rw [← Nat.pow_add]; congr 1; omega
      rw [e5, ← Nat.mul_assoc, rhe_exact _ _ (Nat.two_pow_pos _)]
      have := rhe_exact (m * 2 ^ (fb - L)) 1 (by omega)
      rwa [Nat.mul_one] at this
    · have e2 : (place - (place + L - fb)).toNat = 0 := by omega
      have e3 : (place + L - fb - place).toNat = L - fb := by omega
      rw [e2, e3, rhe_shift m k _ (by omega), Nat.pow_zero, Nat.mul_one]
      congr 2
      omega
  · rw [Int.max_eq_right (by omega)]
    have e1 : (lp - lp).toNat = L + k - (d + fb) := by omega
    rw [e1]
    congr 1
    rw [Nat.shiftLeft_eq]
    have hz : L + k - (d + fb) = 0 := by omega
    rw [hz, Nat.zero_add]
    by_cases hk : d ≤ k
    · have e2 : (place - lp).toNat = k - d := by omega
      have e3 : (lp - place).toNat = 0 := by omega
      rw [e2, e3]
      have e5 : 2 ^ k = 2 ^ (k - d) * 2 ^ d := by rw [← Nat.pow_add]; congr 1; omega
      rw [e5, ← Nat.mul_assoc, rhe_exact _ _ (Nat.two_pow_pos _)]
      have := rhe_exact (m * 2 ^ (k - d)) 1 (by omega)
      rwa [Nat.mul_one] at this
    · have e2 : (place - lp).toNat = 0 := by omega
      have e3 : (lp - place).toNat = d - k := by omega
      rw [e2, e3, rhe_shift m k _ (by omega), Nat.pow_zero, Nat.mul_one]
end Go.Proofs.YtkfhgjknmdlhbaaGreatDoor.Ft
