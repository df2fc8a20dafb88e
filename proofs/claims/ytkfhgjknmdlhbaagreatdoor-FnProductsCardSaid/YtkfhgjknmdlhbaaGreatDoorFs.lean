/- Words as scaled whole numbers: comparison, sums, products, conversions. No program in sight. -/
import Derived.Test.YtkfhgjknmdlhbaaGreatDoorFt
import Derived.Test.YtkfhgjknmdlhbaaGreatDoorFl
namespace Go.Proofs.YtkfhgjknmdlhbaaGreatDoor.Fs
open Go Ieee Ft Fl

section gen
variable (f : Format)
def rung (w : Nat) : Nat := w % f.signWeight
def sgn (w : Nat) : Bool := w / f.signWeight % 2 == 1
/-- A word as a whole number, in units of the format's least magnitude (an infinity as the magnitude behind the greatest). -/
def sv (w : Nat) : Int := if sgn f w then -(mag f (rung f w) : Int) else (mag f (rung f w) : Int)

theorem read_fin {w : Nat} (_hb : f.binade ≤ f.infRung) (h : rung f w < f.infRung) : ∃ m k, f.read w = .number (sgn f w) m (f.leastPlace + (k : Nat)) ∧ m * 2 ^ k = mag f (rung f w) := by
  unfold Format.read
  dsimp only
  by_cases h1 : rung f w < f.binade
  · refine ⟨rung f w, 0, ?_, ?_⟩
    · rw [if_pos (show w % f.signWeight < f.binade from h1)]; simp [sgn, rung]
    · unfold mag; rw [if_pos h1]; simp
  · refine ⟨f.binade + rung f w % f.binade, rung f w / f.binade - 1, ?_, ?_⟩
    · rw [if_neg (show ¬ w % f.signWeight < f.binade from h1), if_pos (show w % f.signWeight < f.infRung from h)]; rfl
    · unfold mag; rw [if_neg h1]

theorem read_inf {w : Nat} (hb : f.binade ≤ f.infRung) (h : rung f w = f.infRung) : f.read w = .infinity (sgn f w) := by
  unfold Format.read
  dsimp only
  have h' : w % f.signWeight = f.infRung := h
  rw [if_neg (by omega), if_neg (by omega), if_pos h']; rfl

theorem natAbs_sv (w : Nat) : (sv f w).natAbs = mag f (rung f w) := by unfold sv; split <;> simp
theorem sv_abs_lt {w : Nat} (h : rung f w < f.infRung) : -(mag f f.infRung : Int) < sv f w ∧ sv f w < mag f f.infRung := by
  have := mag_lt f h
  unfold sv; split <;> constructor <;> omega

theorem signed_eq (s : Bool) (m k c : Nat) : signed s m k * (2 : Int) ^ c = signed s m (k + c) := by
  have e : m <<< (k + c) = m <<< k * 2 ^ c := by rw [Nat.shiftLeft_eq, Nat.shiftLeft_eq, Nat.pow_add, Nat.mul_assoc]
  unfold signed
  split
  · rw [e]; push_cast; rw [Int.neg_mul]
  · rw [e]; push_cast; rfl
theorem signed_sv {w m k : Nat} (h : m * 2 ^ k = mag f (rung f w)) : signed (sgn f w) m k = sv f w := by
  unfold signed sv
  rw [Nat.shiftLeft_eq, h]

theorem compare_mul (a b : Int) (c : Int) (hc : 0 < c) : compare (a * c) (b * c) = compare a b := by
  have h1 : a * c < b * c ↔ a < b := Int.mul_lt_mul_right hc
  have h2 : a * c = b * c ↔ a = b := Int.mul_eq_mul_right_iff (by omega)
  show compareOfLessAndEq (a * c) (b * c) = compareOfLessAndEq a b
  unfold compareOfLessAndEq
  simp only [h1, h2]
theorem compare_lt {a b : Int} (h : a < b) : compare a b = .lt := by
  show compareOfLessAndEq a b = _; unfold compareOfLessAndEq; rw [if_pos h]
theorem compare_gt {a b : Int} (h : b < a) : compare a b = .gt := by
  show compareOfLessAndEq a b = _; unfold compareOfLessAndEq; rw [if_neg (by omega), if_neg (by omega)]
theorem compare_eq {a b : Int} (h : a = b) : compare a b = .eq := by
  show compareOfLessAndEq a b = _; unfold compareOfLessAndEq; rw [if_neg (by omega), if_pos h]
theorem compare_eq_iff {a b : Int} : compare a b = .eq ↔ a = b := by
  constructor
  · intro h
    by_cases h1 : a < b
    · rw [compare_lt h1] at h; cases h
    · by_cases h2 : b < a
      · rw [compare_gt h2] at h; cases h
      · omega
  · exact compare_eq
theorem compare_lt_iff {a b : Int} : compare a b = .lt ↔ a < b := by
  constructor
  · intro h
    by_cases h1 : a = b
    · rw [compare_eq h1] at h; cases h
    · by_cases h2 : b < a
      · rw [compare_gt h2] at h; cases h
      · omega
  · exact compare_lt
theorem compare_gt_iff {a b : Int} : compare a b = .gt ↔ b < a := by
  constructor
  · intro h
    by_cases h1 : a = b
    · rw [compare_eq h1] at h; cases h
    · by_cases h2 : a < b
      · rw [compare_lt h2] at h; cases h
      · omega
  · exact compare_gt

/-- COMPARISON. -/
theorem order_sv {x y : Nat} (hb : f.binade ≤ f.infRung) (hx : rung f x ≤ f.infRung) (hy : rung f y ≤ f.infRung) : f.order x y = some (compare (sv f x) (sv f y)) := by
  unfold Format.order
  by_cases h1 : rung f x = f.infRung
  · rw [read_inf f hb h1]
    by_cases h2 : rung f y = f.infRung
    · rw [read_inf f hb h2]
      simp only [Datum.order, sv, h1, h2]
      have hp : (0 : Int) < mag f f.infRung := by
        have := mag_lt f (show 0 < f.infRung by have := B_pos f; omega); rw [mag_zero] at this; omega
      cases sgn f x <;> cases sgn f y <;> simp only [Bool.toNat_true, Bool.toNat_false, if_true, Bool.false_eq_true, if_false, Option.some.injEq]
      · rw [compare_eq rfl]; rfl
      · rw [compare_gt (by omega)]; rfl
      · rw [compare_lt (by omega)]; rfl
      · rw [compare_eq rfl]; rfl
    · have hf : rung f y < f.infRung := by omega
      obtain ⟨m, k, hr, hm⟩ := read_fin f hb hf
      rw [hr]
      have := sv_abs_lt f hf
      simp only [Datum.order, Option.some.injEq]
      have e : sv f x = if sgn f x then -(mag f f.infRung : Int) else (mag f f.infRung : Int) := by unfold sv; rw [h1]
      rw [e]
      cases sgn f x
      · rw [compare_gt (by simp; omega)]; rfl
      · rw [compare_lt (by simp; omega)]; rfl
  · have hf : rung f x < f.infRung := by omega
    obtain ⟨m, k, hr, hm⟩ := read_fin f hb hf
    rw [hr]
    by_cases h2 : rung f y = f.infRung
    · rw [read_inf f hb h2]
      have := sv_abs_lt f hf
      simp only [Datum.order, Option.some.injEq]
      have e : sv f y = if sgn f y then -(mag f f.infRung : Int) else (mag f f.infRung : Int) := by unfold sv; rw [h2]
      rw [e]
      cases sgn f y
      · rw [compare_lt (by simp; omega)]; rfl
      · rw [compare_gt (by simp; omega)]; rfl
    · have hg : rung f y < f.infRung := by omega
      obtain ⟨n, j, hs, hn⟩ := read_fin f hb hg
      rw [hs]
      simp only [Datum.order, Option.some.injEq]
      rw [← signed_sv f hm, ← signed_sv f hn]
      generalize f.leastPlace = lp
      by_cases hkj : k ≤ j
      · rw [Int.min_eq_left (by omega)]
        have e1 : (lp + (k : Int) - (lp + k)).toNat = 0 := by omega
        have e2 : (lp + (j : Int) - (lp + k)).toNat = j - k := by omega
        rw [e1, e2, ← compare_mul _ _ ((2 : Int) ^ k) (Int.pow_pos (by omega)), signed_eq, signed_eq]
        congr 2 <;> omega
      · rw [Int.min_eq_right (by omega)]
        have e1 : (lp + (k : Int) - (lp + j)).toNat = k - j := by omega
        have e2 : (lp + (j : Int) - (lp + j)).toNat = 0 := by omega
        rw [e1, e2, ← compare_mul _ _ ((2 : Int) ^ j) (Int.pow_pos (by omega)), signed_eq, signed_eq]
        congr 2 <;> omega

theorem rung_word' (neg : Bool) {r : Nat} (h : r ≤ f.infRung) : rung f (f.word neg r) = r :=
  rung_word f neg (Nat.lt_of_le_of_lt h f.infRung_lt)
theorem sgn_word' (neg : Bool) {r : Nat} (h : r ≤ f.infRung) : sgn f (f.word neg r) = neg :=
  neg_word f neg (Nat.lt_of_le_of_lt h f.infRung_lt)
theorem sv_word (neg : Bool) {r : Nat} (h : r ≤ f.infRung) : sv f (f.word neg r) = if neg then -(mag f r : Int) else (mag f r : Int) := by
  unfold sv; rw [rung_word' f neg h, sgn_word' f neg h]
theorem two_sw : 2 ^ f.width = 2 * f.signWeight := by
  unfold Format.width Format.signWeight
  rw [Nat.add_assoc, Nat.add_comm 1, Nat.pow_succ, Nat.mul_comm]
/-- A word is its sign and its rung. -/
theorem word_of {w : Nat} (h : w < 2 ^ f.width) : w = f.word (sgn f w) (rung f w) := by
  rw [two_sw] at h
  have hp := sw_pos f
  have hd := Nat.div_add_mod w f.signWeight
  have hq : w / f.signWeight < 2 := Nat.div_lt_of_lt_mul (by omega)
  unfold Format.word sgn rung
  have : w / f.signWeight = 0 ∨ w / f.signWeight = 1 := by generalize w / f.signWeight = q at hq; omega
  rcases this with e | e
  · rw [e] at hd ⊢; simp; omega
  · rw [e] at hd ⊢; simp; omega
theorem word_inj {x y : Nat} (hx : x < 2 ^ f.width) (hy : y < 2 ^ f.width) (hs : sgn f x = sgn f y) (hr : rung f x = rung f y) : x = y := by
  rw [word_of f hx, word_of f hy, hs, hr]

/-- What a whole number of few digits has for a rung. -/
theorem rung_exists (M j : Nat) (hM : M < 2 * f.binade) : ∃ r, mag f r = M * 2 ^ j := by
  have hB := B_pos f
  have hBd : f.binade = 2 ^ f.fractionBits := rfl
  by_cases h0 : M = 0
  · exact ⟨0, by rw [mag_zero, h0, Nat.zero_mul]⟩
  have hL : M.log2 < f.fractionBits + 1 := (Nat.log2_lt h0).2 (by rw [Nat.pow_succ]; omega)
  have h1 := Nat.log2_self_le h0
  have h2 : M < 2 ^ (M.log2 + 1) := Nat.lt_log2_self
  by_cases hs : M * 2 ^ j < f.binade
  · exact ⟨M * 2 ^ j, by unfold mag; rw [if_pos hs]⟩
  have hj : f.fractionBits ≤ M.log2 + j := by
    have : 2 ^ f.fractionBits ≤ M * 2 ^ j := by omega
    have h3 : M * 2 ^ j < 2 ^ (M.log2 + 1 + j) := by rw [Nat.pow_add]; exact Nat.mul_lt_mul_of_pos_right h2 (Nat.two_pow_pos _)
    have h4 : 2 ^ f.fractionBits < 2 ^ (M.log2 + 1 + j) := Nat.lt_of_le_of_lt this h3
    have := (Nat.pow_lt_pow_iff_right (by omega : 1 < 2)).1 h4
    omega
  generalize hq : M.log2 + j - f.fractionBits = q
  have hN1 : f.binade ≤ M * 2 ^ (f.fractionBits - M.log2) := by
    have : 2 ^ M.log2 * 2 ^ (f.fractionBits - M.log2) = f.binade := by rw [← Nat.pow_add, hBd]; congr 1; omega
    rw [← this]; exact Nat.mul_le_mul_right _ h1
  have hN2 : M * 2 ^ (f.fractionBits - M.log2) < 2 * f.binade := by
    have : 2 ^ (M.log2 + 1) * 2 ^ (f.fractionBits - M.log2) = 2 * f.binade := by rw [← Nat.pow_add, hBd, Nat.mul_comm 2, ← Nat.pow_succ]; congr 1; omega
    rw [← this]; exact Nat.mul_lt_mul_of_pos_right h2 (Nat.two_pow_pos _)
  generalize hN : M * 2 ^ (f.fractionBits - M.log2) = N at hN1 hN2
  refine ⟨(q + 1) * f.binade + (N - f.binade), ?_⟩
  unfold mag
  have e1 : ((q + 1) * f.binade + (N - f.binade)) / f.binade = q + 1 := by
    rw [Nat.add_comm, Nat.add_mul_div_right _ _ hB, Nat.div_eq_of_lt (by omega)]; omega
  have e2 : ((q + 1) * f.binade + (N - f.binade)) % f.binade = N - f.binade := by
    rw [Nat.add_comm, Nat.add_mul_mod_self_right, Nat.mod_eq_of_lt (by omega)]
  rw [if_neg (by rw [Nat.succ_mul]; omega), e1, e2]
  have e3 : f.binade + (N - f.binade) = N := by omega
  rw [e3, ← hN, Nat.mul_assoc, ← Nat.pow_add]
  congr 2; omega

theorem mag_form (r : Nat) : ∃ M j, M < 2 * f.binade ∧ mag f r = M * 2 ^ j := by
  have hB := B_pos f
  unfold mag
  split
  · exact ⟨r, 0, by omega, by simp⟩
  · exact ⟨_, _, by have := Nat.mod_lt r hB; omega, rfl⟩
end gen
end Go.Proofs.YtkfhgjknmdlhbaaGreatDoor.Fs
