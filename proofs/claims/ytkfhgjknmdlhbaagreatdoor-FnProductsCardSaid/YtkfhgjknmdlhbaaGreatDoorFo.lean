/- Sums, products and conversions of words, told by rungs. No program in sight. -/
import Derived.Test.YtkfhgjknmdlhbaaGreatDoorFs
namespace Go.Proofs.YtkfhgjknmdlhbaaGreatDoor.Fo
open Go Ieee Ft Fl Fs

theorem num_iff (k : FloatKind) (w : Nat) : (k.format.read w).isNaN = false ↔ rung k.format w ≤ k.format.infRung := by
  rw [isNaN_read _ (binade_le k), decide_eq_false_iff_not]
  unfold rung; omega
theorem fl_le {k : FloatKind} {w : Nat} (h : rung k.format w ≤ k.format.infRung) : fl k w = some w := fl_num ((num_iff k w).2 h)
theorem fl_gt {k : FloatKind} {w : Nat} (h : ¬ rung k.format w ≤ k.format.infRung) : fl k w = none := by
  refine fl_nan ?_
  have := mt (num_iff k w).1 h
  simpa using this
theorem le_of_fl {k : FloatKind} {w v : Nat} (h : fl k w = some v) : rung k.format w ≤ k.format.infRung := (num_iff k w).1 (fl_some h).2

theorem natAbs_signed (s : Bool) (m u : Nat) : (signed s m u).natAbs = m * 2 ^ u := by
  unfold signed; rw [Nat.shiftLeft_eq]
  split
  · rw [Int.natAbs_neg]; exact Int.natAbs_natCast _
  · exact Int.natAbs_natCast _

section ops
variable (f : Format) (hb : f.binade ≤ f.infRung)

theorem natAbs_mul_pow (a : Int) (c : Nat) : (a * (2 : Int) ^ c).natAbs = a.natAbs * 2 ^ c := by
  rw [Int.natAbs_mul, Int.natAbs_pow]; rfl
theorem mul_pow_eq_zero (a : Int) (c : Nat) : a * (2 : Int) ^ c = 0 ↔ a = 0 := by
  have : (2 : Int) ^ c ≠ 0 := by have := Int.pow_pos (n := 2) (m := c) (by omega); omega
  simp [Int.mul_eq_zero, this]
theorem mul_pow_neg (a : Int) (c : Nat) : a * (2 : Int) ^ c < 0 ↔ a < 0 := by
  have hp := Int.pow_pos (n := 2) (m := c) (by omega)
  generalize (2 : Int) ^ c = z at *
  constructor
  · intro h
    have : ¬ 0 ≤ a := fun h0 => by have := Int.mul_nonneg h0 (Int.le_of_lt hp); omega
    omega
  · intro h; exact Int.mul_neg_of_neg_of_pos h hp

/-- The sign of a sum. -/
def sumNeg (s t : Bool) (v : Int) : Bool := if v = 0 then s && t else v < 0

theorem write_sum (s t : Bool) (m n i j : Nat) : (Datum.sum (.number s m (f.leastPlace + (i : Nat))) (.number t n (f.leastPlace + (j : Nat)))).map f.write =
    some (f.word (sumNeg s t (signed s m i + signed t n j)) (rr f (signed s m i + signed t n j).natAbs 0)) := by
  simp only [Datum.sum, Option.map_some, Format.write, Option.some.injEq]
  have key : ∀ b : Nat, b ≤ i → b ≤ j → min (f.leastPlace + (i : Int)) (f.leastPlace + (j : Int)) = f.leastPlace + (b : Int) →
      signed s m (f.leastPlace + (i : Int) - (f.leastPlace + (b : Int))).toNat + signed t n (f.leastPlace + (j : Int) - (f.leastPlace + (b : Int))).toNat = signed s m (i - b) + signed t n (j - b) ∧
      (signed s m (i - b) + signed t n (j - b)) * (2 : Int) ^ b = signed s m i + signed t n j := by
    intro b h1 h2 _
    refine ⟨?_, ?_⟩
    · congr 2 <;> omega
    · rw [Int.add_mul, signed_eq, signed_eq]; congr 2 <;> omega
  have fin : ∀ b : Nat, b ≤ i → b ≤ j → min (f.leastPlace + (i : Int)) (f.leastPlace + (j : Int)) = f.leastPlace + (b : Int) → 
      f.nearest (if signed s m (f.leastPlace + (i : Int) - min (f.leastPlace + (i : Int)) (f.leastPlace + (j : Int))).toNat + signed t n (f.leastPlace + (j : Int) - min (f.leastPlace + (i : Int)) (f.leastPlace + (j : Int))).toNat = 0 then s && t
        else decide (signed s m (f.leastPlace + (i : Int) - min (f.leastPlace + (i : Int)) (f.leastPlace + (j : Int))).toNat + signed t n (f.leastPlace + (j : Int) - min (f.leastPlace + (i : Int)) (f.leastPlace + (j : Int))).toNat < 0))
        (signed s m (f.leastPlace + (i : Int) - min (f.leastPlace + (i : Int)) (f.leastPlace + (j : Int))).toNat + signed t n (f.leastPlace + (j : Int) - min (f.leastPlace + (i : Int)) (f.leastPlace + (j : Int))).toNat).natAbs
        (min (f.leastPlace + (i : Int)) (f.leastPlace + (j : Int))) = f.word (sumNeg s t (signed s m i + signed t n j)) (rr f (signed s m i + signed t n j).natAbs 0) := by
    intro b h1 h2 hm
    obtain ⟨e1, e2⟩ := key b h1 h2 hm
    rw [hm, e1]
    generalize signed s m (i - b) + signed t n (j - b) = v at *
    rw [nearest_rr f _ _ _ 0 b (by omega), ← e2, natAbs_mul_pow]
    unfold sumNeg
    simp only [mul_pow_eq_zero, mul_pow_neg]
  by_cases hij : i ≤ j
  · exact fin i (Nat.le_refl _) hij (by omega)
  · exact fin j (by omega) (Nat.le_refl _) (by omega)

include hb in
/-- THE SUM OF FINITE NUMBERS. -/
theorem add_fin {x y : Nat} (hx : rung f x < f.infRung) (hy : rung f y < f.infRung) :
    f.add x y = some (f.word (sumNeg (sgn f x) (sgn f y) (sv f x + sv f y)) (rr f (sv f x + sv f y).natAbs 0)) := by
  obtain ⟨m, i, hr, hm⟩ := read_fin f hb hx
  obtain ⟨n, j, hs, hn⟩ := read_fin f hb hy
  unfold Format.add
  rw [hr, hs, write_sum, signed_sv f hm, signed_sv f hn]

theorem signed_not (s : Bool) (m u : Nat) : signed (!s) m u = - signed s m u := by
  unfold signed; cases s <;> simp
include hb in
theorem sub_fin {x y : Nat} (hx : rung f x < f.infRung) (hy : rung f y < f.infRung) :
    f.sub x y = some (f.word (sumNeg (sgn f x) (!sgn f y) (sv f x - sv f y)) (rr f (sv f x - sv f y).natAbs 0)) := by
  obtain ⟨m, i, hr, hm⟩ := read_fin f hb hx
  obtain ⟨n, j, hs, hn⟩ := read_fin f hb hy
  unfold Format.sub
  rw [hr, hs]
  show (Datum.sum _ (Datum.number (!sgn f y) n _)).map f.write = _
  rw [write_sum, signed_not, signed_sv f hm, signed_sv f hn, ← Int.sub_eq_add_neg]

include hb in
/-- THE PRODUCT OF FINITE NUMBERS. -/
theorem mul_fin {x y D : Nat} (hD : f.leastPlace + (D : Int) = 0) (hx : rung f x < f.infRung) (hy : rung f y < f.infRung) :
    f.mul x y = some (f.word (sgn f x ^^ sgn f y) (rr f (mag f (rung f x) * mag f (rung f y)) D)) := by
  obtain ⟨m, i, hr, hm⟩ := read_fin f hb hx
  obtain ⟨n, j, hs, hn⟩ := read_fin f hb hy
  unfold Format.mul
  rw [hr, hs]
  simp only [Datum.product, Option.map_some, Format.write, Option.some.injEq]
  rw [nearest_rr f _ _ _ D (i + j) (by omega), ← hm, ← hn]
  congr 2
  rw [Nat.pow_add, Nat.mul_mul_mul_comm]
end ops

/-- float32 to float64. -/
theorem widen_fin {x : Nat} (hx : rung single x < single.infRung) : double.write (single.read x) = double.word (sgn single x) (rr double (mag single (rung single x) * 2 ^ 925) 0) := by
  obtain ⟨m, i, hr, hm⟩ := read_fin single (by decide) hx
  rw [hr]
  show double.nearest _ _ _ = _
  rw [nearest_rr double _ _ _ 0 (i + 925) (by show (-149 : Int) + i + 0 = -1074 + ((i + 925 : Nat) : Int); omega), ← hm, Nat.pow_add, ← Nat.mul_assoc]

theorem mag_inf (f : Format) (h : 2 ≤ 2 ^ f.exponentBits) : mag f f.infRung = 2 ^ (f.fractionBits + (2 ^ f.exponentBits - 2)) := by
  have hB := B_pos f
  have hi : f.infRung = (2 ^ f.exponentBits - 1) * f.binade := rfl
  have h1 : f.binade ≤ f.infRung := by rw [hi]; exact Nat.le_mul_of_pos_left _ (by omega)
  unfold mag
  rw [if_neg (by omega), hi, Nat.mul_mod_left, Nat.mul_div_cancel _ hB, Nat.add_zero, Nat.pow_add]
  rfl
theorem mag_inf_single : ∃ e, e = 277 ∧ mag single single.infRung = 2 ^ e := ⟨_, by decide, mag_inf single (by decide)⟩
theorem mag_inf_double : ∃ e, e = 2098 ∧ mag double double.infRung = 2 ^ e := ⟨_, by decide, mag_inf double (by decide)⟩

/-- Each finite float32's magnitude is one of a float64's. -/
theorem widen_rung {r : Nat} (hr : r < single.infRung) : ∃ s, s < double.infRung ∧ mag double s = mag single r * 2 ^ 925 := by
  obtain ⟨M, j, hM, hm⟩ := mag_form single r
  obtain ⟨s, hs⟩ := rung_exists double M (j + 925) (Nat.lt_of_lt_of_le hM (by decide))
  have hs' : mag double s = mag single r * 2 ^ 925 := by rw [hs, hm, Nat.pow_add, Nat.mul_assoc]
  refine ⟨s, ?_, hs'⟩
  by_cases h : s < double.infRung
  · exact h
  · exfalso
    have h1 := mag_le double (show double.infRung ≤ s by omega)
    have h2 := mag_lt single hr
    obtain ⟨e1, he1, h3⟩ := mag_inf_single
    obtain ⟨e2, he2, h4⟩ := mag_inf_double
    obtain ⟨c, hc⟩ : ∃ c, c = 925 := ⟨_, rfl⟩
    rw [← hc] at hs'
    rw [h4, hs'] at h1
    rw [h3] at h2
    have h5 : mag single r * 2 ^ c < 2 ^ e1 * 2 ^ c := Nat.mul_lt_mul_of_pos_right h2 (Nat.two_pow_pos _)
    rw [← Nat.pow_add] at h5
    have h6 : 2 ^ (e1 + c) ≤ 2 ^ e2 := Nat.pow_le_pow_right (by omega) (by omega)
    omega

theorem widen_word {x : Nat} (hx : rung single x < single.infRung) : ∃ s, s < double.infRung ∧ mag double s = mag single (rung single x) * 2 ^ 925 ∧ double.write (single.read x) = double.word (sgn single x) s := by
  obtain ⟨s, h1, h2⟩ := widen_rung hx
  refine ⟨s, h1, h2, ?_⟩
  rw [widen_fin hx, ← h2]
  have := rr_mag double s 0 (Nat.le_of_lt h1)
  rw [Nat.pow_zero, Nat.mul_one] at this
  rw [this]

/-- float64 to float32. -/
theorem narrow_fin {x : Nat} (hx : rung double x < double.infRung) : single.write (double.read x) = single.word (sgn double x) (rr single (mag double (rung double x)) 925) := by
  obtain ⟨m, i, hr, hm⟩ := read_fin double (by decide) hx
  rw [hr]
  show single.nearest _ _ _ = _
  rw [nearest_rr single _ _ _ 925 i (by show (-1074 : Int) + i + 925 = -149 + (i : Int); omega), ← hm]
/-- A float64 whose magnitude is a float32's narrows to it. -/
theorem narrow_back {x r : Nat} (hx : rung double x < double.infRung) (hr : r ≤ single.infRung) (h : mag double (rung double x) = mag single r * 2 ^ 925) :
    single.write (double.read x) = single.word (sgn double x) r := by
  rw [narrow_fin hx, h, rr_mag single r 925 hr]
end Go.Proofs.YtkfhgjknmdlhbaaGreatDoor.Fo
