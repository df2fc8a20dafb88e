/- Small whole numbers as words, halving and doubling, the logarithm. No program in sight. -/
import Derived.Test.YtkfhgjknmdlhbaaGreatDoorFz
namespace Go.Proofs.YtkfhgjknmdlhbaaGreatDoor.Fy
open Go Ieee Ft Fl Fs Fo Fw Fb Fm Ff Fz

/-- The word of a whole number. -/
def fi (n : Int) : Nat := floatOfInt .f64 n
theorem fi_word {n : Int} (h : n.natAbs ≤ 4503599627370496) : ∃ s, s < double.infRung ∧ mag double s = n.natAbs * 2 ^ 1074 ∧ fi n = double.word (n < 0) s := by
  obtain ⟨s, h1, h2, h3⟩ := ofInt_rung n.natAbs h
  exact ⟨s, h1, h2, h3 n rfl⟩
theorem fi_fl {n : Int} (h : n.natAbs ≤ 4503599627370496) : fl .f64 (fi n) = some (fi n) ∧ rung double (fi n) < double.infRung := by
  obtain ⟨s, h1, _, h3⟩ := fi_word h
  have hr : rung double (fi n) < double.infRung := by rw [h3, rung_word' double _ (Nat.le_of_lt h1)]; exact h1
  exact ⟨fl_const (Nat.le_of_lt hr), hr⟩
theorem fi_sv {n : Int} (h : n.natAbs ≤ 4503599627370496) : sv double (fi n) = n * 2 ^ 1074 ∧ sgn double (fi n) = decide (n < 0) := by
  obtain ⟨s, h1, h2, h3⟩ := fi_word h
  obtain ⟨C, hC⟩ : ∃ C, C = 1074 := ⟨_, rfl⟩
  rw [← hC] at h2 ⊢
  rw [h3, sv_word double _ (Nat.le_of_lt h1), sgn_word' double _ (Nat.le_of_lt h1), h2]
  refine ⟨?_, rfl⟩
  by_cases hn : n < 0
  · simp only [hn, decide_true, if_true]
    push_cast
    rw [← Int.neg_mul]; congr 1; omega
  · simp only [hn, decide_false, Bool.false_eq_true, if_false]
    push_cast
    congr 1; omega
theorem natAbs_pow (a : Int) (C : Nat) : (a * 2 ^ C).natAbs = a.natAbs * 2 ^ C := natAbs_mul_pow a C
theorem fi_add {a b : Int} (ha : a.natAbs ≤ 1125899906842624) (hb : b.natAbs ≤ 1125899906842624) : fop .add .f64 (some (fi a)) (some (fi b)) = some (fi (a + b)) := by
  have e : fop .add .f64 (some (fi a)) (some (fi b)) = double.add (fi a) (fi b) := rfl
  obtain ⟨sa, ga⟩ := fi_sv (n := a) (by omega)
  obtain ⟨sb, gb⟩ := fi_sv (n := b) (by omega)
  obtain ⟨s, h1, h2, h3⟩ := fi_word (n := a + b) (by omega)
  rw [e, add_fin double (by decide) (fi_fl (by omega)).2 (fi_fl (by omega)).2, sa, sb, ga, gb, h3]
  obtain ⟨C, hC⟩ : ∃ C, C = 1074 := ⟨_, rfl⟩
  rw [← hC] at h2 ⊢
  rw [← Int.add_mul, natAbs_pow, ← h2]
  have hr := rr_mag double s 0 (Nat.le_of_lt h1)
  rw [Nat.pow_zero, Nat.mul_one] at hr
  rw [hr]
  congr 2
  unfold sumNeg
  simp only [mul_pow_eq_zero, mul_pow_neg]
  by_cases h0 : a + b = 0
  · rw [if_pos h0]
    by_cases h4 : a < 0 <;> by_cases h5 : b < 0 <;> simp [h4, h5] <;> omega
  · rw [if_neg h0]
theorem fi_sub {a b : Int} (ha : a.natAbs ≤ 1125899906842624) (hb : b.natAbs ≤ 1125899906842624) (hz : ¬ (a < 0 ∧ b = a)) : fop .sub .f64 (some (fi a)) (some (fi b)) = some (fi (a - b)) := by
  have e : fop .sub .f64 (some (fi a)) (some (fi b)) = double.sub (fi a) (fi b) := rfl
  obtain ⟨sa, ga⟩ := fi_sv (n := a) (by omega)
  obtain ⟨sb, gb⟩ := fi_sv (n := b) (by omega)
  obtain ⟨s, h1, h2, h3⟩ := fi_word (n := a - b) (by omega)
  rw [e, sub_fin double (by decide) (fi_fl (by omega)).2 (fi_fl (by omega)).2, sa, sb, ga, gb, h3]
  obtain ⟨C, hC⟩ : ∃ C, C = 1074 := ⟨_, rfl⟩
  rw [← hC] at h2 ⊢
  rw [← Int.sub_mul, natAbs_pow, ← h2]
  have hr := rr_mag double s 0 (Nat.le_of_lt h1)
  rw [Nat.pow_zero, Nat.mul_one] at hr
  rw [hr]
  congr 2
  unfold sumNeg
  simp only [mul_pow_eq_zero, mul_pow_neg]
  by_cases h0 : a - b = 0
  · rw [if_pos h0]
    by_cases h4 : a < 0 <;> by_cases h5 : b < 0 <;> simp [h4, h5] <;> omega
  · rw [if_neg h0]

def two : Nat := 4611686018427387904
def BB : Nat := 4503599627370496
theorem mag_shift {r : Nat} (h : double.binade ≤ r) : mag double (r + double.binade) = 2 * mag double r := by
  have hB := B_pos double
  unfold mag
  rw [if_neg (by omega), if_neg (by omega), Nat.add_mod_right, Nat.add_div_right _ hB]
  have hq : 1 ≤ r / double.binade := (Nat.le_div_iff_mul_le hB).2 (by omega)
  rw [show (r / double.binade).succ - 1 = (r / double.binade - 1) + 1 by omega, Nat.pow_succ, ← Nat.mul_assoc, Nat.mul_comm]

theorem read_two : double.read two = .number false (2 ^ 52) (-51) := by decide +kernel
theorem mag_two : ∃ C, C = 1074 ∧ mag double (rung double two) = 2 ^ (1 + C) := ⟨1074, rfl, by
  have : rung double two = P2 1 := by decide +kernel
  rw [this, mag_P2]⟩

theorem read_digits {x m : Nat} {s : Bool} {i : Int} (h1 : double.binade ≤ x) (h2 : x < double.infRung) (hrx : rung double x = x) (hm0 : m ≠ 0) (hr : double.read x = .number s m i) : m.log2 ≤ 52 := by
  unfold Format.read at hr
  dsimp only at hr
  have hx1 : x % double.signWeight = x := hrx
  rw [hx1, if_neg (by omega), if_pos h2] at hr
  injection hr with _ hmm2 _
  have hb := B_pos double
  have := Nat.mod_lt x hb
  have h53 : 2 ^ (52 + 1) = 2 * double.binade := by rw [Nat.pow_succ, Nat.mul_comm]; rfl
  have hm53 : m < 2 ^ (52 + 1) := by rw [← hmm2, h53]; omega
  have := (Nat.log2_lt hm0).2 hm53
  omega
theorem word_false (f : Format) (r : Nat) : f.word false r = r := rfl
theorem pow52_ne : (2 : Nat) ^ 52 ≠ 0 := by have := Nat.two_pow_pos 52; omega
theorem quot_two {s : Bool} {m more : Nat} {i : Int} (hmo : 54 + 52 - m.log2 = more) (hml : m.log2 ≤ 52) :
    (Datum.number s m i).quotient 54 (.number false (2 ^ 52) (-51)) = some (.number s (2 * (m * 2 ^ (more - 52))) (i - -51 - (more : Int) - 1)) := by
  have hl : ((2 : Nat) ^ 52).log2 = 52 := Nat.log2_two_pow
  simp only [Datum.quotient, if_neg pow52_ne, Bool.xor_false, hl, hmo]
  generalize hp : (2 : Nat) ^ 52 = p
  have hpp : 0 < p := by rw [← hp]; exact Nat.two_pow_pos _
  have hD : m <<< more = (m * 2 ^ (more - 52)) * p := by
    rw [Nat.shiftLeft_eq, Nat.mul_assoc, ← hp, ← Nat.pow_add]; congr 2; omega
  rw [hD, Nat.mul_div_cancel _ hpp, Nat.mul_mod_left]
  have h00 : ((0 : Nat) != 0).toNat = 0 := rfl
  rw [h00, Nat.add_zero]

/-- Halving is exact where the number is not too small. -/
theorem half_exact {x : Nat} (h1 : 2 * BB ≤ x) (h2 : x < double.infRung) : fop .quo .f64 (some x) (some two) = some (x - BB) := by
  have hsw := double.infRung_lt
  have hrx : rung double x = x := Nat.mod_eq_of_lt (by omega)
  have hsx : sgn double x = false := by unfold sgn; rw [Nat.div_eq_of_lt (by omega)]; rfl
  have e : fop .quo .f64 (some x) (some two) = double.div x two := rfl
  rw [e]
  obtain ⟨m, a, hr, hm⟩ := read_fin double (by decide) (w := x) (by rw [hrx]; exact h2)
  rw [hrx] at hm
  have hm0 : m ≠ 0 := by
    rintro rfl
    rw [Nat.zero_mul] at hm
    have := mag_lt double (show 0 < x by unfold BB at h1; omega)
    rw [mag_zero] at this; omega
  have hml : m.log2 ≤ 52 := read_digits (by unfold BB at h1; rw [dB]; omega) h2 hrx hm0 hr
  obtain ⟨more, hmo⟩ : ∃ more, 54 + 52 - m.log2 = more := ⟨_, rfl⟩
  unfold Format.div
  have hfb : double.fractionBits + 2 = 54 := by decide
  rw [hr, read_two, hsx, hfb, quot_two hmo hml]
  simp only [Option.map_some, Format.write]
  rw [nearest_rr double _ _ _ (more - 50) a (by show double.leastPlace + (a : Int) - -51 - (more : Int) - 1 + ((more - 50 : Nat) : Int) = double.leastPlace + (a : Int); omega)]
  have e2 : 2 * (m * 2 ^ (more - 52)) * 2 ^ a = mag double x * 2 ^ (more - 51) := by
    rw [← hm, show more - 51 = (more - 52) + 1 by omega, Nat.pow_succ]
    simp only [Nat.mul_assoc, Nat.mul_comm, Nat.mul_left_comm]
  have hB : double.binade = BB := dB
  have e3 : mag double x = mag double (x - BB) * 2 := by
    have := mag_shift (r := x - BB) (by rw [hB]; omega)
    rw [hB, show x - BB + BB = x by omega] at this
    rw [this, Nat.mul_comm]
  rw [e2, show more - 50 = 1 + (more - 51) by omega, rr_scale, e3, show mag double (x - BB) * 2 = mag double (x - BB) * 2 ^ 1 by rw [Nat.pow_one], rr_mag double (x - BB) 1 (by omega), word_false]
/-- Doubling is exact. -/
theorem double_exact {x : Nat} (h1 : BB ≤ x) (h2 : x + BB < double.infRung) : fop .mul .f64 (some x) (some two) = some (x + BB) := by
  have hsw := double.infRung_lt
  have hrx : rung double x = x := Nat.mod_eq_of_lt (by omega)
  have hsx : sgn double x = false := by unfold sgn; rw [Nat.div_eq_of_lt (by omega)]; rfl
  have e : fop .mul .f64 (some x) (some two) = double.mul x two := rfl
  have h2r : rung double two < double.infRung := by decide +kernel
  have h2s : sgn double two = false := by decide +kernel
  rw [e, mul_fin double (by decide) (D := 1074) (by decide) (by rw [hrx]; omega) h2r, hsx, h2s, hrx]
  obtain ⟨C, hC, hm2⟩ := mag_two
  have hB : double.binade = BB := dB
  have hms := mag_shift (r := x) (by rw [hB]; exact h1)
  rw [hB] at hms
  rw [hm2, ← hC, Nat.pow_add, Nat.pow_one, ← Nat.mul_assoc, Nat.mul_comm (mag double x) 2, ← hms]
  rw [rr_mag double (x + BB) C (by omega)]
  exact congrArg some (word_false _ _)
end Go.Proofs.YtkfhgjknmdlhbaaGreatDoor.Fy
