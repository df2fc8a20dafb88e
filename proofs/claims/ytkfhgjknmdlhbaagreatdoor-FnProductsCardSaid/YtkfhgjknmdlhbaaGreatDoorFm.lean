/- Rough bounds: |x| is at most a power of two, through sums, products, quotients, roots; so a narrowing does not overflow. No program in sight. -/
import Derived.Test.YtkfhgjknmdlhbaaGreatDoorFw
namespace Go.Proofs.YtkfhgjknmdlhbaaGreatDoor.Fm
open Go Ieee Ft Fl Fs Fo Fw

/-- The rung of 2 ^ e. -/
def P2 (e : Nat) : Nat := (e + 1023) * double.binade
theorem dB : double.binade = 4503599627370496 := by decide
theorem mag_P2 (e : Nat) : mag double (P2 e) = 2 ^ (e + 1074) := by
  have hB := B_pos double
  unfold mag P2
  rw [if_neg (by have := Nat.le_mul_of_pos_left double.binade (show 0 < e + 1023 by omega); omega), Nat.mul_mod_left, Nat.mul_div_cancel _ hB, Nat.add_zero]
  have h : double.binade = 2 ^ 52 := rfl
  have hx : 52 + (e + 1023 - 1) = e + 1074 := by omega
  rw [h, ← Nat.pow_add, hx]
theorem P2_lt {e : Nat} (h : e ≤ 1000) : P2 e < double.infRung := by
  have : double.infRung = 2047 * 4503599627370496 := by decide
  unfold P2; rw [dB, this]
  exact Nat.mul_lt_mul_of_pos_right (by omega) (by omega)

/-- |o| is a number and at most 2 ^ e. -/
def Bd (e : Nat) (o : Option Nat) : Prop := ∃ b, o = some b ∧ rung double b ≤ P2 e ∧ fl .f64 b = some b
theorem Bd.fin {e : Nat} {b : Nat} (he : e ≤ 1000) (h : rung double b ≤ P2 e) : rung double b < double.infRung := Nat.lt_of_le_of_lt h (P2_lt he)
theorem Bd.mag_le {e b : Nat} (h : rung double b ≤ P2 e) : mag double (rung double b) ≤ 2 ^ (e + 1074) := by
  rw [← mag_P2]; exact Ft.mag_le double h
theorem P2_mono {i j : Nat} (h : i ≤ j) : P2 i ≤ P2 j := by unfold P2; exact Nat.mul_le_mul_right _ (by omega)
theorem Bd.mono {i j : Nat} {o : Option Nat} (h : i ≤ j) (hb : Bd i o) : Bd j o := by
  obtain ⟨b, h1, h2, h3⟩ := hb
  exact ⟨b, h1, Nat.le_trans h2 (P2_mono h), h3⟩
theorem Bd.num {e : Nat} {o : Option Nat} {r : Nat} (h : Bd e o) (hv : FV .f64 o r) : fl .f64 r = some r ∧ o = some r := by
  obtain ⟨b, h1, _, _⟩ := h
  have := hv.1
  rw [h1] at this
  have e := (fl_some this).1
  subst e
  exact ⟨this, h1⟩

theorem word_bd {neg : Bool} {r e : Nat} (he : e ≤ 1000) (h : r ≤ P2 e) : Bd e (some (double.word neg r)) := by
  have hi : r ≤ double.infRung := Nat.le_of_lt (Nat.lt_of_le_of_lt h (P2_lt he))
  refine ⟨_, rfl, ?_, ?_⟩
  · rw [rung_word' double neg hi]; exact h
  · exact fl_le (k := .f64) (by show rung double _ ≤ double.infRung; rw [rung_word' double neg hi]; exact hi)
theorem rr_P2 {n d e : Nat} (he : e ≤ 1000) (h : n ≤ 2 ^ (e + 1074 + d)) : rr double n d ≤ P2 e := by
  refine rr_le double (Nat.le_of_lt (P2_lt he)) ?_
  rw [mag_P2, ← Nat.pow_add]; exact h

theorem bd_mul {i j : Nat} {a b : Option Nat} (ha : Bd i a) (hb : Bd j b) (h : i + j ≤ 1000) : Bd (i + j) (fop .mul .f64 a b) := by
  obtain ⟨x, rfl, hx, _⟩ := ha
  obtain ⟨y, rfl, hy, _⟩ := hb
  have e : fop .mul .f64 (some x) (some y) = double.mul x y := rfl
  rw [e, mul_fin double (by decide) (D := 1074) (by decide) (Bd.fin (by omega) hx) (Bd.fin (by omega) hy)]
  refine word_bd h (rr_P2 h ?_)
  refine Nat.le_trans (Nat.mul_le_mul (Bd.mag_le hx) (Bd.mag_le hy)) ?_
  rw [← Nat.pow_add]; exact Nat.pow_le_pow_right (by omega) (by omega)

theorem natAbs_add_le (a b : Int) (k : Nat) (ha : a.natAbs ≤ k) (hb : b.natAbs ≤ k) : (a + b).natAbs ≤ 2 * k ∧ (a - b).natAbs ≤ 2 * k := by omega
theorem sv_le {e b : Nat} (h : rung double b ≤ P2 e) : (sv double b).natAbs ≤ 2 ^ (e + 1074) := by rw [natAbs_sv]; exact Bd.mag_le h

theorem bd_add {i : Nat} {a b : Option Nat} (ha : Bd i a) (hb : Bd i b) (h : i + 1 ≤ 1000) : Bd (i + 1) (fop .add .f64 a b) := by
  obtain ⟨x, rfl, hx, _⟩ := ha
  obtain ⟨y, rfl, hy, _⟩ := hb
  have e : fop .add .f64 (some x) (some y) = double.add x y := rfl
  rw [e, add_fin double (by decide) (Bd.fin (by omega) hx) (Bd.fin (by omega) hy)]
  refine word_bd h (rr_P2 h ?_)
  have := (natAbs_add_le _ _ _ (sv_le hx) (sv_le hy)).1
  rw [show i + 1 + 1074 + 0 = (i + 1074) + 1 by omega, Nat.pow_succ]; omega
theorem bd_sub {i : Nat} {a b : Option Nat} (ha : Bd i a) (hb : Bd i b) (h : i + 1 ≤ 1000) : Bd (i + 1) (fop .sub .f64 a b) := by
  obtain ⟨x, rfl, hx, _⟩ := ha
  obtain ⟨y, rfl, hy, _⟩ := hb
  have e : fop .sub .f64 (some x) (some y) = double.sub x y := rfl
  rw [e, sub_fin double (by decide) (Bd.fin (by omega) hx) (Bd.fin (by omega) hy)]
  refine word_bd h (rr_P2 h ?_)
  have := (natAbs_add_le _ _ _ (sv_le hx) (sv_le hy)).2
  rw [show i + 1 + 1074 + 0 = (i + 1074) + 1 by omega, Nat.pow_succ]; omega

/-- A quotient is at most 2 ^ E where the dividend is at most 2 ^ E times the divisor. -/
theorem bd_quo {E x y : Nat} (hE : E ≤ 1000) (hx : rung double x < double.infRung) (hy : rung double y < double.infRung) (hy0 : 0 < rung double y)
    (h : mag double (rung double x) ≤ 2 ^ E * mag double (rung double y)) : Bd E (fop .quo .f64 (some x) (some y)) := by
  have e : fop .quo .f64 (some x) (some y) = double.div x y := rfl
  rw [e]
  obtain ⟨m, a, hr, hm⟩ := read_fin double (by decide) hx
  obtain ⟨n, b, hs, hn⟩ := read_fin double (by decide) hy
  have hn0 : n ≠ 0 := by
    rintro rfl
    rw [Nat.zero_mul] at hn
    have := mag_lt double hy0
    rw [mag_zero] at this; omega
  unfold Format.div
  rw [hr, hs]
  simp only [Datum.quotient, if_neg hn0, Option.map_some, Format.write]
  generalize hmore : 52 + 2 + n.log2 - m.log2 = more
  have hmore' : double.fractionBits + 2 + n.log2 - m.log2 = more := hmore
  rw [hmore']
  rw [nearest_rr double _ _ _ (b + more + 1) (a + 1074) (by show double.leastPlace + (a : Int) - (double.leastPlace + (b : Int)) - (more : Int) - 1 + ((b + more + 1 : Nat) : Int) = -1074 + ((a + 1074 : Nat) : Int); omega)]
  refine word_bd hE (rr_P2 hE ?_)
  rw [Nat.shiftLeft_eq]
  rw [← hm, ← hn] at h
  generalize hD : m * 2 ^ more = D
  have hq : 2 * (D / n) + (D % n != 0).toNat ≤ 2 * (D / n) + 1 := by cases (D % n != 0) <;> simp
  have hda := Nat.div_add_mod D n
  have hDa : D * 2 ^ a ≤ 2 ^ (E + b + more) * n := by
    rw [← hD, Nat.mul_right_comm]
    have := Nat.mul_le_mul_right (2 ^ more) h
    refine Nat.le_trans this (Nat.le_of_eq ?_)
    rw [Nat.pow_add, Nat.pow_add]
    simp only [Nat.mul_assoc, Nat.mul_comm, Nat.mul_left_comm]
  generalize (1074 : Nat) = c
  have hpow : 2 ^ (E + c + (b + more + 1)) = 2 ^ (E + b + more) * 2 * 2 ^ c := by
    rw [← Nat.pow_succ, ← Nat.pow_add]; congr 1; omega
  rw [hpow, show (2 : Nat) ^ (a + c) = 2 ^ a * 2 ^ c from Nat.pow_add .., ← Nat.mul_assoc]
  refine Nat.mul_le_mul_right _ ?_
  by_cases ht : a ≤ E + b + more
  · generalize htt : E + b + more - a = t
    have e1 : 2 ^ (E + b + more) = 2 ^ t * 2 ^ a := by rw [← Nat.pow_add]; congr 1; omega
    rw [e1] at hDa ⊢
    have hD2 : D ≤ 2 ^ t * n := by
      have : D * 2 ^ a ≤ 2 ^ t * n * 2 ^ a := by rw [Nat.mul_right_comm]; exact hDa
      exact Nat.le_of_mul_le_mul_right this (Nat.two_pow_pos _)
    have hq2 : 2 * (D / n) + (D % n != 0).toNat ≤ 2 * 2 ^ t := by
      have hle : D / n ≤ 2 ^ t := Nat.div_le_of_le_mul (by rw [Nat.mul_comm]; exact hD2)
      by_cases heq : D / n = 2 ^ t
      · have : D % n = 0 := by rw [heq, Nat.mul_comm] at hda; omega
        rw [this, heq]; simp
      · omega
    have := Nat.mul_le_mul_right (2 ^ a) hq2
    refine Nat.le_trans this (Nat.le_of_eq ?_)
    simp only [Nat.mul_comm, Nat.mul_left_comm]
  · have hD0 : D = 0 ∨ n ≤ D := by
      by_cases hm0 : m = 0
      · left; rw [← hD, hm0, Nat.zero_mul]
      · right
        have h1 := Nat.log2_self_le hm0
        have h2 : n < 2 ^ (n.log2 + 1) := Nat.lt_log2_self
        have h3 : 2 ^ m.log2 * 2 ^ more ≤ D := by rw [← hD]; exact Nat.mul_le_mul_right _ h1
        rw [← Nat.pow_add] at h3
        have h4 : 2 ^ (n.log2 + 1) ≤ 2 ^ (m.log2 + more) := Nat.pow_le_pow_right (by omega) (by omega)
        omega
    rcases hD0 with h0 | h0
    · rw [h0]; simp
    · exfalso
      have h5 : 2 ^ (E + b + more) * 2 ≤ 2 ^ a := by rw [← Nat.pow_succ]; exact Nat.pow_le_pow_right (by omega) (by omega)
      have hp := Nat.two_pow_pos (E + b + more)
      have h6 : n * (2 ^ (E + b + more) * 2) ≤ D * 2 ^ a := Nat.mul_le_mul h0 h5
      have h7 : n * (2 ^ (E + b + more) * 2) = 2 ^ (E + b + more) * n + 2 ^ (E + b + more) * n := by
        rw [Nat.mul_two, Nat.mul_add, Nat.mul_comm n]
      have h8 : 0 < 2 ^ (E + b + more) * n := Nat.mul_pos hp (by omega)
      omega

/-- A divisor of at least 1 keeps the bound. -/
theorem bd_div {i : Nat} {a : Option Nat} {y : Nat} (ha : Bd i a) (hi : i ≤ 1000) (hy : rung double y < double.infRung) (h1 : P2 0 ≤ rung double y) : Bd i (fop .quo .f64 a (some y)) := by
  obtain ⟨x, rfl, hx, _⟩ := ha
  have h2 := Ft.mag_le double h1
  rw [mag_P2] at h2
  have h0 : 0 < P2 0 := by decide
  refine bd_quo hi (Bd.fin hi hx) hy (by omega) ?_
  refine Nat.le_trans (Bd.mag_le hx) ?_
  have key : ∀ c M : Nat, 2 ^ (0 + c) ≤ M → 2 ^ (i + c) ≤ 2 ^ i * M := by
    intro c M h; rw [Nat.pow_add]; rw [Nat.zero_add] at h; exact Nat.mul_le_mul_left _ h
  exact key 1074 _ h2

theorem isInf_lt {s : Nat} (neg : Bool) (h : s < single.infRung) : (single.read (single.word neg s)).isInfinity = false := isInf_word single (by decide) neg h
theorem mag_127 : ∃ c, c = 925 ∧ mag double (P2 127) = mag single 2130706432 * 2 ^ c := by
  obtain ⟨c, hc⟩ : ∃ c, c = 925 := ⟨_, rfl⟩
  obtain ⟨q, hq⟩ : ∃ q, q = 254 := ⟨_, rfl⟩
  obtain ⟨e, he⟩ : ∃ e, e = 127 := ⟨_, rfl⟩
  refine ⟨c, hc, ?_⟩
  rw [← he, mag_P2]
  have h : mag single 2130706432 = 2 ^ (23 + (q - 1)) := by
    unfold mag
    rw [if_neg (by decide)]
    have h1 : 2130706432 / single.binade = 254 := by decide
    have h2 : 2130706432 % single.binade = 0 := by decide
    have h3 : single.binade = 2 ^ 23 := rfl
    rw [h1, h2, ← hq, Nat.add_zero, h3, ← Nat.pow_add]
  rw [h, ← Nat.pow_add]
  congr 1; omega
/-- NO OVERFLOW. -/
theorem bd_over {o : Option Nat} (h : Bd 127 o) : over .f64 .f32 o = false := by
  obtain ⟨b, rfl, hb, _⟩ := h
  have hf := Bd.fin (by omega) hb
  unfold over
  show (match double.read b with | .number sg m e => (single.read (single.write (.number sg m e))).isInfinity | _ => false) = false
  obtain ⟨m, i, hr, hm⟩ := read_fin double (by decide) hf
  have hn := narrow_fin hf
  rw [hr] at hn ⊢
  dsimp only
  rw [hn]
  refine isInf_lt _ ?_
  obtain ⟨c, hc, h127⟩ := mag_127
  have h1 := Ft.mag_le double hb
  rw [h127] at h1
  have h2 : rr single (mag double (rung double b)) c ≤ 2130706432 := rr_le single (by decide) h1
  rw [← hc]
  exact Nat.lt_of_le_of_lt h2 (by decide)
/-- Two narrowings of one bounded number read the same. -/
theorem narrow_same {o : Option Nat} {r s : Nat} (h : Bd 127 o) (h1 : FC .f64 .f32 o r) (h2 : FC .f64 .f32 o s) : fl .f32 r = fl .f32 s :=
  (h1.1 (bd_over h)).trans (h2.1 (bd_over h)).symm
theorem narrow_none {r s : Nat} (h1 : FC .f64 .f32 none r) (h2 : FC .f64 .f32 none s) : fl .f32 r = fl .f32 s :=
  (h1.1 rfl).trans (h2.1 rfl).symm
end Go.Proofs.YtkfhgjknmdlhbaaGreatDoor.Fm
