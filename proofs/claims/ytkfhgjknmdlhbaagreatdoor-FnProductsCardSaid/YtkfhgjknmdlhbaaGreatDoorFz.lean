/- The fraction of a number of turns; the sine as a function of what words read as. No program in sight. -/
import Derived.Test.YtkfhgjknmdlhbaaGreatDoorFf
namespace Go.Proofs.YtkfhgjknmdlhbaaGreatDoor.Fz
open Go Ieee Ft Fl Fs Fo Fw Fb Fm Ff

def one : Nat := 4607182418800017408
def half : Nat := 4602678819172646912
def quarter : Nat := 4598175219545276416
def tau : Nat := 4618760256179416344
def geO (o : Option Nat) (c : Nat) : Bool := fcmp .f64 o (some c) == some .gt || fcmp .f64 o (some c) == some .eq
def gtO (o : Option Nat) (c : Nat) : Bool := fcmp .f64 o (some c) == some .gt
def fneg (o : Option Nat) : Option Nat := o.map fun b => b ^^^ 9223372036854775808

theorem fl_const {c : Nat} (h : rung double c ≤ double.infRung) : fl .f64 c = some c := fl_le (k := .f64) h
theorem fl_one : fl .f64 one = some one := rfl

/-- float64 of a small whole number is exact. -/
theorem ofInt_rung (T : Nat) (h : T ≤ 4503599627370496) : ∃ s, s < double.infRung ∧ mag double s = T * 2 ^ 1074 ∧ ∀ n : Int, n.natAbs = T → floatOfInt .f64 n = double.word (n < 0) s := by
  obtain ⟨C, hC⟩ : ∃ C, C = 1074 := ⟨_, rfl⟩
  rw [← hC]
  obtain ⟨s, hs⟩ := rung_exists double T C (by rw [dB]; omega)
  have hlt : s < double.infRung := by
    by_cases hlt : s < double.infRung
    · exact hlt
    · exfalso
      have h1 := Ft.mag_lt double (show P2 52 < s by have := P2_lt (show 52 ≤ 1000 by omega); omega)
      rw [mag_P2, hs] at h1
      have h2 : T * 2 ^ C ≤ 2 ^ 52 * 2 ^ C := Nat.mul_le_mul_right _ h
      rw [← Nat.pow_add, hC] at h2
      rw [hC] at h1
      omega
  refine ⟨s, hlt, hs, ?_⟩
  intro n hn
  show double.write (.number (n < 0) n.natAbs 0) = _
  simp only [Format.write]
  rw [nearest_rr double _ _ _ 0 C (by rw [hC]; decide), hn, ← hs]
  have := rr_mag double s 0 (Nat.le_of_lt hlt)
  rw [Nat.pow_zero, Nat.mul_one] at this
  rw [this]

/-- The whole part. -/
theorem trunc_of {x : Nat} (h : rung double x ≤ P2 52) : ∃ T : Nat, T ≤ 4503599627370496 ∧ floatToIntVal .f64 x .i64 = some (if sgn double x then -(T : Int) else (T : Int)) ∧ T * 2 ^ 1074 ≤ mag double (rung double x) ∧ mag double (rung double x) < (T + 1) * 2 ^ 1074 := by
  have hf := Bd.fin (show 52 ≤ 1000 by omega) h
  obtain ⟨m, a, hr, hm⟩ := read_fin double (by decide) hf
  have hmag := Bd.mag_le h
  rw [← hm] at hmag ⊢
  obtain ⟨C, hC⟩ : ∃ C, C = 1074 := ⟨_, rfl⟩
  rw [← hC] at hmag ⊢
  have hl : double.leastPlace = -1074 := by decide
  -- the cut
  generalize hT : Toward.zero.cut (sgn double x) (m <<< (double.leastPlace + (a : Int)).toNat) (-(double.leastPlace + (a : Int))).toNat = T
  have hbounds : T * 2 ^ C ≤ m * 2 ^ a ∧ m * 2 ^ a < (T + 1) * 2 ^ C := by
    rw [← hT]
    unfold Toward.cut
    simp only [Nat.one_shiftLeft, Bool.toNat_false, Nat.add_zero]
    by_cases ha : C ≤ a
    · have e1 : (double.leastPlace + (a : Int)).toNat = a - C := by omega
      have e2 : (-(double.leastPlace + (a : Int))).toNat = 0 := by omega
      rw [e1, e2, Nat.zero_min, Nat.pow_zero, Nat.div_one, Nat.shiftLeft_eq, Nat.mul_assoc, ← Nat.pow_add, show a - C + C = a by omega]
      have hp := Nat.two_pow_pos C
      refine ⟨Nat.le_refl _, ?_⟩
      have e3 : (m * 2 ^ (a - C) + 1) * 2 ^ C = m * 2 ^ a + 2 ^ C := by
        rw [Nat.add_mul, Nat.mul_assoc, ← Nat.pow_add, show a - C + C = a by omega, Nat.one_mul]
      omega
    · have e1 : (double.leastPlace + (a : Int)).toNat = 0 := by omega
      have e2 : (-(double.leastPlace + (a : Int))).toNat = C - a := by omega
      rw [e1, e2, Nat.shiftLeft_zero]
      have hdiv : m / 2 ^ min (C - a) (m.log2 + 2) = m / 2 ^ (C - a) := by
        by_cases hle : C - a ≤ m.log2 + 2
        · rw [Nat.min_eq_left hle]
        · rw [Nat.min_eq_right (by omega)]
          have h1 : m < 2 ^ (m.log2 + 1) := Nat.lt_log2_self
          have h2 : 2 ^ (m.log2 + 1) ≤ 2 ^ (m.log2 + 2) := Nat.pow_le_pow_right (by omega) (by omega)
          have h3 : 2 ^ (m.log2 + 2) ≤ 2 ^ (C - a) := Nat.pow_le_pow_right (by omega) (by omega)
          rw [Nat.div_eq_of_lt (by omega), Nat.div_eq_of_lt (by omega)]
      rw [hdiv]
      have hp := Nat.two_pow_pos (C - a)
      have hda := Nat.div_add_mod m (2 ^ (C - a))
      have hmo := Nat.mod_lt m hp
      have hC2 : 2 ^ C = 2 ^ (C - a) * 2 ^ a := by rw [← Nat.pow_add]; congr 1; omega
      rw [hC2]
      constructor
      · rw [← Nat.mul_assoc]
        refine Nat.mul_le_mul_right _ ?_
        rw [Nat.mul_comm]; omega
      · rw [← Nat.mul_assoc]
        refine Nat.mul_lt_mul_of_pos_right ?_ (Nat.two_pow_pos a)
        rw [Nat.add_mul, Nat.mul_comm, Nat.one_mul]; omega
  have hTle : T ≤ 4503599627370496 := by
    have h1 := Nat.le_trans hbounds.1 hmag
    rw [Nat.pow_add] at h1
    have := Nat.le_of_mul_le_mul_right h1 (Nat.two_pow_pos C)
    exact this
  refine ⟨T, hTle, ?_, hbounds.1, hbounds.2⟩
  unfold floatToIntVal
  have hint : (FloatKind.f64.decode x).toInt .zero = some (if sgn double x then -(T : Int) else (T : Int)) := by
    show (double.read x).toInt .zero = _
    rw [hr]
    simp only [Datum.toInt, Datum.integral, hT, signed, Nat.shiftLeft_zero]
  rw [hint]
  dsimp only
  have hmin : IntKind.i64.min = -9223372036854775808 := by decide
  have hmax : IntKind.i64.max = 9223372036854775807 := by decide
  rw [hmin, hmax, if_pos (by split <;> omega)]

/-- What is left behind the point is at most 1. -/
theorem frac_bd {x : Nat} {n : Int} (h : rung double x ≤ P2 52) (hn : floatToIntVal .f64 x .i64 = some n) : Bd 0 (fop .sub .f64 (fl .f64 x) (fl .f64 (floatOfInt .f64 n))) := by
  have hf := Bd.fin (show 52 ≤ 1000 by omega) h
  obtain ⟨T, hT, he, hlo, hhi⟩ := trunc_of h
  rw [hn] at he
  have hn' : n = if sgn double x then -(T : Int) else (T : Int) := by simpa using he
  have hab : n.natAbs = T := by rw [hn']; split <;> simp
  obtain ⟨s, hs1, hs2, hs3⟩ := ofInt_rung T hT
  have hw := hs3 n hab
  rw [hw, fl_le (k := .f64) (show rung double x ≤ double.infRung from Nat.le_of_lt hf), fl_le (k := .f64) (by show rung double _ ≤ double.infRung; rw [rung_word' double _ (Nat.le_of_lt hs1)]; exact Nat.le_of_lt hs1)]
  have e : fop .sub .f64 (some x) (some (double.word (n < 0) s)) = double.sub x (double.word (n < 0) s) := rfl
  rw [e, sub_fin double (by decide) hf (by rw [rung_word' double _ (Nat.le_of_lt hs1)]; exact hs1)]
  refine word_bd (by omega) (rr_P2 (by omega) ?_)
  rw [sv_word double _ (Nat.le_of_lt hs1), hs2]
  unfold sv
  obtain ⟨C, hC⟩ : ∃ C, C = 1074 := ⟨_, rfl⟩
  rw [← hC] at hlo hhi ⊢
  rw [show 0 + C + 0 = C by omega]
  have e3 : (T + 1) * 2 ^ C = T * 2 ^ C + 2 ^ C := by rw [Nat.add_mul, Nat.one_mul]
  rw [e3] at hhi
  have hT0 : T = 0 → T * 2 ^ C = 0 := by rintro rfl; exact Nat.zero_mul _
  generalize T * 2 ^ C = Y at *
  generalize mag double (rung double x) = M at *
  generalize 2 ^ C = Z at *
  cases hsx : sgn double x
  · rw [hsx] at hn'
    simp only [Bool.false_eq_true, if_false] at hn'
    have : ¬ n < 0 := by omega
    simp only [this, decide_false, Bool.false_eq_true, if_false]
    omega
  · rw [hsx] at hn'
    simp only [if_true] at hn'
    by_cases hz : n < 0
    · simp only [hz, decide_true, if_true]; omega
    · have h0 := hT0 (by omega)
      simp only [hz, decide_false, Bool.false_eq_true, if_false, if_true]; omega

/-- The polynomial. -/
def den (j : Nat) : Nat := floatOfInt .f64 (2 * (8 - (j : Int)) * (2 * (8 - (j : Int)) + 1))
def pV (u : Option Nat) : Nat → Option Nat
  | 0 => some one
  | j + 1 => fop .sub .f64 (some one) (fop .quo .f64 (fop .mul .f64 u (pV u j)) (some (den j)))
def foldV (f : Option Nat) : Option Nat :=
  if gtO (if geO f half then fop .sub .f64 f (some half) else f) quarter then fop .sub .f64 (some half) (if geO f half then fop .sub .f64 f (some half) else f)
  else (if geO f half then fop .sub .f64 f (some half) else f)
def zV (f : Option Nat) : Option Nat := fop .mul .f64 (foldV f) (some tau)
def sinV (f : Option Nat) : Option Nat :=
  if geO f half then fneg (fop .mul .f64 (zV f) (pV (fop .mul .f64 (zV f) (zV f)) 8)) else fop .mul .f64 (zV f) (pV (fop .mul .f64 (zV f) (zV f)) 8)

theorem bd_c {c e : Nat} (h : rung double c ≤ P2 e) (h2 : rung double c ≤ double.infRung) : Bd e (some c) := ⟨c, rfl, h, fl_const h2⟩
theorem den_ok : ∀ j < 8, rung double (den j) < double.infRung ∧ P2 0 ≤ rung double (den j) := by decide +kernel
theorem bd_p {u : Option Nat} (hu : Bd 12 u) : ∀ j ≤ 8, Bd (13 * j) (pV u j) := by
  intro j
  induction j with
  | zero => intro _; exact bd_c (by decide) (by decide)
  | succ j ih =>
    intro hj
    have h1 := bd_mul hu (ih (by omega)) (by omega)
    have hd := den_ok j (by omega)
    have h2 := bd_div h1 (by omega) hd.1 hd.2
    have h3 := bd_sub (bd_c (c := one) (e := 12 + 13 * j) (Nat.le_trans (show rung double one ≤ P2 0 by decide) (P2_mono (by omega))) (by decide)) h2 (by omega)
    exact h3.mono (by omega)
theorem bd_neg {e : Nat} {o : Option Nat} (h : Bd e o) (hw : ∀ b, o = some b → b < 18446744073709551616) : Bd e (fneg o) := by
  obtain ⟨b, rfl, h1, h2⟩ := h
  have hb := hw b rfl
  have hr : rung double (b ^^^ 9223372036854775808) = rung double b := by
    unfold rung
    have hsw : double.signWeight = 2 ^ 63 := by decide
    rw [hsw, Nat.xor_mod_two_pow]
    simp
  refine ⟨_, rfl, by rw [hr]; exact h1, fl_const ?_⟩
  rw [hr]; exact le_of_fl h2
theorem fop_lt {op : BinOp} {a b : Option Nat} {r : Nat} (h : fop op .f64 a b = some r) : r < 18446744073709551616 := by
  unfold fop at h
  cases a with
  | none => cases h
  | some x =>
    cases b with
    | none => cases h
    | some y =>
      have := floatBits_wf (show floatBits op .f64 x y = some r from h)
      exact of_decide_eq_true this
theorem bd_fold {f : Option Nat} (h : Bd 1 f) : Bd 3 (foldV f) := by
  have hh : Bd 1 (some half) := bd_c (by decide) (by decide)
  have h1 : Bd 2 (if geO f half then fop .sub .f64 f (some half) else f) := by
    split
    · exact bd_sub h hh (by omega)
    · exact h.mono (by omega)
  unfold foldV
  generalize (if geO f half then fop .sub .f64 f (some half) else f) = g at h1 ⊢
  by_cases hq : gtO g quarter = true
  · rw [if_pos hq]; exact bd_sub (hh.mono (by omega)) h1 (by omega)
  · rw [if_neg hq]; exact h1.mono (by omega)
theorem bd_tau : Bd 3 (some tau) := bd_c (by decide +kernel) (by decide +kernel)
theorem bd_sin {f : Option Nat} (h : Bd 1 f) : Bd 127 (sinV f) := by
  have hz : Bd (3 + 3) (zV f) := bd_mul (bd_fold h) bd_tau (by omega)
  have hu := bd_mul hz hz (by omega)
  have hp := bd_p hu 8 (by omega)
  have hs := bd_mul hz hp (by omega)
  have hs' := hs.mono (show 3 + 3 + 13 * 8 ≤ 127 by omega)
  unfold sinV
  split
  · exact bd_neg hs' fun b hb => fop_lt hb
  · exact hs'
end Go.Proofs.YtkfhgjknmdlhbaaGreatDoor.Fz
