/- Whole numbers as words of both kinds: sums, products, quotients, widening and narrowing are exact. No program in sight. -/
import Derived.Test.YtkfhgjknmdlhbaaGreatDoorFy
namespace Go.Proofs.YtkfhgjknmdlhbaaGreatDoor.Gp
open Go Ieee Ft Fl Fs Fo Fw Fb Fm Ff Fz Fy
set_option linter.unusedVariables false
/-- The finite word r of format f, whose unit is 2 ^ -D, is the whole number n. -/
def IsI (f : Format) (D : Nat) (n : Int) (r : Nat) : Prop := rung f r < f.infRung ∧ sv f r = n * 2 ^ D
theorem pow_pos_int (D : Nat) : (0 : Int) < 2 ^ D := by
  have := Nat.two_pow_pos D
  have e : ((2 ^ D : Nat) : Int) = (2 : Int) ^ D := by push_cast; rfl
  omega
theorem IsI.mag {f : Format} {D : Nat} {n : Int} {r : Nat} (h : IsI f D n r) : mag f (rung f r) = n.natAbs * 2 ^ D := by
  rw [← natAbs_sv, h.2, natAbs_mul_pow]
theorem mag_pos_of {f : Format} {s T D : Nat} (h : mag f s = T * 2 ^ D) (hT : T ≠ 0) : 0 < mag f s := by
  rw [h]; exact Nat.mul_pos (by omega) (Nat.two_pow_pos _)
theorem IsI.sgn {f : Format} {D : Nat} {n : Int} {r : Nat} (h : IsI f D n r) (hn : n ≠ 0) : Fs.sgn f r = decide (n < 0) := by
  have hp := pow_pos_int D
  have h2 := h.2
  unfold sv at h2
  have hm := h.mag
  cases hs : Fs.sgn f r
  · rw [hs] at h2
    simp only [Bool.false_eq_true, if_false] at h2
    symm; rw [decide_eq_false_iff_not]
    intro hlt
    have := Int.mul_neg_of_neg_of_pos hlt hp
    omega
  · rw [hs] at h2
    simp only [if_true] at h2
    symm; rw [decide_eq_true_iff]
    by_cases hlt : n < 0
    · exact hlt
    · exfalso
      have h3 : 0 < n := by omega
      have := Int.mul_pos h3 hp
      omega
/-- A word of that magnitude, with that sign unless it is nought, is the number. -/
theorem isI_word {f : Format} {D : Nat} {n : Int} {s : Nat} {neg : Bool} (hs : s < f.infRung) (hm : mag f s = n.natAbs * 2 ^ D) (hneg : n ≠ 0 → neg = decide (n < 0)) : IsI f D n (f.word neg s) := by
  refine ⟨by rw [rung_word' f neg (Nat.le_of_lt hs)]; exact hs, ?_⟩
  rw [sv_word f neg (Nat.le_of_lt hs), hm]
  by_cases hn : n = 0
  · subst hn
    simp
  · rw [hneg hn]
    by_cases hlt : n < 0
    · simp only [hlt, decide_true, if_true]
      push_cast
      rw [← Int.neg_mul]; congr 1; omega
    · simp only [hlt, decide_false, Bool.false_eq_true, if_false]
      push_cast
      congr 1; omega
section
variable (f : Format) (hb : f.binade ≤ f.infRung) {D : Nat} (hD : f.leastPlace + (D : Int) = 0)
include hb in
theorem add_isI {m n : Int} {x y s : Nat} (hx : IsI f D m x) (hy : IsI f D n y) (hs : s < f.infRung) (hm : mag f s = (m + n).natAbs * 2 ^ D) : ∃ r, f.add x y = some r ∧ IsI f D (m + n) r := by
  refine ⟨_, add_fin f hb hx.1 hy.1, ?_⟩
  rw [hx.2, hy.2, ← Int.add_mul, natAbs_mul_pow, ← hm]
  have hr := rr_mag f s 0 (Nat.le_of_lt hs)
  rw [Nat.pow_zero, Nat.mul_one] at hr
  rw [hr]
  refine isI_word hs hm ?_
  intro h0
  unfold sumNeg
  simp only [mul_pow_eq_zero, mul_pow_neg]
  rw [if_neg h0]
include hb in
theorem sub_isI {m n : Int} {x y s : Nat} (hx : IsI f D m x) (hy : IsI f D n y) (hs : s < f.infRung) (hm : mag f s = (m - n).natAbs * 2 ^ D) : ∃ r, f.sub x y = some r ∧ IsI f D (m - n) r := by
  refine ⟨_, sub_fin f hb hx.1 hy.1, ?_⟩
  rw [hx.2, hy.2, ← Int.sub_mul, natAbs_mul_pow, ← hm]
  have hr := rr_mag f s 0 (Nat.le_of_lt hs)
  rw [Nat.pow_zero, Nat.mul_one] at hr
  rw [hr]
  refine isI_word hs hm ?_
  intro h0
  unfold sumNeg
  simp only [mul_pow_eq_zero, mul_pow_neg]
  rw [if_neg h0]
theorem sign_mul {m n : Int} (h : m * n ≠ 0) : (decide (m < 0) ^^ decide (n < 0)) = decide (m * n < 0) := by
  have hm : m ≠ 0 := by rintro rfl; simp at h
  have hn : n ≠ 0 := by rintro rfl; simp at h
  rcases Int.lt_or_lt_of_ne hm with h1 | h1 <;> rcases Int.lt_or_lt_of_ne hn with h2 | h2
  · have := Int.mul_pos_of_neg_of_neg h1 h2
    simp [h1, h2]; omega
  · have := Int.mul_neg_of_neg_of_pos h1 h2
    have h3 : ¬ n < 0 := by omega
    simp [h1, h3, this]
  · have := Int.mul_neg_of_pos_of_neg h1 h2
    have h3 : ¬ m < 0 := by omega
    simp [h2, h3, this]
  · have := Int.mul_pos h1 h2
    have h3 : ¬ m < 0 := by omega
    have h4 : ¬ n < 0 := by omega
    have h5 : ¬ m * n < 0 := by omega
    simp [h3, h4, h5]
include hb hD in
theorem mul_isI {m n : Int} {x y s : Nat} (hx : IsI f D m x) (hy : IsI f D n y) (hs : s < f.infRung) (hm : mag f s = (m * n).natAbs * 2 ^ D) : ∃ r, f.mul x y = some r ∧ IsI f D (m * n) r := by
  refine ⟨_, mul_fin f hb hD hx.1 hy.1, ?_⟩
  have e : Ft.mag f (rung f x) * Ft.mag f (rung f y) = Ft.mag f s * 2 ^ D := by
    rw [hx.mag, hy.mag, hm, Int.natAbs_mul, Nat.mul_mul_mul_comm, Nat.mul_assoc (m.natAbs * n.natAbs)]
  rw [e, rr_mag f s D (Nat.le_of_lt hs)]
  refine isI_word hs hm ?_
  intro h0
  have h1 : m ≠ 0 := by rintro rfl; simp at h0
  have h2 : n ≠ 0 := by rintro rfl; simp at h0
  rw [hx.sgn h1, hy.sgn h2]
  exact sign_mul h0
end
/-! Which whole numbers have words. -/
theorem dbl_rung {T : Nat} (h : T ≤ 4503599627370496) : ∃ s, s < double.infRung ∧ Ft.mag double s = T * 2 ^ 1074 := by
  obtain ⟨s, h1, h2, _⟩ := ofInt_rung T h
  exact ⟨s, h1, h2⟩
theorem sB : single.binade = 8388608 := by decide
theorem sgl_rung {T : Nat} (h : T ≤ 16777215) : ∃ s, s < single.infRung ∧ Ft.mag single s = T * 2 ^ 149 := by
  obtain ⟨C, hC⟩ : ∃ C, C = 149 := ⟨_, rfl⟩
  rw [← hC]
  obtain ⟨s, hs⟩ := rung_exists single T C (by rw [sB]; omega)
  refine ⟨s, ?_, hs⟩
  by_cases hlt : s < single.infRung
  · exact hlt
  · exfalso
    obtain ⟨e, he, hi⟩ := mag_inf_single
    have h1 := Ft.mag_le single (show single.infRung ≤ s by omega)
    rw [hi, hs] at h1
    have h2 : T * 2 ^ C < 2 ^ 24 * 2 ^ C := Nat.mul_lt_mul_of_pos_right (by omega) (Nat.two_pow_pos C)
    rw [← Nat.pow_add] at h2
    have h3 : 2 ^ (24 + C) ≤ 2 ^ e := Nat.pow_le_pow_right (by omega) (by omega)
    omega
/-! Double precision, as what words read as. -/
def ID (n : Int) (o : Option Nat) : Prop := ∃ r, o = some r ∧ IsI double 1074 n r
theorem ID.fl {n : Int} {o : Option Nat} {r : Nat} (h : ID n o) (hr : FV .f64 o r) : IsI double 1074 n r := by
  obtain ⟨x, rfl, hx⟩ := h
  rw [← (fl_some hr.1).1]; exact hx
theorem IsI.fl64 {n : Int} {r : Nat} (h : IsI double 1074 n r) : Fl.fl .f64 r = some r := fl_le (k := .f64) (Nat.le_of_lt h.1)
theorem id_of {n : Int} {r : Nat} (h : IsI double 1074 n r) : ID n (Fl.fl .f64 r) := ⟨r, h.fl64, h⟩
theorem id_fi {n : Int} (h : n.natAbs ≤ 4503599627370496) : ID n (some (fi n)) := ⟨_, rfl, (fi_fl h).2, (fi_sv h).1⟩
theorem id_add {m n : Int} {a b : Option Nat} (ha : ID m a) (hb : ID n b) (h : (m + n).natAbs ≤ 4503599627370496) : ID (m + n) (fop .add .f64 a b) := by
  obtain ⟨x, rfl, hx⟩ := ha
  obtain ⟨y, rfl, hy⟩ := hb
  obtain ⟨s, h1, h2⟩ := dbl_rung h
  exact add_isI double (by decide) hx hy h1 h2
theorem id_sub {m n : Int} {a b : Option Nat} (ha : ID m a) (hb : ID n b) (h : (m - n).natAbs ≤ 4503599627370496) : ID (m - n) (fop .sub .f64 a b) := by
  obtain ⟨x, rfl, hx⟩ := ha
  obtain ⟨y, rfl, hy⟩ := hb
  obtain ⟨s, h1, h2⟩ := dbl_rung h
  exact sub_isI double (by decide) hx hy h1 h2
theorem id_mul {m n : Int} {a b : Option Nat} (ha : ID m a) (hb : ID n b) (h : (m * n).natAbs ≤ 4503599627370496) : ID (m * n) (fop .mul .f64 a b) := by
  obtain ⟨x, rfl, hx⟩ := ha
  obtain ⟨y, rfl, hy⟩ := hb
  obtain ⟨s, h1, h2⟩ := dbl_rung h
  exact mul_isI double (by decide) (by decide) hx hy h1 h2
/-- A quotient that is whole is exact. -/
theorem id_quo {q n : Int} {a b : Option Nat} (ha : ID (q * n) a) (hb : ID n b) (hn : n ≠ 0) (h : q.natAbs ≤ 4503599627370496) : ID q (fop .quo .f64 a b) := by
  obtain ⟨x, rfl, hx⟩ := ha
  obtain ⟨y, rfl, hy⟩ := hb
  obtain ⟨t, h1, h2⟩ := dbl_rung h
  have e : fop .quo .f64 (some x) (some y) = double.div x y := rfl
  rw [e]
  have hmx := hx.mag
  have hmy := hy.mag
  obtain ⟨c, hc⟩ : ∃ c, c = 1074 := ⟨_, rfl⟩
  have hlp : double.leastPlace = -(c : Int) := by rw [hc]; decide
  have hx' : IsI double c (q * n) x := by rw [hc]; exact hx
  have hy' : IsI double c n y := by rw [hc]; exact hy
  show ∃ r, double.div x y = some r ∧ IsI double 1074 q r
  rw [← hc] at hmx hmy h2 ⊢
  obtain ⟨m, i, hr, hm⟩ := read_fin double (by decide) hx.1
  obtain ⟨k, j, hs, hk⟩ := read_fin double (by decide) hy.1
  have hnp : 0 < n.natAbs := by omega
  have hk0 : k ≠ 0 := by
    rintro rfl
    rw [Nat.zero_mul, hmy] at hk
    have := Nat.mul_pos hnp (Nat.two_pow_pos c)
    omega
  have hkp : 0 < k := by omega
  -- m 2^i = |q| k 2^j
  have hbal : m * 2 ^ i = q.natAbs * k * 2 ^ j := by
    rw [hm, hmx, Int.natAbs_mul, Nat.mul_assoc q.natAbs k, hk, hmy, Nat.mul_assoc]
  unfold Format.div
  rw [hr, hs]
  simp only [Datum.quotient, if_neg hk0, Option.map_some, Format.write]
  generalize hmore : 52 + 2 + k.log2 - m.log2 = more
  have hmore' : double.fractionBits + 2 + k.log2 - m.log2 = more := hmore
  rw [hmore']
  -- the division leaves no rest
  have hex : ∃ u, m * 2 ^ more = u * k ∧ u * 2 ^ i = q.natAbs * 2 ^ (more + j) := by
    by_cases hm0 : m = 0
    · subst hm0
      refine ⟨0, by rw [Nat.zero_mul, Nat.zero_mul], ?_⟩
      have hq0 : q.natAbs * k * 2 ^ j = 0 := by rw [← hbal, Nat.zero_mul]
      have : q.natAbs = 0 := by
        rcases Nat.mul_eq_zero.1 hq0 with h | h
        · rcases Nat.mul_eq_zero.1 h with h | h
          · exact h
          · omega
        · have := Nat.two_pow_pos j; omega
      rw [this, Nat.zero_mul, Nat.zero_mul]
    · have hle : i ≤ more + j := by
        by_cases hle : i ≤ more + j
        · exact hle
        · exfalso
          have hml := Nat.log2_self_le hm0
          have hkl : k < 2 ^ (k.log2 + 1) := Nat.lt_log2_self
          have hq52 : q.natAbs ≤ 2 ^ 52 := h
          -- m 2^i ≥ 2^(log m + i), |q| k 2^j < 2^(52 + log k + 1 + j)
          have h3 : 2 ^ (m.log2 + i) ≤ m * 2 ^ i := by rw [Nat.pow_add]; exact Nat.mul_le_mul_right _ hml
          have h4 : q.natAbs * k * 2 ^ j ≤ 2 ^ (52 + (k.log2 + 1) + j) := by
            rw [Nat.pow_add, Nat.pow_add]
            exact Nat.mul_le_mul_right _ (Nat.mul_le_mul hq52 (Nat.le_of_lt hkl))
          have h5 : 2 ^ (m.log2 + i) ≤ 2 ^ (52 + (k.log2 + 1) + j) := by rw [hbal] at h3; exact Nat.le_trans h3 h4
          have h6 := (Nat.pow_le_pow_iff_right (by omega : 1 < 2)).1 h5
          omega
      refine ⟨q.natAbs * 2 ^ (more + j - i), ?_, ?_⟩
      · refine Nat.eq_of_mul_eq_mul_right (Nat.two_pow_pos i) ?_
        have e1 : more + j = (more + j - i) + i := by omega
        calc m * 2 ^ more * 2 ^ i = m * 2 ^ i * 2 ^ more := Nat.mul_right_comm ..
          _ = q.natAbs * k * 2 ^ j * 2 ^ more := by rw [hbal]
          _ = q.natAbs * k * 2 ^ (more + j) := by rw [Nat.mul_assoc, ← Nat.pow_add, Nat.add_comm j]
          _ = q.natAbs * k * (2 ^ (more + j - i) * 2 ^ i) := by rw [← Nat.pow_add, ← e1]
          _ = q.natAbs * 2 ^ (more + j - i) * k * 2 ^ i := by simp only [Nat.mul_assoc, Nat.mul_comm, Nat.mul_left_comm]
      · rw [Nat.mul_assoc, ← Nat.pow_add]; congr 2; omega
  obtain ⟨u, hu1, hu2⟩ := hex
  rw [Nat.shiftLeft_eq, hu1, Nat.mul_div_cancel _ hkp, Nat.mul_mod_left]
  have h00 : ((0 : Nat) != 0).toNat = 0 := rfl
  rw [h00, Nat.add_zero]
  rw [nearest_rr double _ _ _ (j + more + 1) (i + c) (by rw [hlp]; omega)]
  have e2 : 2 * u * 2 ^ (i + c) = Ft.mag double t * 2 ^ (j + more + 1) := by
    rw [h2, Nat.pow_add, ← Nat.mul_assoc, Nat.mul_assoc 2 u, hu2]
    rw [show j + more + 1 = (more + j) + 1 by omega, Nat.pow_succ]
    simp only [Nat.mul_assoc, Nat.mul_comm, Nat.mul_left_comm]
  rw [e2, rr_mag double t (j + more + 1) (Nat.le_of_lt h1)]
  refine ⟨_, rfl, isI_word h1 h2 ?_⟩
  intro hq
  have h0 : q * n ≠ 0 := Int.mul_ne_zero hq hn
  rw [hx'.sgn h0, hy'.sgn hn]
  rw [← sign_mul h0]
  cases decide (q < 0) <;> cases decide (n < 0) <;> rfl
/-! Widening, narrowing. -/
theorem id_wide {n : Int} {x : Nat} (h : IsI single 149 n x) (hn : n.natAbs ≤ 16777215) : ID n (fconv .f32 .f64 (some x)) := by
  obtain ⟨s, h1, h2⟩ := dbl_rung (T := n.natAbs) (by omega)
  have hm := h.mag
  obtain ⟨c, hc⟩ : ∃ c, c = 149 := ⟨_, rfl⟩
  obtain ⟨e, he⟩ : ∃ e, e = 925 := ⟨_, rfl⟩
  refine ⟨double.write (single.read x), rfl, ?_⟩
  have hw := widen_fin h.1
  rw [← hc] at hm
  rw [← he] at hw
  rw [hm] at hw
  have h3 : n.natAbs * 2 ^ c * 2 ^ e = Ft.mag double s := by rw [h2, Nat.mul_assoc, ← Nat.pow_add, show c + e = 1074 by omega]
  rw [h3] at hw
  have hr := rr_mag double s 0 (Nat.le_of_lt h1)
  rw [Nat.pow_zero, Nat.mul_one] at hr
  rw [hw, hr]
  exact isI_word h1 h2 fun h0 => h.sgn h0
theorem is_narrow {n : Int} {o : Option Nat} {r : Nat} (h : ID n o) (hn : n.natAbs ≤ 16777215) (hr : FC .f64 .f32 o r) : IsI single 149 n r ∧ Fl.fl .f32 r = some r := by
  obtain ⟨x, rfl, hx⟩ := h
  obtain ⟨s, h1, h2⟩ := sgl_rung (T := n.natAbs) (by omega)
  have hm := hx.mag
  obtain ⟨c, hc⟩ : ∃ c, c = 149 := ⟨_, rfl⟩
  obtain ⟨e, he⟩ : ∃ e, e = 925 := ⟨_, rfl⟩
  have hw := narrow_fin hx.1
  have hm2 : Ft.mag double (rung double x) = Ft.mag single s * 2 ^ e := by rw [hm, h2, ← hc, Nat.mul_assoc, ← Nat.pow_add, show c + e = 1074 by omega]
  rw [← he, hm2, rr_mag single s e (Nat.le_of_lt h1)] at hw
  have hov : over .f64 .f32 (some x) = false := by
    unfold over
    show (match Ieee.double.read x with | .number sg m e => (Ieee.single.read (Ieee.single.write (.number sg m e))).isInfinity | _ => false) = false
    have h3 : (single.read (single.write (double.read x))).isInfinity = false := by rw [hw]; exact isInf_lt _ h1
    split
    · rename_i hq; rw [hq] at h3; exact h3
    · rfl
  have hfl := hr.1 hov
  have hv : fconv .f64 .f32 (some x) = some (single.word (sgn double x) s) := by
    show some (single.write (double.read x)) = _
    rw [hw]
  rw [hv] at hfl
  have hrr := (fl_some hfl).1
  have hii : IsI single 149 n (single.word (sgn double x) s) := isI_word h1 h2 fun h0 => hx.sgn h0
  rw [hrr] at hii
  exact ⟨hii, by rw [hfl, hrr]⟩
theorem is_ofInt {n : Int} (hn : n.natAbs ≤ 16777215) : IsI single 149 n (floatOfInt .f32 n) := by
  obtain ⟨s, h1, h2⟩ := sgl_rung (T := n.natAbs) (by omega)
  have e : floatOfInt .f32 n = single.word (decide (n < 0)) s := by
    show single.write (.number (n < 0) n.natAbs 0) = _
    simp only [Format.write]
    rw [nearest_rr single _ _ _ 0 149 (by decide), ← h2]
    have := rr_mag single s 0 (Nat.le_of_lt h1)
    rw [Nat.pow_zero, Nat.mul_one] at this
    rw [this]
  rw [e]
  exact isI_word h1 h2 fun _ => rfl
theorem wide_ofInt {n : Int} (hn : n.natAbs ≤ 16777215) : fconv .f32 .f64 (some (floatOfInt .f32 n)) = some (fi n) := by
  obtain ⟨s, h1, h2, h3⟩ := fi_word (n := n) (by omega)
  have h := is_ofInt hn
  have hm := h.mag
  have hs1 : sgn single (floatOfInt .f32 n) = decide (n < 0) := by
    obtain ⟨t, g1, g2⟩ := sgl_rung (T := n.natAbs) (by omega)
    have e : floatOfInt .f32 n = single.word (decide (n < 0)) t := by
      show single.write (.number (n < 0) n.natAbs 0) = _
      simp only [Format.write]
      rw [nearest_rr single _ _ _ 0 149 (by decide), ← g2]
      have := rr_mag single t 0 (Nat.le_of_lt g1)
      rw [Nat.pow_zero, Nat.mul_one] at this
      rw [this]
    rw [e, sgn_word' single _ (Nat.le_of_lt g1)]
  obtain ⟨c, hc⟩ : ∃ c, c = 149 := ⟨_, rfl⟩
  obtain ⟨e, he⟩ : ∃ e, e = 925 := ⟨_, rfl⟩
  have hw := widen_fin h.1
  rw [← hc] at hm
  rw [← he, hm, hs1] at hw
  have h4 : n.natAbs * 2 ^ c * 2 ^ e = Ft.mag double s := by rw [h2, Nat.mul_assoc, ← Nat.pow_add, show c + e = 1074 by omega]
  rw [h4] at hw
  have hr := rr_mag double s 0 (Nat.le_of_lt h1)
  rw [Nat.pow_zero, Nat.mul_one] at hr
  rw [hr] at hw
  show some (double.write (single.read (floatOfInt .f32 n))) = _
  rw [hw, h3]
/-! Comparing. -/
theorem IsI.fl32 {n : Int} {r : Nat} (h : IsI single 149 n r) : Fl.fl .f32 r = some r := fl_le (k := .f32) (Nat.le_of_lt h.1)
theorem is_eq {n : Int} {x y : Nat} (hx : IsI single 149 n x) (hy : IsI single 149 n y) : (FloatKind.f32.format.order x y == some .eq) = true := by
  rw [order_num hx.fl32 hy.fl32]
  have e : compare (sv FloatKind.f32.format x) (sv FloatKind.f32.format y) = .eq := compare_eq (by show sv single x = sv single y; rw [hx.2, hy.2])
  rw [e]; rfl
theorem is_zero {n : Int} {x : Nat} (hx : IsI single 149 n x) : (FloatKind.f32.format.order x 0 == some .eq) = decide (n = 0) := by
  rw [order_num hx.fl32 (fl_zero .f32)]
  have e1 : sv FloatKind.f32.format x = n * 2 ^ 149 := hx.2
  rw [e1, sv_zero]
  have hp := pow_pos_int 149
  by_cases hn : n = 0
  · subst hn
    rw [Int.zero_mul]; rfl
  · rw [decide_eq_false hn]
    have hne : n * 2 ^ 149 ≠ 0 := Int.mul_ne_zero hn (by omega)
    cases hc : compare (n * 2 ^ 149) 0 with
    | eq => exact absurd (compare_eq_iff.1 hc) hne
    | lt => rfl
    | gt => rfl
end Go.Proofs.YtkfhgjknmdlhbaaGreatDoor.Gp
