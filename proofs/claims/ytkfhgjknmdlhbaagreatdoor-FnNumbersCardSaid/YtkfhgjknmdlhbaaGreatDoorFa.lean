/- The angle as a function of what words read as; its bounds. No program in sight. -/
import Derived.Test.YtkfhgjknmdlhbaaGreatDoorFx
namespace Go.Proofs.YtkfhgjknmdlhbaaGreatDoor.Fa
open Go Ieee Ft Fl Fs Fo Fw Fb Fm Ff Fz Fy Fx

def tV (t : Option Nat) : Nat → Option Nat
  | 0 => t
  | j + 1 => fop .quo .f64 (tV t j) (fop .add .f64 (some one) (fsqrt (fop .add .f64 (some one) (fop .mul .f64 (tV t j) (tV t j)))))
def aV (u : Option Nat) : Nat → Option Nat
  | 0 => some 0
  | j + 1 => fop .sub .f64 (fop .quo .f64 (some one) (some (fi (15 - 2 * (j : Int))))) (fop .mul .f64 u (aV u j))
def eight : Nat := 4620693217682128896
/-- The angle of (b, a), both at least 0, before signs. -/
def t0V (a b : Nat) : Option Nat := if FloatKind.f64.format.order a b == some .gt then fop .quo .f64 (some b) (some a) else fop .quo .f64 (some a) (some b)
def ang0 (t : Option Nat) : Option Nat := fop .quo .f64 (fop .mul .f64 (some eight) (fop .mul .f64 t (aV (fop .mul .f64 t t) 8))) (some tau)
def ang1 (a b : Nat) : Option Nat := if FloatKind.f64.format.order a b == some .gt then fop .sub .f64 (some quarter) (ang0 (tV (t0V a b) 3)) else ang0 (tV (t0V a b) 3)
def ang2 (a b : Nat) (sx : Bool) : Option Nat := if sx then fop .sub .f64 (some half) (ang1 a b) else ang1 a b
def ang3 (a b : Nat) (sx sy : Bool) : Option Nat := if sy then fneg (ang2 a b sx) else ang2 a b sx

theorem add_one {e q : Nat} (he : e ≤ 900) (hs : sgn double q = false) (hb : Bd e (some q)) : ∃ d, fop .add .f64 (some one) (some q) = some d ∧ rung double d < double.infRung ∧ P2 0 ≤ rung double d ∧ sgn double d = false ∧ Bd (e + 1) (some d) := by
  have hbd := bd_add (bd_c (c := one) (e := e) (Nat.le_trans (show rung double one ≤ P2 0 by decide +kernel) (P2_mono (by omega))) (by decide +kernel)) hb (by omega)
  obtain ⟨b, hb', hr, _⟩ := hb
  obtain rfl := Option.some.inj hb'
  have hf := Bd.fin (show e ≤ 1000 by omega) hr
  have e1 : fop .add .f64 (some one) (some q) = double.add one q := rfl
  have hadd := add_fin double (by decide) (x := one) (y := q) (by decide +kernel) hf
  rw [e1] at hbd ⊢
  rw [hadd] at hbd ⊢
  obtain ⟨C, hC, h1, hP⟩ := one_sv
  have hq : sv double q = (mag double (rung double q) : Int) := by unfold sv; rw [hs]; rfl
  have hpos : 0 < 2 ^ C := Nat.two_pow_pos C
  have hc : ((2 : Int) ^ C) = ((2 ^ C : Nat) : Int) := by push_cast; rfl
  have hneg : sumNeg (sgn double one) (sgn double q) (sv double one + sv double q) = false := by
    unfold sumNeg
    rw [h1, hq, hc, if_neg (by omega)]
    rw [decide_eq_false_iff_not]; omega
  rw [hneg] at hbd ⊢
  refine ⟨_, rfl, ?_, ?_, ?_, hbd⟩
  · obtain ⟨b, hb2, hr2, _⟩ := hbd
    have := Option.some.inj hb2
    rw [this]; exact Bd.fin (by omega) hr2
  · rw [rung_word' double _ (rr_le_inf double _ _)]
    refine rr_ge double (Nat.le_of_lt (P2_lt (by omega))) ?_
    rw [hP, Nat.pow_zero, Nat.mul_one, h1, hq, hc]
    omega
  · exact sgn_word' double _ (rr_le_inf double _ _)

theorem mul_self {t : Option Nat} {e : Nat} (he : e + e ≤ 1000) (ht : Bd e t) : ∃ w, fop .mul .f64 t t = some w ∧ sgn double w = false ∧ Bd (e + e) (some w) := by
  have hb := bd_mul ht ht he
  obtain ⟨x, rfl, hx, _⟩ := ht
  have hf := Bd.fin (show e ≤ 1000 by omega) hx
  have e1 : fop .mul .f64 (some x) (some x) = double.mul x x := rfl
  rw [e1] at hb ⊢
  rw [mul_fin double (by decide) (D := 1074) (by decide) hf hf] at hb ⊢
  refine ⟨_, rfl, ?_, hb⟩
  rw [sgn_word' double _ (rr_le_inf double _ _)]
  cases sgn double x <;> rfl

theorem sqrt_pos {v : Nat} (hf : rung double v < double.infRung) (hs : sgn double v = false) : ∃ r, fsqrt (some v) = some r ∧ sgn double r = false := by
  have e : fsqrt (some v) = double.sqrt v := rfl
  rw [e]
  obtain ⟨m, a, hr, _⟩ := read_fin double (by decide) hf
  unfold Format.sqrt
  rw [hr, hs]
  simp only [Datum.root]
  by_cases h0 : m = 0
  · rw [if_pos h0]
    refine ⟨_, rfl, ?_⟩
    simp only [Format.write]
    rw [nearest_rr double _ _ _ 0 a (by show double.leastPlace + (a : Int) + ((0 : Nat) : Int) = double.leastPlace + (a : Int); omega)]
    exact sgn_word' double _ (rr_le_inf double _ _)
  · rw [if_neg h0, if_neg (by simp)]
    refine ⟨_, rfl, ?_⟩
    simp only [Format.write]
    unfold Format.nearest
    dsimp only
    split
    · exact sgn_word' double _ (Nat.zero_le _)
    · exact sgn_word' double _ (Nat.min_le_right ..)

theorem bd_t {t : Option Nat} (ht : Bd 0 t) : ∀ j : Nat, Bd 0 (tV t j) := by
  intro j
  induction j with
  | zero => exact ht
  | succ j ih =>
    obtain ⟨w, h1, h2, h3⟩ := mul_self (e := 0) (by omega) ih
    obtain ⟨v, g1, g2, g3, g4, g5⟩ := add_one (e := 0 + 0) (by omega) h2 h3
    obtain ⟨r, k1, k2⟩ := sqrt_pos g2 g4
    have k3 := bd_sqrt (o := some v) (g5.mono (by omega)) k1
    obtain ⟨d, l1, l2, l3, _, _⟩ := add_one (e := 65) (by omega) k2 k3
    show Bd 0 (fop .quo .f64 (tV t j) (fop .add .f64 (some one) (fsqrt (fop .add .f64 (some one) (fop .mul .f64 (tV t j) (tV t j))))))
    rw [h1, g1, k1, l1]
    exact bd_div ih (by omega) l2 l3

theorem bd_quo15 : ∀ j : Nat, j < 8 → Bd 0 (fop .quo .f64 (some one) (some (fi (15 - 2 * (j : Int))))) := by
  intro j hj
  have hd : ∀ j : Nat, j < 8 → rung double (fi (15 - 2 * (j : Int))) < double.infRung ∧ P2 0 ≤ rung double (fi (15 - 2 * (j : Int))) := by decide +kernel
  exact bd_div (bd_c (by decide) (by decide)) (by omega) (hd j hj).1 (hd j hj).2
theorem bd_a {u : Option Nat} (hu : Bd 0 u) : ∀ j : Nat, j ≤ 8 → Bd j (aV u j) := by
  intro j
  induction j with
  | zero => intro _; exact bd_c (by decide) (by decide)
  | succ j ih =>
    intro hj
    have h1 := bd_mul hu (ih (by omega)) (by omega)
    rw [Nat.zero_add] at h1
    exact bd_sub ((bd_quo15 j (by omega)).mono (by omega)) h1 (by omega)
theorem bd_eight : Bd 3 (some eight) := bd_c (by decide +kernel) (by decide +kernel)
theorem bd_ang0 {t : Option Nat} (ht : Bd 0 t) : Bd 11 (ang0 t) := by
  have hu := (bd_mul ht ht (by omega)).mono (show 0 + 0 ≤ 0 by omega)
  have hp := bd_a hu 8 (by omega)
  have h1 := bd_mul bd_eight (bd_mul ht hp (by omega)) (by omega)
  have h2 := h1.mono (show 3 + (0 + 8) ≤ 11 by omega)
  unfold ang0
  exact bd_div h2 (by omega) (by decide +kernel) (by decide +kernel)
theorem fneg_lt {a b : Nat} {sx : Bool} {r : Nat} (h : ang2 a b sx = some r) : r < 18446744073709551616 := by
  unfold ang2 at h
  split at h
  · exact fop_lt h
  · unfold ang1 at h
    split at h
    · exact fop_lt h
    · exact fop_lt h
theorem bd_t0 {a b : Nat} (ha : a < double.infRung) (hb : b < double.infRung) (h0 : a ≠ 0 ∨ b ≠ 0) : Bd 0 (t0V a b) := by
  have ra := (pos_word (Nat.le_of_lt ha)).1
  have rb := (pos_word (Nat.le_of_lt hb)).1
  unfold t0V
  rw [pos_gt (Nat.le_of_lt ha) (Nat.le_of_lt hb)]
  by_cases h : b < a
  · rw [decide_eq_true h, if_pos rfl]
    refine bd_quo (by omega) (by rw [rb]; exact hb) (by rw [ra]; exact ha) (by rw [ra]; omega) ?_
    rw [ra, rb, Nat.pow_zero, Nat.one_mul]
    exact mag_le double (Nat.le_of_lt h)
  · rw [decide_eq_false h, if_neg (by simp)]
    refine bd_quo (by omega) (by rw [ra]; exact ha) (by rw [rb]; exact hb) (by rw [rb]; omega) ?_
    rw [ra, rb, Nat.pow_zero, Nat.one_mul]
    exact mag_le double (by omega)
theorem bd_ang3 {a b : Nat} {sx sy : Bool} (ha : a < double.infRung) (hb : b < double.infRung) (h0 : a ≠ 0 ∨ b ≠ 0) : Bd 127 (ang3 a b sx sy) := by
  have h1 := bd_ang0 (bd_t (bd_t0 ha hb h0) 3)
  have hq : Bd 11 (some quarter) := bd_c (Nat.le_trans (show rung double quarter ≤ P2 0 by decide +kernel) (P2_mono (by omega))) (by decide +kernel)
  have hh : Bd 12 (some half) := bd_c (Nat.le_trans (show rung double half ≤ P2 0 by decide +kernel) (P2_mono (by omega))) (by decide +kernel)
  have h2 : Bd 12 (ang1 a b) := by
    unfold ang1
    by_cases hc : (FloatKind.f64.format.order a b == some .gt) = true
    · rw [if_pos hc]; exact bd_sub hq h1 (by omega)
    · rw [if_neg hc]; exact h1.mono (by omega)
  have h3 : Bd 13 (ang2 a b sx) := by
    unfold ang2
    cases sx
    · exact h2.mono (by omega)
    · exact bd_sub hh h2 (by omega)
  unfold ang3
  cases sy
  · exact h3.mono (by omega)
  · exact (bd_neg h3 fun r hr => fneg_lt hr).mono (by omega)
end Go.Proofs.YtkfhgjknmdlhbaaGreatDoor.Fa
