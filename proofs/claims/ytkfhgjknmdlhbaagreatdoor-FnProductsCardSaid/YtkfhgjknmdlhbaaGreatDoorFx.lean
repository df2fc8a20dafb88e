/- The logarithm as a function of what words read as; its bounds; comparisons of positive words. No program in sight. -/
import Derived.Test.YtkfhgjknmdlhbaaGreatDoorFy
namespace Go.Proofs.YtkfhgjknmdlhbaaGreatDoor.Fx
open Go Ieee Ft Fl Fs Fo Fw Fb Fm Ff Fz Fy

theorem pos_word {x : Nat} (h : x ≤ double.infRung) : rung double x = x ∧ sgn double x = false := by
  have hsw := double.infRung_lt
  refine ⟨Nat.mod_eq_of_lt (by omega), ?_⟩
  unfold sgn; rw [Nat.div_eq_of_lt (by omega)]; rfl
theorem pos_sv {x : Nat} (h : x ≤ double.infRung) : sv double x = (mag double x : Int) := by
  unfold sv; rw [(pos_word h).2, (pos_word h).1]; rfl
theorem pos_order {x c : Nat} (hx : x ≤ double.infRung) (hc : c ≤ double.infRung) : FloatKind.f64.format.order x c = some (if x < c then .lt else if x = c then .eq else .gt) := by
  have ho : FloatKind.f64.format.order x c = some (compare (sv double x) (sv double c)) := order_sv double (by decide) (by rw [(pos_word hx).1]; exact hx) (by rw [(pos_word hc).1]; exact hc)
  rw [ho, pos_sv hx, pos_sv hc]
  by_cases h1 : x < c
  · rw [if_pos h1, compare_lt (by have := mag_lt double h1; omega)]
  · rw [if_neg h1]
    by_cases h2 : x = c
    · rw [if_pos h2, compare_eq (by rw [h2])]
    · rw [if_neg h2, compare_gt (by have := mag_lt double (show c < x by omega); omega)]
theorem pos_ge {x c : Nat} (hx : x ≤ double.infRung) (hc : c ≤ double.infRung) : (FloatKind.f64.format.order x c == some .gt || FloatKind.f64.format.order x c == some .eq) = decide (c ≤ x) := by
  rw [pos_order hx hc]
  by_cases h1 : x < c
  · rw [if_pos h1, decide_eq_false (by omega)]; rfl
  · rw [if_neg h1, decide_eq_true (by omega)]
    by_cases h2 : x = c
    · rw [if_pos h2]; rfl
    · rw [if_neg h2]; rfl
theorem pos_lt {x c : Nat} (hx : x ≤ double.infRung) (hc : c ≤ double.infRung) : (FloatKind.f64.format.order x c == some .lt) = decide (x < c) := by
  rw [pos_order hx hc]
  by_cases h1 : x < c
  · rw [if_pos h1, decide_eq_true h1]; rfl
  · rw [if_neg h1, decide_eq_false h1]
    by_cases h2 : x = c
    · rw [if_pos h2]; rfl
    · rw [if_neg h2]; rfl
theorem pos_gt {x c : Nat} (hx : x ≤ double.infRung) (hc : c ≤ double.infRung) : (FloatKind.f64.format.order x c == some .gt) = decide (c < x) := by
  rw [pos_order hx hc]
  by_cases h1 : x < c
  · rw [if_pos h1, decide_eq_false (by omega)]; rfl
  · rw [if_neg h1]
    by_cases h2 : x = c
    · rw [if_pos h2, decide_eq_false (by omega)]; rfl
    · rw [if_neg h2, decide_eq_true (by omega)]; rfl
theorem pos_eq {x c : Nat} (hx : x ≤ double.infRung) (hc : c ≤ double.infRung) : (FloatKind.f64.format.order x c == some .eq) = decide (x = c) := by
  rw [pos_order hx hc]
  by_cases h1 : x < c
  · rw [if_pos h1, decide_eq_false (by omega)]; rfl
  · rw [if_neg h1]
    by_cases h2 : x = c
    · rw [if_pos h2, decide_eq_true h2]; rfl
    · rw [if_neg h2, decide_eq_false h2]; rfl

/-- r0 is z times 2 ^ e, z from 0.75 up to 1.5. -/
def LogOf (r0 z : Nat) (e : Int) : Prop := 4604930618986332160 ≤ z ∧ z < 4609434218613702656 ∧ (z : Int) + e * 4503599627370496 = r0
theorem LogOf.one {r0 z z' : Nat} {e e' : Int} (h : LogOf r0 z e) (g : LogOf r0 z' e') : z = z' ∧ e = e' := by
  obtain ⟨h1, h2, h3⟩ := h
  obtain ⟨g1, g2, g3⟩ := g
  have : e = e' := by omega
  subst this
  exact ⟨by omega, rfl⟩

def ln2 : Nat := 4604418534313441775
def qV (u : Option Nat) : Nat → Option Nat
  | 0 => some 0
  | j + 1 => fop .add .f64 (fop .quo .f64 (some one) (some (fi (25 - 2 * (j : Int))))) (fop .mul .f64 u (qV u j))
def sV (z : Nat) : Option Nat := fop .quo .f64 (fop .sub .f64 (some z) (some one)) (fop .add .f64 (some z) (some one))
def logV (z : Nat) (e : Int) : Option Nat :=
  fop .add .f64 (fop .mul .f64 (some two) (fop .mul .f64 (sV z) (qV (fop .mul .f64 (sV z) (sV z)) 13))) (fop .mul .f64 (some (fi e)) (some ln2))

theorem bd_quo1 : ∀ j : Nat, j < 13 → Bd 0 (fop .quo .f64 (some one) (some (fi (25 - 2 * (j : Int))))) := by
  intro j hj
  have hd : ∀ j : Nat, j < 13 → rung double (fi (25 - 2 * (j : Int))) < double.infRung ∧ P2 0 ≤ rung double (fi (25 - 2 * (j : Int))) := by decide +kernel
  exact bd_div (bd_c (by decide) (by decide)) (by omega) (hd j hj).1 (hd j hj).2
theorem bd_q {u : Option Nat} (hu : Bd 0 u) : ∀ j : Nat, j ≤ 13 → Bd j (qV u j) := by
  intro j
  induction j with
  | zero => intro _; exact bd_c (by decide) (by decide)
  | succ j ih =>
    intro hj
    have h1 := bd_mul hu (ih (by omega)) (by omega)
    rw [Nat.zero_add] at h1
    exact bd_add ((bd_quo1 j (by omega)).mono (by omega)) h1 (by omega)

theorem one_sv : ∃ C, C = 1074 ∧ sv double one = 2 ^ C ∧ mag double (P2 0) = 2 ^ C := by
  obtain ⟨C, hC⟩ : ∃ C, C = 1074 := ⟨_, rfl⟩
  have hm := mag_P2 0
  rw [show 0 + 1074 = C by omega] at hm
  refine ⟨C, hC, ?_, hm⟩
  have h1 : rung double one = P2 0 := by decide +kernel
  have h2 : sgn double one = false := by decide +kernel
  unfold sv
  rw [h2, h1, hm]
  simp only [Bool.false_eq_true, if_false]
  push_cast
  rfl
theorem P2_1 : P2 1 = 4611686018427387904 := by decide +kernel
theorem z_bd {z : Nat} (h2 : z < 4609434218613702656) : rung double z = z ∧ sgn double z = false ∧ z < double.infRung := by
  have hi : double.infRung = 9218868437227405312 := by decide
  exact ⟨(pos_word (by omega)).1, (pos_word (by omega)).2, by omega⟩
theorem bd_sub1 {z : Nat} (h2 : z < 4609434218613702656) : Bd 0 (fop .sub .f64 (some z) (some one)) := by
  obtain ⟨hr, hs, hi⟩ := z_bd h2
  have e : fop .sub .f64 (some z) (some one) = double.sub z one := rfl
  rw [e, sub_fin double (by decide) (by rw [hr]; exact hi) (by decide +kernel)]
  refine word_bd (by omega) (rr_P2 (by omega) ?_)
  obtain ⟨C, hC, h1, hP⟩ := one_sv
  rw [h1, show 0 + 1074 + 0 = C by omega]
  have hz : sv double z = (mag double z : Int) := pos_sv (by omega)
  have hm := mag_le double (show z ≤ P2 1 by rw [P2_1]; omega)
  rw [mag_P2] at hm
  rw [show 1 + 1074 = C + 1 by omega, Nat.pow_succ] at hm
  rw [hz]
  have hc : ((2 : Int) ^ C) = ((2 ^ C : Nat) : Int) := by push_cast; rfl
  rw [hc]
  omega
theorem add1 {z : Nat} (h2 : z < 4609434218613702656) : ∃ y, fop .add .f64 (some z) (some one) = some y ∧ rung double y < double.infRung ∧ P2 0 ≤ rung double y := by
  obtain ⟨hr, hs, hi⟩ := z_bd h2
  have e : fop .add .f64 (some z) (some one) = double.add z one := rfl
  rw [e, add_fin double (by decide) (by rw [hr]; exact hi) (by decide +kernel)]
  refine ⟨_, rfl, ?_, ?_⟩
  all_goals rw [rung_word' double _ (rr_le_inf double _ _)]
  all_goals
    obtain ⟨C, hC, h1, hP⟩ := one_sv
    have hz : sv double z = (mag double z : Int) := pos_sv (by omega)
    have hm := mag_le double (show z ≤ P2 1 by rw [P2_1]; omega)
    rw [mag_P2] at hm
    have hc : ((2 : Int) ^ C) = ((2 ^ C : Nat) : Int) := by push_cast; rfl
    rw [h1, hz, hc]
  · refine Nat.lt_of_le_of_lt (rr_P2 (e := 2) (by omega) ?_) (P2_lt (by omega))
    rw [show 1 + 1074 = C + 1 by omega, Nat.pow_succ] at hm
    rw [show 2 + 1074 + 0 = C + 1 + 1 by omega, Nat.pow_succ, Nat.pow_succ]
    omega
  · refine rr_ge double (Nat.le_of_lt (P2_lt (by omega))) ?_
    rw [hP, Nat.pow_zero, Nat.mul_one]
    omega
theorem bd_s {z : Nat} (h2 : z < 4609434218613702656) : Bd 0 (sV z) := by
  obtain ⟨y, h1, h3, h4⟩ := add1 h2
  unfold sV
  rw [h1]
  exact bd_div (bd_sub1 h2) (by omega) h3 h4
theorem bd_fi {e : Int} (h : e.natAbs ≤ 2048) : Bd 11 (some (fi e)) := by
  obtain ⟨s, h1, h2, h3⟩ := fi_word (n := e) (by omega)
  rw [h3]
  refine word_bd (by omega) ?_
  by_cases hle : s ≤ P2 11
  · exact hle
  · exfalso
    have := mag_lt double (show P2 11 < s by omega)
    rw [mag_P2, h2] at this
    obtain ⟨C, hC⟩ : ∃ C, C = 1074 := ⟨_, rfl⟩
    rw [← hC] at this
    rw [Nat.pow_add] at this
    have h4 := Nat.mul_le_mul_right (2 ^ C) (show e.natAbs ≤ 2 ^ 11 from h)
    omega
theorem bd_ln2 : Bd 0 (some ln2) := bd_c (by decide +kernel) (by decide +kernel)
theorem bd_two : Bd 1 (some two) := bd_c (by decide +kernel) (by decide +kernel)
theorem bd_log {z : Nat} {e : Int} (h2 : z < 4609434218613702656) (he : e.natAbs ≤ 2048) : Bd 15 (logV z e) := by
  have hs := bd_s h2
  have hu := (bd_mul hs hs (by omega)).mono (show 0 + 0 ≤ 0 by omega)
  have hq := bd_q hu 13 (by omega)
  have h1 := bd_mul bd_two (bd_mul hs hq (by omega)) (by omega)
  have h3 := bd_mul (bd_fi he) bd_ln2 (by omega)
  exact bd_add (h1.mono (show 1 + (0 + 13) ≤ 14 by omega)) (h3.mono (show 11 + 0 ≤ 14 by omega)) (by omega)
end Go.Proofs.YtkfhgjknmdlhbaaGreatDoor.Fx
