/- Widening never overflows; sameness of words; signs and small magnitudes. No program in sight. -/
import Derived.Test.YtkfhgjknmdlhbaaGreatDoorFo
namespace Go.Proofs.YtkfhgjknmdlhbaaGreatDoor.Fw
open Go Ieee Ft Fl Fs Fo

theorem isInf_word (f : Format) (hb : f.binade ≤ f.infRung) (neg : Bool) {s : Nat} (h : s < f.infRung) : (f.read (f.word neg s)).isInfinity = false := by
  obtain ⟨m, i, hr, _⟩ := read_fin f hb (w := f.word neg s) (by rw [rung_word' f neg (Nat.le_of_lt h)]; exact h)
  rw [hr]; rfl

theorem over_widen (o : Option Nat) : over .f32 .f64 o = false := by
  unfold over
  cases o with
  | none => rfl
  | some b =>
    dsimp only
    show (match single.read b with | .number sg m e => (double.read (double.write (.number sg m e))).isInfinity | _ => false) = false
    cases h : single.read b with
    | nan s t => rfl
    | infinity s => rfl
    | number s m e =>
      dsimp only
      have hfin : rung single b < single.infRung := by
        by_cases h1 : rung single b < single.infRung
        · exact h1
        · exfalso
          by_cases h2 : rung single b = single.infRung
          · rw [read_inf single (by decide) h2] at h; cases h
          · have := isNaN_read single (by decide) b
            rw [h] at this
            have h3 : rung single b = b % single.signWeight := rfl
            simp only [Datum.isNaN] at this
            have := of_decide_eq_false this.symm
            omega
      obtain ⟨s', h1, _, h3⟩ := widen_word hfin
      rw [h] at h3
      rw [h3]
      exact isInf_word double (by decide) _ h1

/-- What widening leaves. -/
theorem FC_widen {u r : Nat} (h : FC .f32 .f64 (fl .f32 u) r) : fl .f64 r = fconv .f32 .f64 (fl .f32 u) := h.1 (over_widen _)

theorem order_self {k : FloatKind} {x : Nat} : k.format.order x x = if (k.format.read x).isNaN then none else some .eq := by
  unfold Ieee.Format.order
  cases k.format.read x <;> simp [Ieee.Datum.order, Ieee.Datum.isNaN]
theorem fl_zero (k : FloatKind) : fl k 0 = some 0 := by cases k <;> rfl

theorem order_num {k : FloatKind} {x y : Nat} (hx : fl k x = some x) (hy : fl k y = some y) : k.format.order x y = some (compare (sv k.format x) (sv k.format y)) :=
  order_sv k.format (binade_le k) (le_of_fl hx) (le_of_fl hy)
theorem fl_self {k : FloatKind} {x v : Nat} (h : fl k x = some v) : fl k x = some x := by rw [h, (fl_some h).1]

theorem sv_zero (k : FloatKind) : sv k.format 0 = 0 := by cases k <;> decide

/-- Equal words: equal as numbers and in their signs. -/
theorem eq_iff_word {k : FloatKind} {x y : Nat} (hx : fl k x = some x) (hy : fl k y = some y) (wx : x < 2 ^ k.format.width) (wy : y < 2 ^ k.format.width) :
    x = y ↔ (k.format.order x y == some .eq) = true ∧ sgn k.format x = sgn k.format y := by
  rw [order_num hx hy]
  constructor
  · rintro rfl; exact ⟨by rw [compare_eq rfl]; rfl, rfl⟩
  · rintro ⟨h1, h2⟩
    have h3 : compare (sv k.format x) (sv k.format y) = .eq := by
      cases hc : compare (sv k.format x) (sv k.format y) <;> rw [hc] at h1 <;> first | rfl | cases h1
    have h4 := compare_eq_iff.1 h3
    refine word_inj k.format wx wy h2 (mag_inj k.format ?_)
    have := congrArg Int.natAbs h4
    rwa [natAbs_sv, natAbs_sv] at this

theorem sgn_lt {k : FloatKind} {x : Nat} (h : x < 2 ^ k.format.width) : sgn k.format x = decide (k.format.signWeight ≤ x) := by
  rw [two_sw] at h
  have hp := sw_pos k.format
  unfold sgn
  have hq : x / k.format.signWeight < 2 := Nat.div_lt_of_lt_mul (by omega)
  by_cases hx : k.format.signWeight ≤ x
  · have : x / k.format.signWeight = 1 := by
      have h1 : 1 ≤ x / k.format.signWeight := (Nat.le_div_iff_mul_le hp).2 (by omega)
      omega
    simp [this, hx]
  · rw [Nat.div_eq_of_lt (by omega)]; simp [hx]

/-- Widening keeps the sign. -/
theorem sgn_widen {x r : Nat} (hx : fl .f32 x = some x) (h : fl .f64 r = fconv .f32 .f64 (fl .f32 x)) : fl .f64 r = some r ∧ sgn double r = sgn single x := by
  rw [hx] at h
  have e : r = double.write (single.read x) := by
    have := (fl_some h).1; rw [this.symm]
    rfl
  refine ⟨fl_self h, ?_⟩
  have hr := le_of_fl hx
  rw [e]
  by_cases hi : rung single x < single.infRung
  · obtain ⟨s, h1, _, h3⟩ := widen_word hi
    rw [h3, sgn_word' _ _ (Nat.le_of_lt h1)]
  · have : rung single x = single.infRung := by
      have : rung single x ≤ single.infRung := hr
      omega
    rw [read_inf single (by decide) this]
    exact sgn_word' double _ (Nat.le_refl _)

/-- The rung behind widening: the magnitude is the same number. -/
theorem mag_widen {x r : Nat} (hi : rung single x < single.infRung) (h : fl .f64 r = fconv .f32 .f64 (fl .f32 x)) : rung double r < double.infRung ∧ mag double (rung double r) = mag single (rung single x) * 2 ^ 925 := by
  rw [fl_le (k := .f32) (Nat.le_of_lt hi)] at h
  have e : r = double.write (single.read x) := by
    have := (fl_some h).1; rw [this.symm]; rfl
  obtain ⟨s, h1, h2, h3⟩ := widen_word hi
  rw [e, h3, rung_word' _ _ (Nat.le_of_lt h1)]
  exact ⟨h1, h2⟩
end Go.Proofs.YtkfhgjknmdlhbaaGreatDoor.Fw
