/- The walks: PhasorOf. -/
import Derived.Test.YtfnplomgicgenaaWQ
import Derived.Test.YtfnplomgicgenaaFc
namespace Go.Proofs.Ytfnplomgicgenaa.WR
open Go.RowKit Fl Fs Fo Fw Fb Fm Ff Fz Fy Fx Fa Fc WA WB WH WI WJ WK WL WM WN WP WQ

def RetC (P : Nat → Nat → Prop) (w : World) (e : Ending) (w' : World) : Prop := ∃ a b n, P a b ∧ e = .returned (.complex .f32 a b) ∧ w' = w.drewN n
theorem frac_le {x : Nat} {n : Int} (h : rung Ieee.double x ≤ P2 52) (hn : floatToIntVal .f64 x .i64 = some n) : ∀ b, fracV x n = some b → sv Ieee.double b ≤ 4 * 2 ^ 1072 := by
  intro b hb
  have hbd := frac_bd h hn
  obtain ⟨C, hC⟩ : ∃ C, C = 1072 := ⟨_, rfl⟩
  rw [← hC]
  unfold fracV at hb
  obtain ⟨d, hd, hr, hf⟩ := hbd
  rw [hd] at hb
  have hfin := Bd.fin (show 0 ≤ 1000 by omega) hr
  have hle := sv_le hr
  rw [show 0 + 1074 = C + 2 by omega, Nat.pow_add] at hle
  have hp : (2 : Int) ^ C = ((2 ^ C : Nat) : Int) := by push_cast; rfl
  by_cases hl : ltO (some d) 0 = true
  · rw [if_pos hl] at hb
    have hlt : sv Ieee.double d < 0 := by
      have ho : FloatKind.f64.format.order d 0 = some (compare (sv Ieee.double d) (sv Ieee.double 0)) := order_sv Ieee.double (by decide) (Nat.le_of_lt hfin) (by decide)
      have hl' : (FloatKind.f64.format.order d 0 == some .lt) = true := hl
      have hz : sv Ieee.double 0 = 0 := sv_zero .f64
      rw [ho, hz] at hl'
      by_cases hc : sv Ieee.double d < 0
      · exact hc
      · exfalso
        by_cases he : sv Ieee.double d = 0
        · rw [compare_eq he] at hl'; cases hl'
        · rw [compare_gt (by omega)] at hl'; cases hl'
    obtain ⟨C2, hC2, h1, hP⟩ := one_sv
    have e : fop .add .f64 (some d) (some one) = Ieee.double.add d one := rfl
    rw [e, add_fin Ieee.double (by decide) hfin (by decide +kernel), h1] at hb
    have hb2 := (Option.some.inj hb).symm
    have h12 : (2 : Int) ^ C2 = 4 * ((2 ^ C : Nat) : Int) := by
      rw [show C2 = C + 2 by omega, ← hp]
      rw [Int.pow_succ, Int.pow_succ]; omega
    rw [h12] at hb2
    have hrl : Ft.rr Ieee.double (sv Ieee.double d + 4 * ((2 ^ C : Nat) : Int)).natAbs 0 ≤ P2 0 := by
      refine rr_P2 (by omega) ?_
      rw [show 0 + 1074 + 0 = C + 2 by omega, Nat.pow_add]
      generalize 2 ^ C = Z at *
      omega
    have hm := Ft.mag_le Ieee.double hrl
    rw [hP, show C2 = C + 2 by omega, Nat.pow_add] at hm
    rw [hb2, sv_word Ieee.double _ (Ft.rr_le_inf Ieee.double _ _), hp]
    generalize 2 ^ C = Z at *
    split <;> omega
  · rw [if_neg hl] at hb
    have := Option.some.inj hb
    subst this
    rw [hp]
    generalize 2 ^ C = Z at *
    omega
theorem tru_bd {x : Nat} (h : rung Ieee.double x ≤ P2 52) : Bd 1 (fracV x (tru x)) := bd_frac h (tru_eq h)
/-- The sine of a number of turns, of what its word reads as. -/
def sinW (o : Option Nat) : Option Nat := o.bind fun X => sinV (fracV X (tru X))
theorem bd_sinW {o : Option Nat} {e : Nat} (he : e ≤ 50) (h : Bd e o) : Bd 110 (sinW o) := by
  obtain ⟨X, rfl, hr, _⟩ := h
  exact bd_sin110 (tru_bd (Nat.le_trans hr (P2_mono (by omega))))
def reV (c s : Option Nat) (q : Nat) : Option Nat := if q = 1 then fop .sub .f64 (some 0) s else if q = 2 then fop .sub .f64 (some 0) c else if q = 3 then s else c
def imV (c s : Option Nat) (q : Nat) : Option Nat := if q = 1 then c else if q = 2 then fop .sub .f64 (some 0) s else if q = 3 then fop .sub .f64 (some 0) c else s
/-- q quarters, what is left: F less q quarters, less than a quarter. -/
def Quarters (F : Option Nat) (q : Nat) : Prop := q ≤ 4 ∧ (∀ i : Nat, i < q → geO (hV F i) quarter = true) ∧ geO (hV F q) quarter = false
theorem Quarters.one {F : Option Nat} {p q : Nat} (h : Quarters F p) (g : Quarters F q) : p = q := by
  obtain ⟨_, h2, h3⟩ := h
  obtain ⟨_, g2, g3⟩ := g
  by_cases e : p = q
  · exact e
  · exfalso
    by_cases l : p < q
    · have := g2 p l; rw [h3] at this; cases this
    · have := h2 q (by omega); rw [g3] at this; cases this
def Ph (x a b : Nat) : Prop := ∃ q r s, Quarters (fracV x (tru x)) q ∧
  fl .f64 r = reV (sinW (fop .sub .f64 (some quarter) (hV (fracV x (tru x)) q))) (sinW (hV (fracV x (tru x)) q)) q ∧ fl .f64 s = imV (sinW (fop .sub .f64 (some quarter) (hV (fracV x (tru x)) q))) (sinW (hV (fracV x (tru x)) q)) q ∧
  FC .f64 .f32 (fl .f64 r) a ∧ FC .f64 .f32 (fl .f64 s) b
theorem bd_zero : Bd 110 (some 0) := bd_c (Nat.le_trans (show rung Ieee.double 0 ≤ P2 0 by decide +kernel) (P2_mono (by omega))) (by decide +kernel)
theorem Ph.same {x a b c d : Nat} (hx : rung Ieee.double x ≤ P2 52) (h : Ph x a b) (g : Ph x c d) : fl .f32 a = fl .f32 c ∧ fl .f32 b = fl .f32 d := by
  obtain ⟨q, r, s, hq, hr, hs, ha, hb⟩ := h
  obtain ⟨q', r', s', hq', hr', hs', hc, hd⟩ := g
  obtain rfl := hq.one hq'
  have hF := bd_h (tru_bd hx) q (by have := hq.1; omega)
  have hq4 := hq.1
  have hS := bd_sinW (by omega) hF
  have hC := bd_sinW (o := fop .sub .f64 (some quarter) (hV (fracV x (tru x)) q)) (e := 1 + q + 1) (by omega) (bd_sub (bd_c (Nat.le_trans (show rung Ieee.double quarter ≤ P2 0 by decide +kernel) (P2_mono (by omega))) (by decide +kernel)) hF (by omega))
  have hre : Bd 127 (reV (sinW (fop .sub .f64 (some quarter) (hV (fracV x (tru x)) q))) (sinW (hV (fracV x (tru x)) q)) q) := by
    unfold reV
    split
    · exact (bd_sub bd_zero hS (by omega)).mono (by omega)
    · split
      · exact (bd_sub bd_zero hC (by omega)).mono (by omega)
      · split
        · exact hS.mono (by omega)
        · exact hC.mono (by omega)
  have him : Bd 127 (imV (sinW (fop .sub .f64 (some quarter) (hV (fracV x (tru x)) q))) (sinW (hV (fracV x (tru x)) q)) q) := by
    unfold imV
    split
    · exact hC.mono (by omega)
    · split
      · exact (bd_sub bd_zero hS (by omega)).mono (by omega)
      · split
        · exact (bd_sub bd_zero hC (by omega)).mono (by omega)
        · exact hS.mono (by omega)
  rw [hr] at ha
  rw [hr'] at hc
  rw [hs] at hb
  rw [hs'] at hd
  exact ⟨narrow_same hre ha hc, narrow_same him hb hd⟩
theorem ge_quarter {F : Option Nat} {f j : Nat} (hf : FV .f64 (hV F j) f) : (FloatKind.f64.format.order f 4598175219545276416 == some .gt || FloatKind.f64.format.order f 4598175219545276416 == some .eq) = geO (hV F j) quarter := by
  rw [ord_ge f 4598175219545276416 rfl, hf.1]; rfl
theorem h_step {F : Option Nat} {f r j : Nat} (hf : FV .f64 (hV F j) f) (hr : FV .f64 (fop .sub .f64 (fl .f64 f) (fl .f64 4598175219545276416)) r) : FV .f64 (hV F (j + 1)) r := by
  refine ⟨?_, hr.2⟩
  rw [hr.1, hf.1]; rfl
theorem all_succ {F : Option Nat} {j : Nat} (h : ∀ i : Nat, i < j → geO (hV F i) quarter = true) (h2 : geO (hV F j) quarter = true) : ∀ i : Nat, i < j + 1 → geO (hV F i) quarter = true := by
  intro i hi
  by_cases e : i = j
  · rw [e]; exact h2
  · exact h i (by omega)
theorem j_lt {x j : Nat} (hx : rung Ieee.double x ≤ P2 52) (hj : j ≤ 4) (h : ∀ i : Nat, i < j → geO (hV (fracV x (tru x)) i) quarter = true) (h2 : geO (hV (fracV x (tru x)) j) quarter = true) : j < 4 := by
  by_cases e : j = 4
  · exfalso
    subst e
    have hb := tru_bd hx
    obtain ⟨b, hb1, hr, hf⟩ := bd_h hb 4 (by omega)
    have := h_le hb (frac_le hx (tru_eq hx)) 4 (by omega) h b hb1
    have hfin := Bd.fin (show 1 + 4 ≤ 1000 by omega) hr
    obtain ⟨C, hC, hq⟩ := quarter_sv
    rw [hb1] at h2
    have ho : FloatKind.f64.format.order b quarter = some (compare (sv Ieee.double b) (sv Ieee.double quarter)) := order_sv Ieee.double (by decide) (Nat.le_of_lt hfin) (by decide +kernel)
    unfold geO fcmp at h2
    simp only [Option.bind_some] at h2
    have hp : (0 : Int) < 2 ^ C := Int.pow_pos (by omega)
    have h0 : sv Ieee.double b ≤ 0 := by
      rw [← hC] at this
      have e0 : (4 - ((4 : Nat) : Int)) * 2 ^ C = 0 := by rw [show (4 : Int) - ((4 : Nat) : Int) = 0 from rfl, Int.zero_mul]
      rw [e0] at this; exact this
    rw [ho, hq, compare_lt (by omega)] at h2
    cases h2
  · omega
/-- A word in reach of the sine. -/
theorem h_ok {x f j : Nat} (hx : rung Ieee.double x ≤ P2 52) (hj : j ≤ 4) (hf : FV .f64 (hV (fracV x (tru x)) j) f) : rung Ieee.double f ≤ P2 40 ∧ hV (fracV x (tru x)) j = some f := by
  have hb := bd_h (tru_bd hx) j (by omega)
  have h2 := (hb.num hf).2
  obtain ⟨b, hb1, hr, _⟩ := hb
  rw [h2] at hb1
  have := Option.some.inj hb1
  subst this
  exact ⟨Nat.le_trans hr (P2_mono (by omega)), h2⟩
theorem g_ok {x f g j : Nat} (hx : rung Ieee.double x ≤ P2 52) (hj : j ≤ 4) (hf : FV .f64 (hV (fracV x (tru x)) j) f) (hg : FV .f64 (fop .sub .f64 (fl .f64 4598175219545276416) (fl .f64 f)) g) : rung Ieee.double g ≤ P2 40 ∧ fop .sub .f64 (some quarter) (hV (fracV x (tru x)) j) = some g := by
  have hb := bd_h (tru_bd hx) j (by omega)
  have hb2 := bd_sub (i := 1 + j) (bd_c (c := quarter) (Nat.le_trans (show rung Ieee.double quarter ≤ P2 0 by decide +kernel) (P2_mono (by omega))) (by decide +kernel)) hb (by omega)
  have hg' : FV .f64 (fop .sub .f64 (some quarter) (hV (fracV x (tru x)) j)) g := ⟨by rw [hg.1, hf.1]; rfl, hg.2⟩
  have h2 := (hb2.num hg').2
  obtain ⟨b, hb1, hr, _⟩ := hb2
  rw [h2] at hb1
  have := Option.some.inj hb1
  subst this
  exact ⟨Nat.le_trans hr (P2_mono (by omega)), h2⟩
theorem sinW_some {X : Nat} {o : Option Nat} (h : o = some X) : sinW o = sinV (fracV X (tru X)) := by rw [h]; rfl
theorem fin40 {X : Nat} (h : rung Ieee.double X ≤ P2 40) : rung Ieee.double X < Ieee.double.infRung ∧ floatToIntVal .f64 X .i64 = some (tru X) ∧ (FloatKind.f64.format.order X 4841369599423283200 == some .gt || FloatKind.f64.format.order X 4841369599423283200 == some .eq) = false ∧ (FloatKind.f64.format.order X 14064741636278059008 == some .lt || FloatKind.f64.format.order X 14064741636278059008 == some .eq) = false := by
  have hf := Bd.fin (show 40 ≤ 1000 by omega) h
  have hlt : ¬ P2 52 ≤ rung Ieee.double X := by
    have : P2 40 < P2 52 := by decide +kernel
    omega
  refine ⟨hf, tru_eq (by omega), ?_, ?_⟩
  · rw [big_pos hf, decide_eq_false hlt, Bool.and_false]
  · rw [big_neg hf, decide_eq_false hlt, Bool.and_false]

end Go.Proofs.Ytfnplomgicgenaa.WR