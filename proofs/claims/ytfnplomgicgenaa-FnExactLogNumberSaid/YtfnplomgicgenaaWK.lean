/- The walks: SineTurns. -/
import Derived.Test.YtfnplomgicgenaaWJ
namespace Go.Proofs.Ytfnplomgicgenaa.WK
open Go.RowKit Fl Fs Fo Fw Fb Fm Ff Fz WA WB WH WI WJ
set_option maxRecDepth 20000

/-- float64(x) of a finite x. -/
def wid (x : Nat) : Nat := Ieee.double.write (Ieee.single.read x)
theorem wid_eq {x y : Nat} (hx : rung Ieee.single x < Ieee.single.infRung) (h : FC .f32 .f64 (fl .f32 x) y) : y = wid x := by
  have h1 := FC_widen h
  rw [fl_le (k := .f32) (Nat.le_of_lt hx)] at h1
  exact ((fl_some h1).1).symm
theorem wid_fin {x : Nat} (hx : rung Ieee.single x < Ieee.single.infRung) : rung Ieee.double (wid x) < Ieee.double.infRung := by
  obtain ⟨s, h1, _, h3⟩ := widen_word hx
  unfold wid
  rw [h3, rung_word' _ _ (Nat.le_of_lt h1)]; exact h1
theorem wid_lt (x : Nat) : wid x < 18446744073709551616 := Ieee.Format.write_lt _ _
theorem finB_yes {x : Nat} (hx : rung Ieee.single x < Ieee.single.infRung) : finB x = true := by
  unfold finB
  rw [sub_self (k := .f32) (x := x) hx]; rfl
theorem sub_inf {k : FloatKind} {x : Nat} (h : ¬ rung k.format x < k.format.infRung) : fop .sub k (fl k x) (fl k x) = none := by
  by_cases hle : rung k.format x ≤ k.format.infRung
  · have he : rung k.format x = k.format.infRung := by omega
    rw [fl_le hle]
    have e : fop .sub k (some x) (some x) = k.format.sub x x := rfl
    rw [e]
    unfold Ieee.Format.sub
    rw [read_inf k.format (binade_le k) he]
    cases sgn k.format x <;> rfl
  · rw [fl_gt hle]; rfl
theorem finB_no {x : Nat} (hx : ¬ rung Ieee.single x < Ieee.single.infRung) : finB x = false := by
  unfold finB
  rw [sub_inf (k := .f32) (x := x) hx]; rfl
theorem self_bad {x y d : Nat} (hx : ¬ rung Ieee.single x < Ieee.single.infRung) (h : FC .f32 .f64 (fl .f32 x) y) (hd : FV .f64 (fop .sub .f64 (fl .f64 y) (fl .f64 y)) d) : (FloatKind.f64.format.order d 0 != some .eq) = true := by
  have hy : ¬ rung Ieee.double y < Ieee.double.infRung := by
    intro hlt
    have h1 := FC_widen h
    by_cases hle : rung Ieee.single x ≤ Ieee.single.infRung
    · have he : rung Ieee.single x = Ieee.single.infRung := by omega
      rw [fl_le (k := .f32) hle] at h1
      have e : y = Ieee.double.write (Ieee.single.read x) := ((fl_some h1).1).symm
      rw [e, read_inf Ieee.single (by decide) he] at hlt
      have : rung Ieee.double (Ieee.double.word (sgn Ieee.single x) Ieee.double.infRung) = Ieee.double.infRung := rung_word' Ieee.double _ (Nat.le_refl _)
      have hlt' : rung Ieee.double (Ieee.double.word (sgn Ieee.single x) Ieee.double.infRung) < Ieee.double.infRung := hlt
      omega
    · rw [fl_gt (k := .f32) hle, fl_le (k := .f64) (Nat.le_of_lt hlt)] at h1; cases h1
  rw [sub_inf (k := .f64) (x := y) hy] at hd
  rw [order_fl, hd.1]; rfl

theorem e52 : rung Ieee.double 4841369599423283200 = P2 52 ∧ sgn Ieee.double 4841369599423283200 = false := by decide +kernel
theorem m52 : rung Ieee.double 14064741636278059008 = P2 52 ∧ sgn Ieee.double 14064741636278059008 = true := by decide +kernel
theorem P2_52 : P2 52 ≤ Ieee.double.infRung := Nat.le_of_lt (P2_lt (by omega))
theorem big_pos {y : Nat} (hy : rung Ieee.double y < Ieee.double.infRung) : (FloatKind.f64.format.order y 4841369599423283200 == some .gt || FloatKind.f64.format.order y 4841369599423283200 == some .eq) = (!sgn Ieee.double y && decide (P2 52 ≤ rung Ieee.double y)) := by
  have ho : FloatKind.f64.format.order y 4841369599423283200 = some (compare (sv Ieee.double y) (sv Ieee.double 4841369599423283200)) := order_sv Ieee.double (by decide) (Nat.le_of_lt hy) (by rw [e52.1]; exact P2_52)
  have hc : sv Ieee.double 4841369599423283200 = (Ft.mag Ieee.double (P2 52) : Int) := by unfold sv; rw [e52.2, e52.1]; rfl
  have hp : 0 < Ft.mag Ieee.double (P2 52) := by have := Ft.mag_lt Ieee.double (show 0 < P2 52 by decide); rw [Ft.mag_zero] at this; exact this
  rw [ho, hc]
  unfold sv
  cases hs : sgn Ieee.double y
  · simp only [Bool.false_eq_true, if_false, Bool.not_false, Bool.true_and]
    by_cases h : P2 52 ≤ rung Ieee.double y
    · rw [decide_eq_true h]
      by_cases he : P2 52 = rung Ieee.double y
      · rw [← he, compare_eq rfl]; rfl
      · rw [compare_gt (by have := Ft.mag_lt Ieee.double (show P2 52 < rung Ieee.double y by omega); omega)]; rfl
    · rw [decide_eq_false h, compare_lt (by have := Ft.mag_lt Ieee.double (show rung Ieee.double y < P2 52 by omega); omega)]; rfl
  · simp only [if_true, Bool.not_true, Bool.false_and]
    rw [compare_lt (by omega)]; rfl
theorem big_neg {y : Nat} (hy : rung Ieee.double y < Ieee.double.infRung) : (FloatKind.f64.format.order y 14064741636278059008 == some .lt || FloatKind.f64.format.order y 14064741636278059008 == some .eq) = (sgn Ieee.double y && decide (P2 52 ≤ rung Ieee.double y)) := by
  have ho : FloatKind.f64.format.order y 14064741636278059008 = some (compare (sv Ieee.double y) (sv Ieee.double 14064741636278059008)) := order_sv Ieee.double (by decide) (Nat.le_of_lt hy) (by rw [m52.1]; exact P2_52)
  have hc : sv Ieee.double 14064741636278059008 = -(Ft.mag Ieee.double (P2 52) : Int) := by unfold sv; rw [m52.2, m52.1]; rfl
  have hp : 0 < Ft.mag Ieee.double (P2 52) := by have := Ft.mag_lt Ieee.double (show 0 < P2 52 by decide); rw [Ft.mag_zero] at this; exact this
  rw [ho, hc]
  unfold sv
  cases hs : sgn Ieee.double y
  · simp only [Bool.false_eq_true, if_false, Bool.false_and]
    rw [compare_gt (by omega)]; rfl
  · simp only [if_true, Bool.true_and]
    by_cases h : P2 52 ≤ rung Ieee.double y
    · rw [decide_eq_true h]
      by_cases he : P2 52 = rung Ieee.double y
      · rw [← he, compare_eq rfl]; rfl
      · rw [compare_lt (by have := Ft.mag_lt Ieee.double (show P2 52 < rung Ieee.double y by omega); omega)]; rfl
    · rw [decide_eq_false h, compare_gt (by have := Ft.mag_lt Ieee.double (show rung Ieee.double y < P2 52 by omega); omega)]; rfl
theorem big_abs {y : Nat} (hy : rung Ieee.double y < Ieee.double.infRung) : (FloatKind.f64.format.order (y % 9223372036854775808) 4841369599423283200 == some .gt || FloatKind.f64.format.order (y % 9223372036854775808) 4841369599423283200 == some .eq) = decide (P2 52 ≤ rung Ieee.double y) := by
  have hsw : Ieee.double.signWeight = 9223372036854775808 := by decide
  have hrun : rung Ieee.double (y % 9223372036854775808) = rung Ieee.double y := by unfold rung; rw [hsw]; exact Nat.mod_mod _ _
  have hsg : sgn Ieee.double (y % 9223372036854775808) = false := by unfold sgn; rw [hsw, Nat.div_eq_of_lt (Nat.mod_lt _ (by decide))]; rfl
  rw [big_pos (by rw [hrun]; exact hy), hrun, hsg]; rfl

def tru (y : Nat) : Int := (floatToIntVal .f64 y .i64).getD 0
theorem tru_eq {y : Nat} (h : rung Ieee.double y ≤ P2 52) : floatToIntVal .f64 y .i64 = some (tru y) := by
  obtain ⟨T, _, he, _, _⟩ := trunc_of h
  unfold tru; rw [he]; rfl
/-- SineTurns, as what its result reads as. -/
def sinT (x : Nat) : Option Nat :=
  if rung Ieee.single x < Ieee.single.infRung then
    if P2 52 ≤ rung Ieee.double (wid x) then some 0 else fconv .f64 .f32 (sinV (fracV (wid x) (tru (wid x))))
  else none
theorem sinT_bad {x : Nat} (h : ¬ rung Ieee.single x < Ieee.single.infRung) : sinT x = none := by unfold sinT; rw [if_neg h]
theorem sinT_big {x : Nat} (h : rung Ieee.single x < Ieee.single.infRung) (hb : P2 52 ≤ rung Ieee.double (wid x)) : sinT x = some 0 := by unfold sinT; rw [if_pos h, if_pos hb]
theorem sinT_ok {x r s : Nat} (h : rung Ieee.single x < Ieee.single.infRung) (hb : ¬ P2 52 ≤ rung Ieee.double (wid x)) (hs : FV .f64 (sinV (fracV (wid x) (tru (wid x)))) s) (hr : FC .f64 .f32 (fl .f64 s) r) : fl .f32 r = sinT x := by
  have hle : rung Ieee.double (wid x) ≤ P2 52 := by omega
  have hbd := bd_sin (bd_frac hle (tru_eq hle))
  unfold sinT; rw [if_pos h, if_neg hb]
  rw [hs.1] at hr
  exact hr.1 (bd_over hbd)
theorem nan_fl : fl .f64 9221120237041090561 = none := by decide +kernel
theorem nan_narrow {r : Nat} (h : FC .f64 .f32 (fl .f64 9221120237041090561) r) : fl .f32 r = none := by rw [nan_fl] at h; exact h.1 rfl
theorem zero_narrow {r : Nat} (h : FC .f64 .f32 (fl .f64 0) r) : fl .f32 r = some 0 := by
  rw [fl_zero] at h
  rw [h.1 (by decide)]; decide

theorem math_NaN (w : World) : Calls Try.prog 44 #[] w fun e w' => e = .returned (.float .f64 9221120237041090561) ∧ w = w' := by
  go_enter Try.func44, Try.ntmps44
  go_wp2
  go_ret
  exact ⟨rfl, rfl⟩
set_option maxHeartbeats 1000000 in
theorem impl_SineTurns (x : Nat) (w : World) : Calls Try.prog 23 #[.float .f32 x] w (RetF .f32 (fun r => fl .f32 r = sinT x) w) := by
  by_cases hx : rung Ieee.single x < Ieee.single.infRung
  · have hfb := finB_yes hx
    have HX := Lib.hid hx
    have hba := big_abs (wid_fin hx)
    have hwl := wid_lt x
    by_cases hb : P2 52 ≤ rung Ieee.double (wid x)
    · rw [decide_eq_true hb] at hba
      have H := Lib.hid (sinT_big hx hb)
      clear hx hb
      go_enter Try.func23, Try.ntmps23
      go_wp2_with (first | (refine wpList_fconv _ _ _ rfl rfl .f32 .f64 (by decide) _ rfl (by rw [Try.underlying22]; rfl) Try.underlying25 ?_; intro r n hr; obtain rfl := wid_eq HX.out hr; clear hr) | (go_at_call 45; refine (impl_IsFinite _ _).mono ?_; rintro e w' ⟨rfl, n, rfl⟩) | (go_at_call 48; refine (math_Abs _ hwl _).mono ?_; rintro e w' ⟨rfl, rfl⟩))
      go_ret
      exact ⟨0, _, H.out.symm, rfl, rfl⟩
    · rw [decide_eq_false hb] at hba
      have HB := Lib.hid hb
      have HN := Lib.hid (tru_eq (show rung Ieee.double (wid x) ≤ P2 52 by omega))
      clear hx hb
      go_enter Try.func23, Try.ntmps23
      go_wp2_with (first | (refine wpList_fconv _ _ _ rfl rfl .f32 .f64 (by decide) _ rfl (by rw [Try.underlying22]; rfl) Try.underlying25 ?_; intro r n hr; obtain rfl := wid_eq HX.out hr; clear hr) | (refine wpList_fconv _ _ _ rfl rfl .f64 .f32 (by decide) _ rfl (by rw [Try.underlying25]; rfl) Try.underlying22 ?_; intro r n hr) | (go_at_call 45; refine (impl_IsFinite _ _).mono ?_; rintro e w' ⟨rfl, n, rfl⟩) | (go_at_call 48; refine (math_Abs _ hwl _).mono ?_; rintro e w' ⟨rfl, rfl⟩) | (go_at_call 49; refine (impl_sine _ _ HN.out _).mono ?_; rintro e w' ⟨r, n, hv, rfl, rfl⟩))
      go_ret
      exact ⟨_, _, sinT_ok HX.out HB.out (by assumption) (by assumption), rfl, rfl⟩
  · have hfb := finB_no hx
    have H := Lib.hid (sinT_bad hx)
    clear hx
    go_enter Try.func23, Try.ntmps23
    go_wp2_with (first | (refine wpList_fconv _ _ _ rfl rfl .f64 .f32 (by decide) _ rfl (by rw [Try.underlying25]; rfl) Try.underlying22 ?_; intro r n hr) | (go_at_call 45; refine (impl_IsFinite _ _).mono ?_; rintro e w' ⟨rfl, n, rfl⟩) | (go_at_call 44; refine (math_NaN _).mono ?_; rintro e w' ⟨rfl, rfl⟩))
    go_ret
    exact ⟨_, _, (nan_narrow (by assumption)).trans H.out.symm, rfl, rfl⟩

set_option maxHeartbeats 1000000 in
theorem spec_SineWide_bad (x y : Nat) (hx : ¬ rung Ieee.single x < Ieee.single.infRung) (h : FC .f32 .f64 (fl .f32 x) y) (w : World) : Calls Try.prog 70 #[.float .f64 y] w (RetF .f64 (fun r => r = 9221120237041090561) w) := by
  have H1 := Lib.hid hx
  have H2 := Lib.hid h
  clear hx h
  go_enter Try.func70, Try.ntmps70
  go_wp2_with (refine wpList_farith _ _ _ _ _ rfl rfl rfl _ _ _ rfl rfl ?_); intro d0 nd0 hd0
  have hs0 := self_bad H1.out H2.out hd0
  clear hd0
  go_wp2_with (go_at_call 44; refine (math_NaN _).mono ?_; rintro e w' ⟨rfl, rfl⟩)
  go_ret
  exact ⟨_, _, rfl, rfl, rfl⟩
set_option maxHeartbeats 1000000 in
theorem spec_SineWide_big (y : Nat) (hy : rung Ieee.double y < Ieee.double.infRung) (hb : P2 52 ≤ rung Ieee.double y) (w : World) : Calls Try.prog 70 #[.float .f64 y] w (RetF .f64 (fun r => r = 0) w) := by
  have h1 := big_pos hy
  have h2 := big_neg hy
  rw [decide_eq_true hb] at h1 h2
  have H1 := Lib.hid hy
  clear hy hb
  cases hs : sgn Ieee.double y <;> rw [hs] at h1 h2 <;> clear hs
  all_goals
    simp only [Bool.not_false, Bool.not_true, Bool.true_and, Bool.false_and] at h1 h2
    go_enter Try.func70, Try.ntmps70
    go_wp2_with (refine wpList_farith _ _ _ _ _ rfl rfl rfl _ _ _ rfl rfl ?_); intro d0 nd0 hd0
    have hs0 := self_ok H1.out hd0
    clear hd0
    go_wp2_with fail
    go_ret
    exact ⟨_, _, rfl, rfl, rfl⟩
set_option maxHeartbeats 1000000 in
theorem spec_l01Sine (x : Nat) (w : World) : Calls Try.prog 47 #[.float .f32 x] w (RetF .f32 (fun r => fl .f32 r = sinT x) w) := by
  by_cases hx : rung Ieee.single x < Ieee.single.infRung
  · have HX := Lib.hid hx
    have HF := Lib.hid (wid_fin hx)
    by_cases hb : P2 52 ≤ rung Ieee.double (wid x)
    · have H := Lib.hid (sinT_big hx hb)
      have HB := Lib.hid hb
      clear hx hb
      go_enter Try.func47, Try.ntmps47
      go_wp2_with (first | (refine wpList_fconv _ _ _ rfl rfl .f32 .f64 (by decide) _ rfl (by rw [Try.underlying22]; rfl) Try.underlying25 ?_; intro r n hr; obtain rfl := wid_eq HX.out hr; clear hr) | (go_at_call 70; refine (spec_SineWide_big _ HF.out HB.out _).mono ?_; rintro e w' ⟨r, n, rfl, rfl, rfl⟩) | (go_at_call 68; refine (spec_l01Narrow _ _).mono ?_; rintro e w' ⟨r, n, hv, rfl, rfl⟩))
      go_ret
      exact ⟨_, _, (zero_narrow (by assumption)).trans H.out.symm, rfl, rfl⟩
    · have h1 := big_pos (wid_fin hx)
      have h2 := big_neg (wid_fin hx)
      rw [decide_eq_false hb, Bool.and_false] at h1 h2
      have H1 := Lib.hid h1
      have H2 := Lib.hid h2
      have HB := Lib.hid hb
      have HN := Lib.hid (tru_eq (show rung Ieee.double (wid x) ≤ P2 52 by omega))
      clear hx hb h1 h2
      go_enter Try.func47, Try.ntmps47
      go_wp2_with (first | (refine wpList_fconv _ _ _ rfl rfl .f32 .f64 (by decide) _ rfl (by rw [Try.underlying22]; rfl) Try.underlying25 ?_; intro r n hr; obtain rfl := wid_eq HX.out hr; clear hr) | (go_at_call 70; refine (spec_l01SineWide _ _ HF.out H1.out H2.out HN.out _).mono ?_; rintro e w' ⟨r, n, hv, rfl, rfl⟩) | (go_at_call 68; refine (spec_l01Narrow _ _).mono ?_; rintro e w' ⟨r, n, hv, rfl, rfl⟩))
      go_ret
      exact ⟨_, _, sinT_ok HX.out HB.out (by assumption) (by assumption), rfl, rfl⟩
  · have H := Lib.hid (sinT_bad hx)
    have HX := Lib.hid hx
    clear hx
    go_enter Try.func47, Try.ntmps47
    go_wp2_with (first | (refine wpList_fconv _ _ _ rfl rfl .f32 .f64 (by decide) _ rfl (by rw [Try.underlying22]; rfl) Try.underlying25 ?_; intro r n hr) | (go_at_call 68; refine (spec_l01Narrow _ _).mono ?_; rintro e w' ⟨r, n, hv, rfl, rfl⟩) | (go_at_call 70; refine (spec_SineWide_bad x _ HX.out (by assumption) _).mono ?_; rintro e w' ⟨r, n, rfl, rfl, rfl⟩))
    go_ret
    exact ⟨_, _, (nan_narrow (by assumption)).trans H.out.symm, rfl, rfl⟩
theorem spec_SineTurns (x : Nat) (w : World) : Calls Try.prog 22 #[.float .f32 x] w (RetF .f32 (fun r => fl .f32 r = sinT x) w) := by
  go_enter Try.func22, Try.ntmps22
  go_wp2_with (go_at_call 47; refine (spec_l01Sine _ _).mono ?_; rintro e w' ⟨r, n, hv, rfl, rfl⟩)
  go_ret
  exact ⟨_, _, by assumption, rfl, rfl⟩

end Go.Proofs.Ytfnplomgicgenaa.WK