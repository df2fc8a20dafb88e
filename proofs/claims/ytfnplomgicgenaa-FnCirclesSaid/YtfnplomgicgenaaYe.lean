/- The walks: parts, times, power, PowerOf, MulComplex, AngleOf, b10Near. -/
import Derived.Test.YtfnplomgicgenaaWS
import Derived.Test.YtfnplomgicgenaaXc
namespace Go.Proofs.Ytfnplomgicgenaa.Ye
open Go Go.RowKit Fl Fs Fo Fw WA WB WH WI WK Fx WL WM WP WQ WR WS Xc
set_option linter.unusedVariables false
def RetP (k : FloatKind) (P : Nat → Nat → Prop) (w : World) (e : Ending) (w' : World) : Prop := ∃ a b n, P a b ∧ e = .returned (.tuple #[.float k a, .float k b]) ∧ w' = w.drewN n
/-- The word as a wide number. -/
def wv (x : Nat) : Option Nat := fconv .f32 .f64 (fl .f32 x)
def mRe (a b c d : Option Nat) : Option Nat := fop .sub .f64 (fop .mul .f64 a c) (fop .mul .f64 b d)
def mIm (a b c d : Option Nat) : Option Nat := fop .add .f64 (fop .mul .f64 a d) (fop .mul .f64 b c)
def pV (a b : Option Nat) : Option Nat := fop .add .f64 (fop .mul .f64 a a) (fop .mul .f64 b b)
theorem impl_parts (a b : Nat) (w : World) : Calls Try.prog 61 #[.complex .f32 a b] w (RetP .f64 (fun u v => FV .f64 (wv a) u ∧ FV .f64 (wv b) v) w) := by
  go_enter Try.func61, Try.ntmps61
  go_wp2_with (refine wpList_fconv _ _ _ rfl rfl .f32 .f64 (by decide) _ rfl (by rw [Try.underlying22]; rfl) Try.underlying25 ?_); intro u nu hu
  go_wp2_with (refine wpList_fconv _ _ _ rfl rfl .f32 .f64 (by decide) _ rfl (by rw [Try.underlying22]; rfl) Try.underlying25 ?_); intro v nv hv
  have HU := Lib.hid (show FV .f64 (wv a) u from ⟨FC_widen hu, hu.2⟩)
  have HV := Lib.hid (show FV .f64 (wv b) v from ⟨FC_widen hv, hv.2⟩)
  clear hu hv
  go_wp2
  go_ret2
  exact ⟨_, _, _, ⟨HU.out, HV.out⟩, rfl, rfl⟩
theorem impl_times (a b c d : Nat) (w : World) : Calls Try.prog 62 #[.float .f64 a, .float .f64 b, .float .f64 c, .float .f64 d] w (RetP .f64 (fun u v => FV .f64 (mRe (fl .f64 a) (fl .f64 b) (fl .f64 c) (fl .f64 d)) u ∧ FV .f64 (mIm (fl .f64 a) (fl .f64 b) (fl .f64 c) (fl .f64 d)) v) w) := by
  go_enter Try.func62, Try.ntmps62
  go_wp2_with (refine wpList_farith _ _ _ _ _ rfl rfl rfl _ _ _ rfl rfl ?_); intro p np hp
  go_wp2_with (refine wpList_farith _ _ _ _ _ rfl rfl rfl _ _ _ rfl rfl ?_); intro q nq hq
  go_wp2_with (refine wpList_farith _ _ _ _ _ rfl rfl rfl _ _ _ rfl rfl ?_); intro r nr hr
  have HR := Lib.hid (show FV .f64 (mRe (fl .f64 a) (fl .f64 b) (fl .f64 c) (fl .f64 d)) r from ⟨by rw [hr.1, hp.1, hq.1]; rfl, hr.2⟩)
  clear hp hq hr
  go_wp2_with (refine wpList_farith _ _ _ _ _ rfl rfl rfl _ _ _ rfl rfl ?_); intro s ns hs
  go_wp2_with (refine wpList_farith _ _ _ _ _ rfl rfl rfl _ _ _ rfl rfl ?_); intro t nt ht
  go_wp2_with (refine wpList_farith _ _ _ _ _ rfl rfl rfl _ _ _ rfl rfl ?_); intro u nu hu
  have HU := Lib.hid (show FV .f64 (mIm (fl .f64 a) (fl .f64 b) (fl .f64 c) (fl .f64 d)) u from ⟨by rw [hu.1, hs.1, ht.1]; rfl, hu.2⟩)
  clear hs ht hu
  go_wp2
  go_ret2
  exact ⟨_, _, _, ⟨HR.out, HU.out⟩, rfl, rfl⟩
theorem impl_power (a b : Nat) (w : World) : Calls Try.prog 60 #[.complex .f32 a b] w (RetF .f64 (FV .f64 (pV (wv a) (wv b))) w) := by
  go_enter Try.func60, Try.ntmps60
  go_wp2_with fail
  refine (impl_parts a b _).mono ?_
  rintro e w' ⟨u, v, n, ⟨hu, hv⟩, rfl, rfl⟩
  have HU := Lib.hid hu
  have HV := Lib.hid hv
  clear hu hv
  go_wp2_with (refine wpList_farith _ _ _ _ _ rfl rfl rfl _ _ _ rfl rfl ?_); intro p np hp
  go_wp2_with (refine wpList_farith _ _ _ _ _ rfl rfl rfl _ _ _ rfl rfl ?_); intro q nq hq
  go_wp2_with (refine wpList_farith _ _ _ _ _ rfl rfl rfl _ _ _ rfl rfl ?_); intro r nr hr
  have HR := Lib.hid (show FV .f64 (pV (wv a) (wv b)) r from ⟨by rw [hr.1, hp.1, hq.1, HU.out.1, HV.out.1]; rfl, hr.2⟩)
  clear hp hq hr
  go_wp2
  go_ret
  exact ⟨_, _, HR.out, rfl, rfl⟩
theorem impl_PowerOf (a b : Nat) (w : World) : Calls Try.prog 35 #[.complex .f32 a b] w (RetF .f32 (FC .f64 .f32 (pV (wv a) (wv b))) w) := by
  go_enter Try.func35, Try.ntmps35
  go_wp2_with fail
  refine (impl_power a b _).mono ?_
  rintro e w' ⟨p, np, hp, rfl, rfl⟩
  have HP := Lib.hid hp
  clear hp
  go_wp2_with (refine wpList_fconv _ _ _ rfl rfl .f64 .f32 (by decide) _ rfl (by rw [Try.underlying25]; rfl) Try.underlying22 ?_); intro r nr hr
  have HR := Lib.hid (show FC .f64 .f32 (pV (wv a) (wv b)) r by rw [← HP.out.1]; exact hr)
  clear hr
  go_wp2
  go_ret
  exact ⟨_, _, HR.out, rfl, rfl⟩
theorem impl_MulComplex (a b c d : Nat) (w : World) : Calls Try.prog 37 #[.complex .f32 a b, .complex .f32 c d] w (RetC (fun r s => FC .f64 .f32 (mRe (wv a) (wv b) (wv c) (wv d)) r ∧ FC .f64 .f32 (mIm (wv a) (wv b) (wv c) (wv d)) s) w) := by
  go_enter Try.func37, Try.ntmps37
  go_wp2_with fail
  refine (impl_parts a b _).mono ?_
  rintro e w' ⟨u, v, n, ⟨hu, hv⟩, rfl, rfl⟩
  have HU := Lib.hid hu
  have HV := Lib.hid hv
  clear hu hv
  go_wp2_with fail
  refine (impl_parts c d _).mono ?_
  rintro e w' ⟨p, q, m, ⟨hp, hq⟩, rfl, rfl⟩
  have HP := Lib.hid hp
  have HQ := Lib.hid hq
  clear hp hq
  go_wp2_with fail
  refine (impl_times u v p q _).mono ?_
  rintro e w' ⟨x, y, k, ⟨hx, hy⟩, rfl, rfl⟩
  have HX := Lib.hid hx.1
  have HY := Lib.hid hy.1
  clear hx hy
  go_wp2_with (refine wpList_fconv _ _ _ rfl rfl .f64 .f32 (by decide) _ rfl (by rw [Try.underlying25]; rfl) Try.underlying22 ?_); intro r nr hr
  go_wp2_with (refine wpList_fconv _ _ _ rfl rfl .f64 .f32 (by decide) _ rfl (by rw [Try.underlying25]; rfl) Try.underlying22 ?_); intro s ns hs
  have HR := Lib.hid (show FC .f64 .f32 (mRe (wv a) (wv b) (wv c) (wv d)) r by rw [HX.out, HU.out.1, HV.out.1, HP.out.1, HQ.out.1] at hr; exact hr)
  have HS := Lib.hid (show FC .f64 .f32 (mIm (wv a) (wv b) (wv c) (wv d)) s by rw [HY.out, HU.out.1, HV.out.1, HP.out.1, HQ.out.1] at hs; exact hs)
  clear hr hs
  go_wp2
  go_ret
  exact ⟨_, _, _, ⟨HR.out, HS.out⟩, rfl, rfl⟩
theorem impl_AngleOf (a b : Nat) (w : World) : Calls Try.prog 34 #[.complex .f32 a b] w (RetF .f32 (fun r => fl .f32 r = angT b a) w) := by
  go_enter Try.func34, Try.ntmps34
  go_wp2_with fail
  refine (impl_AngleTurns b a _).mono ?_
  rintro e w' ⟨r, n, hr, rfl, rfl⟩
  have HR := Lib.hid hr
  clear hr
  go_wp2
  go_ret
  exact ⟨_, _, HR.out, rfl, rfl⟩
/-- Near numbers. -/
def leC (a b : Option Nat) : Bool := fcmp .f64 a b == some .lt || fcmp .f64 a b == some .eq
theorem le_is {g m : Nat} {o : Option Nat} (h : leC o (fl .f64 m) = true) (hg : FV .f64 o g) : (FloatKind.f64.format.order g m == some .lt || FloatKind.f64.format.order g m == some .eq) = true := by
  rw [order_fl, hg.1]; exact h
theorem b10Near_yes (a b c d m : Nat) (h1 : leC (gapV (wv a) (wv c)) (fl .f64 m) = true) (h2 : leC (gapV (wv b) (wv d)) (fl .f64 m) = true) (w : World) :
    Calls Try.prog 36 #[.complex .f32 a b, .complex .f32 c d, .float .f64 m] w fun e w' => e = .returned (.bool true) ∧ ∃ n, w' = w.drewN n := by
  have H1 := Lib.hid h1
  have H2 := Lib.hid h2
  clear h1 h2
  go_enter Try.func36, Try.ntmps36
  go_wp2_with (refine wpList_fconv _ _ _ rfl rfl .f32 .f64 (by decide) _ rfl (by rw [Try.underlying22]; rfl) Try.underlying25 ?_); intro u nu hu
  go_wp2_with (refine wpList_fconv _ _ _ rfl rfl .f32 .f64 (by decide) _ rfl (by rw [Try.underlying22]; rfl) Try.underlying25 ?_); intro v nv hv
  go_wp2_with fail
  refine (b10Gap_any u v _).mono ?_
  rintro e w' ⟨g, ng, hg, rfl, rfl⟩
  have t1 := le_is H1.out (show FV .f64 (gapV (wv a) (wv c)) g by rw [FC_widen hu, FC_widen hv] at hg; exact hg)
  clear hu hv hg
  go_wp2_with (refine wpList_fconv _ _ _ rfl rfl .f32 .f64 (by decide) _ rfl (by rw [Try.underlying22]; rfl) Try.underlying25 ?_); intro p np hp
  go_wp2_with (refine wpList_fconv _ _ _ rfl rfl .f32 .f64 (by decide) _ rfl (by rw [Try.underlying22]; rfl) Try.underlying25 ?_); intro q nq hq
  go_wp2_with fail
  refine (b10Gap_any p q _).mono ?_
  rintro e w' ⟨f, nf, hf, rfl, rfl⟩
  have t2 := le_is H2.out (show FV .f64 (gapV (wv b) (wv d)) f by rw [FC_widen hp, FC_widen hq] at hf; exact hf)
  clear hp hq hf
  go_wp2
  go_ret
  exact ⟨rfl, _, rfl⟩
end Go.Proofs.Ytfnplomgicgenaa.Ye