/- The walks: AngleTurns. -/
import Derived.Test.YtfnplomgicgenaaWN
import Derived.Test.YtfnplomgicgenaaFa
namespace Go.Proofs.Ytfnplomgicgenaa.WP
open Go.RowKit Fl Fs Fo Fw Fb Fm Ff Fz Fy Fx Fa WA WB WH WI WJ WK WL WM WN
set_option maxRecDepth 20000

def absW (x : Nat) : Nat := wid x % 9223372036854775808
def ltz (x : Nat) : Bool := FloatKind.f32.format.order x 0 == some .lt
def eqz (x : Nat) : Bool := FloatKind.f32.format.order x 0 == some .eq
theorem abs_fin {x : Nat} (hx : rung Ieee.single x < Ieee.single.infRung) : absW x < Ieee.double.infRung := by
  have := wid_fin hx
  have hsw : Ieee.double.signWeight = 9223372036854775808 := by decide
  unfold rung at this
  rw [hsw] at this
  exact this
theorem abs_ne {x : Nat} (hx : rung Ieee.single x < Ieee.single.infRung) (h : eqz x = false) : absW x ≠ 0 := by
  have h0 : 0 < rung Ieee.single x := by
    by_cases h0 : rung Ieee.single x = 0
    · exfalso
      unfold eqz at h
      rw [order0 (Nat.le_of_lt hx), if_pos h0] at h; cases h
    · omega
  obtain ⟨s, g1, g2, g3⟩ := widen_word hx
  have e : rung Ieee.double (wid x) = s := by unfold wid; rw [g3, rung_word' _ _ (Nat.le_of_lt g1)]
  have hsw : Ieee.double.signWeight = 9223372036854775808 := by decide
  have e2 : absW x = s := by rw [← e]; unfold rung absW; rw [hsw]
  rw [e2]
  intro hs
  rw [hs, Ft.mag_zero] at g2
  have a2 := Ft.mag_lt Ieee.single h0
  rw [Ft.mag_zero] at a2
  have := Nat.mul_pos a2 (Nat.two_pow_pos 925)
  omega
/-- The angle's reading. -/
def angT (y x : Nat) : Option Nat :=
  if rung Ieee.single x < Ieee.single.infRung ∧ rung Ieee.single y < Ieee.single.infRung then
    if eqz x && eqz y then some 0 else fconv .f64 .f32 (ang3 (absW y) (absW x) (ltz x) (ltz y))
  else none
theorem angT_bad {y x : Nat} (h : ¬ (rung Ieee.single x < Ieee.single.infRung ∧ rung Ieee.single y < Ieee.single.infRung)) : angT y x = none := by unfold angT; rw [if_neg h]
theorem angT_zero {y x : Nat} (h1 : rung Ieee.single x < Ieee.single.infRung) (h2 : rung Ieee.single y < Ieee.single.infRung) (h : (eqz x && eqz y) = true) : angT y x = some 0 := by unfold angT; rw [if_pos ⟨h1, h2⟩, if_pos h]
theorem angT_ok {y x r s : Nat} (h1 : rung Ieee.single x < Ieee.single.infRung) (h2 : rung Ieee.single y < Ieee.single.infRung) (h : (eqz x && eqz y) = false) (hs : FV .f64 (ang3 (absW y) (absW x) (ltz x) (ltz y)) s) (hr : FC .f64 .f32 (fl .f64 s) r) : fl .f32 r = angT y x := by
  have hne : absW y ≠ 0 ∨ absW x ≠ 0 := by
    cases hx : eqz x
    · exact .inr (abs_ne h1 hx)
    · rw [hx, Bool.true_and] at h; exact .inl (abs_ne h2 h)
  have hb := bd_ang3 (sx := ltz x) (sy := ltz y) (abs_fin h2) (abs_fin h1) hne
  unfold angT
  rw [if_pos ⟨h1, h2⟩, if_neg (by rw [h]; simp)]
  rw [hs.1] at hr
  exact hr.1 (bd_over hb)
theorem fl_abs {x : Nat} (hx : rung Ieee.single x < Ieee.single.infRung) : fl .f64 (absW x) = some (absW x) := fl_const (by rw [(pos_word (Nat.le_of_lt (abs_fin hx))).1]; exact Nat.le_of_lt (abs_fin hx))

theorem angT_fin {y x r s : Nat} (h1 : rung Ieee.single x < Ieee.single.infRung) (h2 : rung Ieee.single y < Ieee.single.infRung) (h : (eqz x && eqz y) = false) (hr : FC .f64 .f32 (fl .f64 s) r) (hs : FV .f64 (ang3 (absW y) (absW x) (ltz x) (ltz y)) s) : fl .f32 r = angT y x := angT_ok h1 h2 h hs hr
theorem t0_no {a b r : Nat} (ha : fl .f64 a = some a) (hb : fl .f64 b = some b) (ho : (FloatKind.f64.format.order a b == some .gt) = false) (hr : FV .f64 (fop .quo .f64 (fl .f64 a) (fl .f64 b)) r) : FV .f64 (tV (t0V a b) 0) r := by
  refine ⟨?_, hr.2⟩
  show _ = t0V a b
  unfold t0V; rw [ho, if_neg (by simp), hr.1, ha, hb]
theorem t0_yes {a b r : Nat} (ha : fl .f64 a = some a) (hb : fl .f64 b = some b) (ho : (FloatKind.f64.format.order a b == some .gt) = true) (hr : FV .f64 (fop .quo .f64 (fl .f64 b) (fl .f64 a)) r) : FV .f64 (tV (t0V a b) 0) r := by
  refine ⟨?_, hr.2⟩
  show _ = t0V a b
  unfold t0V; rw [ho, if_pos rfl, hr.1, ha, hb]
theorem t_step {T : Option Nat} {t r d q v u : Nat} {j : Nat} (ht : FV .f64 (tV T j) t) (hr : FV .f64 (fop .quo .f64 (fl .f64 t) (fl .f64 d)) r) (hd : FV .f64 (fop .add .f64 (fl .f64 4607182418800017408) (fl .f64 q)) d) (hq : FV .f64 (fsqrt (fl .f64 v)) q)
    (hv : FV .f64 (fop .add .f64 (fl .f64 4607182418800017408) (fl .f64 u)) v) (hu : FV .f64 (fop .mul .f64 (fl .f64 t) (fl .f64 t)) u) : FV .f64 (tV T (j + 1)) r := by
  refine ⟨?_, hr.2⟩
  rw [hr.1, hd.1, hq.1, hv.1, hu.1, ht.1]; rfl
theorem k15_ge : ∀ j : Nat, j < 9 → (FloatKind.f64.format.order (fi (15 - 2 * (j : Int))) 4607182418800017408 == some .gt || FloatKind.f64.format.order (fi (15 - 2 * (j : Int))) 4607182418800017408 == some .eq) = decide (j < 8) := by decide +kernel
theorem k15_sub : ∀ j : Nat, j < 8 → fop .sub .f64 (some (fi (15 - 2 * (j : Int)))) (some 4611686018427387904) = some (fi (15 - 2 * ((j + 1 : Nat) : Int))) := by decide +kernel
theorem k15_fl : ∀ j : Nat, j < 9 → fl .f64 (fi (15 - 2 * (j : Int))) = some (fi (15 - 2 * (j : Int))) := by decide +kernel
theorem k15_dec : ∀ j : Nat, j < 8 → qmeas (.float .f64 (fi (15 - 2 * ((j + 1 : Nat) : Int)))) < qmeas (.float .f64 (fi (15 - 2 * (j : Int)))) := by
  have h : ∀ j : Nat, j < 8 → (if fi (15 - 2 * ((j + 1 : Nat) : Int)) < 9223372036854775808 then fi (15 - 2 * ((j + 1 : Nat) : Int)) + 1 else 0) < (if fi (15 - 2 * (j : Int)) < 9223372036854775808 then fi (15 - 2 * (j : Int)) + 1 else 0) := by decide +kernel
  exact h
theorem k15_step {j r : Nat} (hj : j < 8) (hr : FV .f64 (fop .sub .f64 (fl .f64 (fi (15 - 2 * (j : Int)))) (fl .f64 4611686018427387904)) r) : r = fi (15 - 2 * ((j + 1 : Nat) : Int)) := by
  have e2 : fl .f64 4611686018427387904 = some 4611686018427387904 := rfl
  have h := hr.1
  rw [k15_fl j (by omega), e2, k15_sub j hj] at h
  exact ((fl_some h).1).symm
theorem k15_meas {j r : Nat} (hj : j < 8) (hr : FV .f64 (fop .sub .f64 (fl .f64 (fi (15 - 2 * (j : Int)))) (fl .f64 4611686018427387904)) r) : qmeas (.float .f64 r) < qmeas (.float .f64 (fi (15 - 2 * (j : Int)))) := by
  rw [k15_step hj hr]; exact k15_dec j hj
theorem a_step {u q a b r : Nat} {j : Nat} (hj : j < 8) (hq : FV .f64 (aV (fl .f64 u) j) q) (hr : FV .f64 (fop .sub .f64 (fl .f64 a) (fl .f64 b)) r)
    (ha : FV .f64 (fop .quo .f64 (fl .f64 4607182418800017408) (fl .f64 (fi (15 - 2 * (j : Int))))) a) (hb : FV .f64 (fop .mul .f64 (fl .f64 u) (fl .f64 q)) b) : FV .f64 (aV (fl .f64 u) (j + 1)) r := by
  refine ⟨?_, hr.2⟩
  rw [hr.1, ha.1, hb.1, hq.1, k15_fl j (by omega)]; rfl
theorem e0 {T : Option Nat} {t u p m1 m2 g : Nat} (ht : FV .f64 (tV T 3) t) (hp : FV .f64 (aV (fl .f64 u) 8) p) (hu : FV .f64 (fop .mul .f64 (fl .f64 t) (fl .f64 t)) u)
    (hg : FV .f64 (fop .quo .f64 (fl .f64 m2) (fl .f64 4618760256179416344)) g) (hm2 : FV .f64 (fop .mul .f64 (fl .f64 4620693217682128896) (fl .f64 m1)) m2) (hm1 : FV .f64 (fop .mul .f64 (fl .f64 t) (fl .f64 p)) m1) : FV .f64 (ang0 (tV T 3)) g := by
  refine ⟨?_, hg.2⟩
  rw [hg.1, hm2.1, hm1.1, hp.1, hu.1, ht.1]; rfl
theorem e1no {a b g : Nat} (ho : (FloatKind.f64.format.order a b == some .gt) = false) (h : FV .f64 (ang0 (tV (t0V a b) 3)) g) : FV .f64 (ang1 a b) g := by
  unfold ang1; rw [ho, if_neg (by simp)]; exact h
theorem e1yes {a b g h : Nat} (ho : (FloatKind.f64.format.order a b == some .gt) = true) (hh : FV .f64 (fop .sub .f64 (fl .f64 4598175219545276416) (fl .f64 g)) h) (hg : FV .f64 (ang0 (tV (t0V a b) 3)) g) : FV .f64 (ang1 a b) h := by
  unfold ang1; rw [ho, if_pos rfl]; exact ⟨by rw [hh.1, hg.1]; rfl, hh.2⟩
theorem e2no {a b g : Nat} {s : Bool} (hs : s = false) (h : FV .f64 (ang1 a b) g) : FV .f64 (ang2 a b s) g := by subst hs; exact h
theorem e2yes {a b g h : Nat} {s : Bool} (hs : s = true) (hh : FV .f64 (fop .sub .f64 (fl .f64 4602678819172646912) (fl .f64 g)) h) (hg : FV .f64 (ang1 a b) g) : FV .f64 (ang2 a b s) h := by
  subst hs; exact ⟨by rw [hh.1, hg.1]; rfl, hh.2⟩
theorem e3no {a b g : Nat} {s t : Bool} (ht : t = false) (h : FV .f64 (ang2 a b s) g) : FV .f64 (ang3 a b s t) g := by subst ht; exact h
theorem e3yes {a b g : Nat} {s t : Bool} (ht : t = true) (h : FV .f64 (ang2 a b s) g) : FV .f64 (ang3 a b s t) (Op.negFloat .f64 g) := by
  subst ht
  have hn := neg_fl (s := g) h.2
  refine ⟨?_, hn.2⟩
  rw [hn.1, h.1]; rfl

set_option maxHeartbeats 16000000 in
theorem impl_AngleTurns_a (y x : Nat) (h1 : rung Ieee.single x < Ieee.single.infRung) (h2 : rung Ieee.single y < Ieee.single.infRung) (hz : eqz x = false) (w : World) : Calls Try.prog 33 #[.float .f32 y, .float .f32 x] w (RetF .f32 (fun r => fl .f32 r = angT y x) w) := by
  have f1 := finB_yes h1
  have f2 := finB_yes h2
  have HX := Lib.hid h1
  have HY := Lib.hid h2
  have hz' : (FloatKind.f32.format.order x 0 == some .eq) = false := hz
  have HZ := Lib.hid (show (eqz x && eqz y) = false by rw [hz]; rfl)
  clear h1 h2 hz
  cases ho : (FloatKind.f64.format.order (wid y % 9223372036854775808) (wid x % 9223372036854775808) == some .gt)
  · have HO := Lib.hid ho
    go_enter Try.func33, Try.ntmps33
    go_wp2_with (first | (refine wpList_fconv _ _ _ rfl rfl .f32 .f64 (by decide) _ rfl (by rw [Try.underlying22]; rfl) Try.underlying25 ?_; intro r n hr; first | (obtain rfl := wid_eq HY.out hr; clear hr) | (obtain rfl := wid_eq HX.out hr; clear hr)) | (go_at_call 45; refine (impl_IsFinite _ _).mono ?_; rintro e w' ⟨rfl, n, rfl⟩) | (go_at_call 48; refine (math_Abs _ (wid_lt _) _).mono ?_; rintro e w' ⟨rfl, rfl⟩) | (refine wpList_farith _ _ _ _ _ rfl rfl rfl _ _ _ rfl rfl ?_; intro r n hr))
    go_loopw [7, 43] (fun a b wr => ∃ (j r N : Nat), j ≤ 3 ∧ FV .f64 (tV (t0V (absW y) (absW x)) j) r ∧ a = .float .f64 r ∧ b = .int .i64 j ∧ wr = w.drewN N) (fun _ b _ => 3 - (intOf b).toNat)
    case atStart => exact ⟨0, _, _, by omega, t0_no (fl_abs HY.out) (fl_abs HX.out) HO.out (by assumption), rfl, rfl, rfl⟩
    case round =>
      obtain ⟨j, t, N, hj, ht, rfl, rfl, rfl⟩ := hrel
      by_cases hlt : j < 3
      · go_wp2_with (first | (refine wpList_farith _ _ _ _ _ rfl rfl rfl _ _ _ rfl rfl ?_; intro r n hr) | (go_at_call 51; refine (math_Sqrt _ _).mono ?_; rintro e w' ⟨r, n, hv, rfl, rfl⟩))
        go_roundw
        case rel => exact ⟨j + 1, _, _, by omega, t_step ht (by assumption) (by assumption) (by assumption) (by assumption) (by assumption), rfl, by go_num, rfl⟩
        case measure => simp [intOf]; omega
      · have hd : decide ((j : Int) < 3) = false := by simp; omega
        obtain rfl : j = 3 := by omega
        go_wp2_with (refine wpList_farith _ _ _ _ _ rfl rfl rfl _ _ _ rfl rfl ?_); intro u nu hu
        go_wp2_with fail
        clear hd
        go_loopw [9, 10] (fun a b wr => ∃ (j r N : Nat), j ≤ 8 ∧ FV .f64 (aV (fl .f64 u) j) r ∧ a = .float .f64 r ∧ b = .float .f64 (fi (15 - 2 * (j : Int))) ∧ wr = w.drewN N) (fun _ b _ => qmeas b)
        case atStart => exact ⟨0, 0, _, by omega, ⟨rfl, by decide⟩, rfl, (by exact fl_eq (by decide +kernel)), rfl⟩
        case round =>
          obtain ⟨j, p, N2, hj, hp, rfl, rfl, rfl⟩ := hrel
          have hge := k15_ge j (by omega)
          by_cases hlt2 : j < 8
          · rw [decide_eq_true hlt2] at hge
            go_wp2_with (refine wpList_farith _ _ _ _ _ rfl rfl rfl _ _ _ rfl rfl ?_; intro r n hr)
            go_roundw
            case rel =>
              refine ⟨j + 1, _, _, by omega, ?_, rfl, ?_, rfl⟩
              · exact a_step hlt2 hp (by assumption) (by assumption) (by assumption)
              · exact fl_eq (k15_step hlt2 (by assumption))
            case measure => exact k15_meas hlt2 (by assumption)
          · rw [decide_eq_false hlt2] at hge
            obtain rfl : j = 8 := by omega
            cases hsx : ltz x <;> cases hsy : ltz y
            · have hsx0 := Lib.hid hsx; have hsy0 := Lib.hid hsy
              have hsx1 : (FloatKind.f32.format.order x 0 == some .lt) = _ := hsx
              have hsy1 : (FloatKind.f32.format.order y 0 == some .lt) = _ := hsy
              clear hsx hsy
              go_wp2_with (first | (refine wpList_farith _ _ _ _ _ rfl rfl rfl _ _ _ rfl rfl ?_; intro r n hr) | (refine wpList_fconv _ _ _ rfl rfl .f64 .f32 (by decide) _ rfl (by rw [Try.underlying25]; rfl) Try.underlying22 ?_; intro r n hr) | (refine wpList_fneg _ _ rfl rfl _ _ rfl ?_))
              go_ret
              exact ⟨_, _, angT_fin HX.out HY.out HZ.out (by assumption) (e3no hsy0.out (e2no hsx0.out (e1no HO.out (e0 ht hp hu (by assumption) (by assumption) (by assumption))))), rfl, rfl⟩
            · have hsx0 := Lib.hid hsx; have hsy0 := Lib.hid hsy
              have hsx1 : (FloatKind.f32.format.order x 0 == some .lt) = _ := hsx
              have hsy1 : (FloatKind.f32.format.order y 0 == some .lt) = _ := hsy
              clear hsx hsy
              go_wp2_with (first | (refine wpList_farith _ _ _ _ _ rfl rfl rfl _ _ _ rfl rfl ?_; intro r n hr) | (refine wpList_fconv _ _ _ rfl rfl .f64 .f32 (by decide) _ rfl (by rw [Try.underlying25]; rfl) Try.underlying22 ?_; intro r n hr) | (refine wpList_fneg _ _ rfl rfl _ _ rfl ?_))
              go_ret
              exact ⟨_, _, angT_fin HX.out HY.out HZ.out (by assumption) (e3yes hsy0.out (e2no hsx0.out (e1no HO.out (e0 ht hp hu (by assumption) (by assumption) (by assumption))))), rfl, rfl⟩
            · have hsx0 := Lib.hid hsx; have hsy0 := Lib.hid hsy
              have hsx1 : (FloatKind.f32.format.order x 0 == some .lt) = _ := hsx
              have hsy1 : (FloatKind.f32.format.order y 0 == some .lt) = _ := hsy
              clear hsx hsy
              go_wp2_with (first | (refine wpList_farith _ _ _ _ _ rfl rfl rfl _ _ _ rfl rfl ?_; intro r n hr) | (refine wpList_fconv _ _ _ rfl rfl .f64 .f32 (by decide) _ rfl (by rw [Try.underlying25]; rfl) Try.underlying22 ?_; intro r n hr) | (refine wpList_fneg _ _ rfl rfl _ _ rfl ?_))
              go_ret
              exact ⟨_, _, angT_fin HX.out HY.out HZ.out (by assumption) (e3no hsy0.out (e2yes hsx0.out (by assumption) (e1no HO.out (e0 ht hp hu (by assumption) (by assumption) (by assumption))))), rfl, rfl⟩
            · have hsx0 := Lib.hid hsx; have hsy0 := Lib.hid hsy
              have hsx1 : (FloatKind.f32.format.order x 0 == some .lt) = _ := hsx
              have hsy1 : (FloatKind.f32.format.order y 0 == some .lt) = _ := hsy
              clear hsx hsy
              go_wp2_with (first | (refine wpList_farith _ _ _ _ _ rfl rfl rfl _ _ _ rfl rfl ?_; intro r n hr) | (refine wpList_fconv _ _ _ rfl rfl .f64 .f32 (by decide) _ rfl (by rw [Try.underlying25]; rfl) Try.underlying22 ?_; intro r n hr) | (refine wpList_fneg _ _ rfl rfl _ _ rfl ?_))
              go_ret
              exact ⟨_, _, angT_fin HX.out HY.out HZ.out (by assumption) (e3yes hsy0.out (e2yes hsx0.out (by assumption) (e1no HO.out (e0 ht hp hu (by assumption) (by assumption) (by assumption))))), rfl, rfl⟩


  · have HO := Lib.hid ho
    go_enter Try.func33, Try.ntmps33
    go_wp2_with (first | (refine wpList_fconv _ _ _ rfl rfl .f32 .f64 (by decide) _ rfl (by rw [Try.underlying22]; rfl) Try.underlying25 ?_; intro r n hr; first | (obtain rfl := wid_eq HY.out hr; clear hr) | (obtain rfl := wid_eq HX.out hr; clear hr)) | (go_at_call 45; refine (impl_IsFinite _ _).mono ?_; rintro e w' ⟨rfl, n, rfl⟩) | (go_at_call 48; refine (math_Abs _ (wid_lt _) _).mono ?_; rintro e w' ⟨rfl, rfl⟩) | (refine wpList_farith _ _ _ _ _ rfl rfl rfl _ _ _ rfl rfl ?_; intro r n hr))
    go_loopw [7, 43] (fun a b wr => ∃ (j r N : Nat), j ≤ 3 ∧ FV .f64 (tV (t0V (absW y) (absW x)) j) r ∧ a = .float .f64 r ∧ b = .int .i64 j ∧ wr = w.drewN N) (fun _ b _ => 3 - (intOf b).toNat)
    case atStart => exact ⟨0, _, _, by omega, t0_yes (fl_abs HY.out) (fl_abs HX.out) HO.out (by assumption), rfl, rfl, rfl⟩
    case round =>
      obtain ⟨j, t, N, hj, ht, rfl, rfl, rfl⟩ := hrel
      by_cases hlt : j < 3
      · go_wp2_with (first | (refine wpList_farith _ _ _ _ _ rfl rfl rfl _ _ _ rfl rfl ?_; intro r n hr) | (go_at_call 51; refine (math_Sqrt _ _).mono ?_; rintro e w' ⟨r, n, hv, rfl, rfl⟩))
        go_roundw
        case rel => exact ⟨j + 1, _, _, by omega, t_step ht (by assumption) (by assumption) (by assumption) (by assumption) (by assumption), rfl, by go_num, rfl⟩
        case measure => simp [intOf]; omega
      · have hd : decide ((j : Int) < 3) = false := by simp; omega
        obtain rfl : j = 3 := by omega
        go_wp2_with (refine wpList_farith _ _ _ _ _ rfl rfl rfl _ _ _ rfl rfl ?_); intro u nu hu
        go_wp2_with fail
        clear hd
        go_loopw [9, 10] (fun a b wr => ∃ (j r N : Nat), j ≤ 8 ∧ FV .f64 (aV (fl .f64 u) j) r ∧ a = .float .f64 r ∧ b = .float .f64 (fi (15 - 2 * (j : Int))) ∧ wr = w.drewN N) (fun _ b _ => qmeas b)
        case atStart => exact ⟨0, 0, _, by omega, ⟨rfl, by decide⟩, rfl, (by exact fl_eq (by decide +kernel)), rfl⟩
        case round =>
          obtain ⟨j, p, N2, hj, hp, rfl, rfl, rfl⟩ := hrel
          have hge := k15_ge j (by omega)
          by_cases hlt2 : j < 8
          · rw [decide_eq_true hlt2] at hge
            go_wp2_with (refine wpList_farith _ _ _ _ _ rfl rfl rfl _ _ _ rfl rfl ?_; intro r n hr)
            go_roundw
            case rel =>
              refine ⟨j + 1, _, _, by omega, ?_, rfl, ?_, rfl⟩
              · exact a_step hlt2 hp (by assumption) (by assumption) (by assumption)
              · exact fl_eq (k15_step hlt2 (by assumption))
            case measure => exact k15_meas hlt2 (by assumption)
          · rw [decide_eq_false hlt2] at hge
            obtain rfl : j = 8 := by omega
            cases hsx : ltz x <;> cases hsy : ltz y
            · have hsx0 := Lib.hid hsx; have hsy0 := Lib.hid hsy
              have hsx1 : (FloatKind.f32.format.order x 0 == some .lt) = _ := hsx
              have hsy1 : (FloatKind.f32.format.order y 0 == some .lt) = _ := hsy
              clear hsx hsy
              go_wp2_with (first | (refine wpList_farith _ _ _ _ _ rfl rfl rfl _ _ _ rfl rfl ?_; intro r n hr) | (refine wpList_fconv _ _ _ rfl rfl .f64 .f32 (by decide) _ rfl (by rw [Try.underlying25]; rfl) Try.underlying22 ?_; intro r n hr) | (refine wpList_fneg _ _ rfl rfl _ _ rfl ?_))
              go_ret
              exact ⟨_, _, angT_fin HX.out HY.out HZ.out (by assumption) (e3no hsy0.out (e2no hsx0.out (e1yes HO.out (by assumption) (e0 ht hp hu (by assumption) (by assumption) (by assumption))))), rfl, rfl⟩
            · have hsx0 := Lib.hid hsx; have hsy0 := Lib.hid hsy
              have hsx1 : (FloatKind.f32.format.order x 0 == some .lt) = _ := hsx
              have hsy1 : (FloatKind.f32.format.order y 0 == some .lt) = _ := hsy
              clear hsx hsy
              go_wp2_with (first | (refine wpList_farith _ _ _ _ _ rfl rfl rfl _ _ _ rfl rfl ?_; intro r n hr) | (refine wpList_fconv _ _ _ rfl rfl .f64 .f32 (by decide) _ rfl (by rw [Try.underlying25]; rfl) Try.underlying22 ?_; intro r n hr) | (refine wpList_fneg _ _ rfl rfl _ _ rfl ?_))
              go_ret
              exact ⟨_, _, angT_fin HX.out HY.out HZ.out (by assumption) (e3yes hsy0.out (e2no hsx0.out (e1yes HO.out (by assumption) (e0 ht hp hu (by assumption) (by assumption) (by assumption))))), rfl, rfl⟩
            · have hsx0 := Lib.hid hsx; have hsy0 := Lib.hid hsy
              have hsx1 : (FloatKind.f32.format.order x 0 == some .lt) = _ := hsx
              have hsy1 : (FloatKind.f32.format.order y 0 == some .lt) = _ := hsy
              clear hsx hsy
              go_wp2_with (first | (refine wpList_farith _ _ _ _ _ rfl rfl rfl _ _ _ rfl rfl ?_; intro r n hr) | (refine wpList_fconv _ _ _ rfl rfl .f64 .f32 (by decide) _ rfl (by rw [Try.underlying25]; rfl) Try.underlying22 ?_; intro r n hr) | (refine wpList_fneg _ _ rfl rfl _ _ rfl ?_))
              go_ret
              exact ⟨_, _, angT_fin HX.out HY.out HZ.out (by assumption) (e3no hsy0.out (e2yes hsx0.out (by assumption) (e1yes HO.out (by assumption) (e0 ht hp hu (by assumption) (by assumption) (by assumption))))), rfl, rfl⟩
            · have hsx0 := Lib.hid hsx; have hsy0 := Lib.hid hsy
              have hsx1 : (FloatKind.f32.format.order x 0 == some .lt) = _ := hsx
              have hsy1 : (FloatKind.f32.format.order y 0 == some .lt) = _ := hsy
              clear hsx hsy
              go_wp2_with (first | (refine wpList_farith _ _ _ _ _ rfl rfl rfl _ _ _ rfl rfl ?_; intro r n hr) | (refine wpList_fconv _ _ _ rfl rfl .f64 .f32 (by decide) _ rfl (by rw [Try.underlying25]; rfl) Try.underlying22 ?_; intro r n hr) | (refine wpList_fneg _ _ rfl rfl _ _ rfl ?_))
              go_ret
              exact ⟨_, _, angT_fin HX.out HY.out HZ.out (by assumption) (e3yes hsy0.out (e2yes hsx0.out (by assumption) (e1yes HO.out (by assumption) (e0 ht hp hu (by assumption) (by assumption) (by assumption))))), rfl, rfl⟩



set_option maxHeartbeats 16000000 in
theorem impl_AngleTurns_b (y x : Nat) (h1 : rung Ieee.single x < Ieee.single.infRung) (h2 : rung Ieee.single y < Ieee.single.infRung) (hz : eqz x = true) (hy : eqz y = false) (w : World) : Calls Try.prog 33 #[.float .f32 y, .float .f32 x] w (RetF .f32 (fun r => fl .f32 r = angT y x) w) := by
  have f1 := finB_yes h1
  have f2 := finB_yes h2
  have HX := Lib.hid h1
  have HY := Lib.hid h2
  have hz' : (FloatKind.f32.format.order x 0 == some .eq) = true := hz
  have hy' : (FloatKind.f32.format.order y 0 == some .eq) = false := hy
  have HZ := Lib.hid (show (eqz x && eqz y) = false by rw [hz, hy]; rfl)
  clear h1 h2 hz hy
  cases ho : (FloatKind.f64.format.order (wid y % 9223372036854775808) (wid x % 9223372036854775808) == some .gt)
  · have HO := Lib.hid ho
    go_enter Try.func33, Try.ntmps33
    go_wp2_with (first | (refine wpList_fconv _ _ _ rfl rfl .f32 .f64 (by decide) _ rfl (by rw [Try.underlying22]; rfl) Try.underlying25 ?_; intro r n hr; first | (obtain rfl := wid_eq HY.out hr; clear hr) | (obtain rfl := wid_eq HX.out hr; clear hr)) | (go_at_call 45; refine (impl_IsFinite _ _).mono ?_; rintro e w' ⟨rfl, n, rfl⟩) | (go_at_call 48; refine (math_Abs _ (wid_lt _) _).mono ?_; rintro e w' ⟨rfl, rfl⟩) | (refine wpList_farith _ _ _ _ _ rfl rfl rfl _ _ _ rfl rfl ?_; intro r n hr))
    go_loopw [7, 43] (fun a b wr => ∃ (j r N : Nat), j ≤ 3 ∧ FV .f64 (tV (t0V (absW y) (absW x)) j) r ∧ a = .float .f64 r ∧ b = .int .i64 j ∧ wr = w.drewN N) (fun _ b _ => 3 - (intOf b).toNat)
    case atStart => exact ⟨0, _, _, by omega, t0_no (fl_abs HY.out) (fl_abs HX.out) HO.out (by assumption), rfl, rfl, rfl⟩
    case round =>
      obtain ⟨j, t, N, hj, ht, rfl, rfl, rfl⟩ := hrel
      by_cases hlt : j < 3
      · go_wp2_with (first | (refine wpList_farith _ _ _ _ _ rfl rfl rfl _ _ _ rfl rfl ?_; intro r n hr) | (go_at_call 51; refine (math_Sqrt _ _).mono ?_; rintro e w' ⟨r, n, hv, rfl, rfl⟩))
        go_roundw
        case rel => exact ⟨j + 1, _, _, by omega, t_step ht (by assumption) (by assumption) (by assumption) (by assumption) (by assumption), rfl, by go_num, rfl⟩
        case measure => simp [intOf]; omega
      · have hd : decide ((j : Int) < 3) = false := by simp; omega
        obtain rfl : j = 3 := by omega
        go_wp2_with (refine wpList_farith _ _ _ _ _ rfl rfl rfl _ _ _ rfl rfl ?_); intro u nu hu
        go_wp2_with fail
        clear hd
        go_loopw [9, 10] (fun a b wr => ∃ (j r N : Nat), j ≤ 8 ∧ FV .f64 (aV (fl .f64 u) j) r ∧ a = .float .f64 r ∧ b = .float .f64 (fi (15 - 2 * (j : Int))) ∧ wr = w.drewN N) (fun _ b _ => qmeas b)
        case atStart => exact ⟨0, 0, _, by omega, ⟨rfl, by decide⟩, rfl, (by exact fl_eq (by decide +kernel)), rfl⟩
        case round =>
          obtain ⟨j, p, N2, hj, hp, rfl, rfl, rfl⟩ := hrel
          have hge := k15_ge j (by omega)
          by_cases hlt2 : j < 8
          · rw [decide_eq_true hlt2] at hge
            go_wp2_with (refine wpList_farith _ _ _ _ _ rfl rfl rfl _ _ _ rfl rfl ?_; intro r n hr)
            go_roundw
            case rel =>
              refine ⟨j + 1, _, _, by omega, ?_, rfl, ?_, rfl⟩
              · exact a_step hlt2 hp (by assumption) (by assumption) (by assumption)
              · exact fl_eq (k15_step hlt2 (by assumption))
            case measure => exact k15_meas hlt2 (by assumption)
          · rw [decide_eq_false hlt2] at hge
            obtain rfl : j = 8 := by omega
            cases hsx : ltz x <;> cases hsy : ltz y
            · have hsx0 := Lib.hid hsx; have hsy0 := Lib.hid hsy
              have hsx1 : (FloatKind.f32.format.order x 0 == some .lt) = _ := hsx
              have hsy1 : (FloatKind.f32.format.order y 0 == some .lt) = _ := hsy
              clear hsx hsy
              go_wp2_with (first | (refine wpList_farith _ _ _ _ _ rfl rfl rfl _ _ _ rfl rfl ?_; intro r n hr) | (refine wpList_fconv _ _ _ rfl rfl .f64 .f32 (by decide) _ rfl (by rw [Try.underlying25]; rfl) Try.underlying22 ?_; intro r n hr) | (refine wpList_fneg _ _ rfl rfl _ _ rfl ?_))
              go_ret
              exact ⟨_, _, angT_fin HX.out HY.out HZ.out (by assumption) (e3no hsy0.out (e2no hsx0.out (e1no HO.out (e0 ht hp hu (by assumption) (by assumption) (by assumption))))), rfl, rfl⟩
            · have hsx0 := Lib.hid hsx; have hsy0 := Lib.hid hsy
              have hsx1 : (FloatKind.f32.format.order x 0 == some .lt) = _ := hsx
              have hsy1 : (FloatKind.f32.format.order y 0 == some .lt) = _ := hsy
              clear hsx hsy
              go_wp2_with (first | (refine wpList_farith _ _ _ _ _ rfl rfl rfl _ _ _ rfl rfl ?_; intro r n hr) | (refine wpList_fconv _ _ _ rfl rfl .f64 .f32 (by decide) _ rfl (by rw [Try.underlying25]; rfl) Try.underlying22 ?_; intro r n hr) | (refine wpList_fneg _ _ rfl rfl _ _ rfl ?_))
              go_ret
              exact ⟨_, _, angT_fin HX.out HY.out HZ.out (by assumption) (e3yes hsy0.out (e2no hsx0.out (e1no HO.out (e0 ht hp hu (by assumption) (by assumption) (by assumption))))), rfl, rfl⟩
            · have hsx0 := Lib.hid hsx; have hsy0 := Lib.hid hsy
              have hsx1 : (FloatKind.f32.format.order x 0 == some .lt) = _ := hsx
              have hsy1 : (FloatKind.f32.format.order y 0 == some .lt) = _ := hsy
              clear hsx hsy
              go_wp2_with (first | (refine wpList_farith _ _ _ _ _ rfl rfl rfl _ _ _ rfl rfl ?_; intro r n hr) | (refine wpList_fconv _ _ _ rfl rfl .f64 .f32 (by decide) _ rfl (by rw [Try.underlying25]; rfl) Try.underlying22 ?_; intro r n hr) | (refine wpList_fneg _ _ rfl rfl _ _ rfl ?_))
              go_ret
              exact ⟨_, _, angT_fin HX.out HY.out HZ.out (by assumption) (e3no hsy0.out (e2yes hsx0.out (by assumption) (e1no HO.out (e0 ht hp hu (by assumption) (by assumption) (by assumption))))), rfl, rfl⟩
            · have hsx0 := Lib.hid hsx; have hsy0 := Lib.hid hsy
              have hsx1 : (FloatKind.f32.format.order x 0 == some .lt) = _ := hsx
              have hsy1 : (FloatKind.f32.format.order y 0 == some .lt) = _ := hsy
              clear hsx hsy
              go_wp2_with (first | (refine wpList_farith _ _ _ _ _ rfl rfl rfl _ _ _ rfl rfl ?_; intro r n hr) | (refine wpList_fconv _ _ _ rfl rfl .f64 .f32 (by decide) _ rfl (by rw [Try.underlying25]; rfl) Try.underlying22 ?_; intro r n hr) | (refine wpList_fneg _ _ rfl rfl _ _ rfl ?_))
              go_ret
              exact ⟨_, _, angT_fin HX.out HY.out HZ.out (by assumption) (e3yes hsy0.out (e2yes hsx0.out (by assumption) (e1no HO.out (e0 ht hp hu (by assumption) (by assumption) (by assumption))))), rfl, rfl⟩


  · have HO := Lib.hid ho
    go_enter Try.func33, Try.ntmps33
    go_wp2_with (first | (refine wpList_fconv _ _ _ rfl rfl .f32 .f64 (by decide) _ rfl (by rw [Try.underlying22]; rfl) Try.underlying25 ?_; intro r n hr; first | (obtain rfl := wid_eq HY.out hr; clear hr) | (obtain rfl := wid_eq HX.out hr; clear hr)) | (go_at_call 45; refine (impl_IsFinite _ _).mono ?_; rintro e w' ⟨rfl, n, rfl⟩) | (go_at_call 48; refine (math_Abs _ (wid_lt _) _).mono ?_; rintro e w' ⟨rfl, rfl⟩) | (refine wpList_farith _ _ _ _ _ rfl rfl rfl _ _ _ rfl rfl ?_; intro r n hr))
    go_loopw [7, 43] (fun a b wr => ∃ (j r N : Nat), j ≤ 3 ∧ FV .f64 (tV (t0V (absW y) (absW x)) j) r ∧ a = .float .f64 r ∧ b = .int .i64 j ∧ wr = w.drewN N) (fun _ b _ => 3 - (intOf b).toNat)
    case atStart => exact ⟨0, _, _, by omega, t0_yes (fl_abs HY.out) (fl_abs HX.out) HO.out (by assumption), rfl, rfl, rfl⟩
    case round =>
      obtain ⟨j, t, N, hj, ht, rfl, rfl, rfl⟩ := hrel
      by_cases hlt : j < 3
      · go_wp2_with (first | (refine wpList_farith _ _ _ _ _ rfl rfl rfl _ _ _ rfl rfl ?_; intro r n hr) | (go_at_call 51; refine (math_Sqrt _ _).mono ?_; rintro e w' ⟨r, n, hv, rfl, rfl⟩))
        go_roundw
        case rel => exact ⟨j + 1, _, _, by omega, t_step ht (by assumption) (by assumption) (by assumption) (by assumption) (by assumption), rfl, by go_num, rfl⟩
        case measure => simp [intOf]; omega
      · have hd : decide ((j : Int) < 3) = false := by simp; omega
        obtain rfl : j = 3 := by omega
        go_wp2_with (refine wpList_farith _ _ _ _ _ rfl rfl rfl _ _ _ rfl rfl ?_); intro u nu hu
        go_wp2_with fail
        clear hd
        go_loopw [9, 10] (fun a b wr => ∃ (j r N : Nat), j ≤ 8 ∧ FV .f64 (aV (fl .f64 u) j) r ∧ a = .float .f64 r ∧ b = .float .f64 (fi (15 - 2 * (j : Int))) ∧ wr = w.drewN N) (fun _ b _ => qmeas b)
        case atStart => exact ⟨0, 0, _, by omega, ⟨rfl, by decide⟩, rfl, (by exact fl_eq (by decide +kernel)), rfl⟩
        case round =>
          obtain ⟨j, p, N2, hj, hp, rfl, rfl, rfl⟩ := hrel
          have hge := k15_ge j (by omega)
          by_cases hlt2 : j < 8
          · rw [decide_eq_true hlt2] at hge
            go_wp2_with (refine wpList_farith _ _ _ _ _ rfl rfl rfl _ _ _ rfl rfl ?_; intro r n hr)
            go_roundw
            case rel =>
              refine ⟨j + 1, _, _, by omega, ?_, rfl, ?_, rfl⟩
              · exact a_step hlt2 hp (by assumption) (by assumption) (by assumption)
              · exact fl_eq (k15_step hlt2 (by assumption))
            case measure => exact k15_meas hlt2 (by assumption)
          · rw [decide_eq_false hlt2] at hge
            obtain rfl : j = 8 := by omega
            cases hsx : ltz x <;> cases hsy : ltz y
            · have hsx0 := Lib.hid hsx; have hsy0 := Lib.hid hsy
              have hsx1 : (FloatKind.f32.format.order x 0 == some .lt) = _ := hsx
              have hsy1 : (FloatKind.f32.format.order y 0 == some .lt) = _ := hsy
              clear hsx hsy
              go_wp2_with (first | (refine wpList_farith _ _ _ _ _ rfl rfl rfl _ _ _ rfl rfl ?_; intro r n hr) | (refine wpList_fconv _ _ _ rfl rfl .f64 .f32 (by decide) _ rfl (by rw [Try.underlying25]; rfl) Try.underlying22 ?_; intro r n hr) | (refine wpList_fneg _ _ rfl rfl _ _ rfl ?_))
              go_ret
              exact ⟨_, _, angT_fin HX.out HY.out HZ.out (by assumption) (e3no hsy0.out (e2no hsx0.out (e1yes HO.out (by assumption) (e0 ht hp hu (by assumption) (by assumption) (by assumption))))), rfl, rfl⟩
            · have hsx0 := Lib.hid hsx; have hsy0 := Lib.hid hsy
              have hsx1 : (FloatKind.f32.format.order x 0 == some .lt) = _ := hsx
              have hsy1 : (FloatKind.f32.format.order y 0 == some .lt) = _ := hsy
              clear hsx hsy
              go_wp2_with (first | (refine wpList_farith _ _ _ _ _ rfl rfl rfl _ _ _ rfl rfl ?_; intro r n hr) | (refine wpList_fconv _ _ _ rfl rfl .f64 .f32 (by decide) _ rfl (by rw [Try.underlying25]; rfl) Try.underlying22 ?_; intro r n hr) | (refine wpList_fneg _ _ rfl rfl _ _ rfl ?_))
              go_ret
              exact ⟨_, _, angT_fin HX.out HY.out HZ.out (by assumption) (e3yes hsy0.out (e2no hsx0.out (e1yes HO.out (by assumption) (e0 ht hp hu (by assumption) (by assumption) (by assumption))))), rfl, rfl⟩
            · have hsx0 := Lib.hid hsx; have hsy0 := Lib.hid hsy
              have hsx1 : (FloatKind.f32.format.order x 0 == some .lt) = _ := hsx
              have hsy1 : (FloatKind.f32.format.order y 0 == some .lt) = _ := hsy
              clear hsx hsy
              go_wp2_with (first | (refine wpList_farith _ _ _ _ _ rfl rfl rfl _ _ _ rfl rfl ?_; intro r n hr) | (refine wpList_fconv _ _ _ rfl rfl .f64 .f32 (by decide) _ rfl (by rw [Try.underlying25]; rfl) Try.underlying22 ?_; intro r n hr) | (refine wpList_fneg _ _ rfl rfl _ _ rfl ?_))
              go_ret
              exact ⟨_, _, angT_fin HX.out HY.out HZ.out (by assumption) (e3no hsy0.out (e2yes hsx0.out (by assumption) (e1yes HO.out (by assumption) (e0 ht hp hu (by assumption) (by assumption) (by assumption))))), rfl, rfl⟩
            · have hsx0 := Lib.hid hsx; have hsy0 := Lib.hid hsy
              have hsx1 : (FloatKind.f32.format.order x 0 == some .lt) = _ := hsx
              have hsy1 : (FloatKind.f32.format.order y 0 == some .lt) = _ := hsy
              clear hsx hsy
              go_wp2_with (first | (refine wpList_farith _ _ _ _ _ rfl rfl rfl _ _ _ rfl rfl ?_; intro r n hr) | (refine wpList_fconv _ _ _ rfl rfl .f64 .f32 (by decide) _ rfl (by rw [Try.underlying25]; rfl) Try.underlying22 ?_; intro r n hr) | (refine wpList_fneg _ _ rfl rfl _ _ rfl ?_))
              go_ret
              exact ⟨_, _, angT_fin HX.out HY.out HZ.out (by assumption) (e3yes hsy0.out (e2yes hsx0.out (by assumption) (e1yes HO.out (by assumption) (e0 ht hp hu (by assumption) (by assumption) (by assumption))))), rfl, rfl⟩



end Go.Proofs.Ytfnplomgicgenaa.WP