/- The walks: logarithms. -/
import Derived.Test.YtfnplomgicgenaaWK
import Derived.Test.YtfnplomgicgenaaFx
namespace Go.Proofs.Ytfnplomgicgenaa.WL
open Go.RowKit Fl Fs Fo Fw Fb Fm Ff Fz Fy Fx WA WB WH WI WJ WK
set_option maxRecDepth 20000

theorem inf_val : Ieee.double.infRung = 9218868437227405312 := by decide
theorem step_half {x r : Nat} (h1 : 9007199254740992 ≤ x) (h2 : x < 9218868437227405312) (hr : FV .f64 (fop .quo .f64 (fl .f64 x) (fl .f64 4611686018427387904)) r) : r = x - 4503599627370496 := by
  have e := half_exact (x := x) (by unfold BB; omega) (by rw [inf_val]; exact h2)
  rw [fl_const (c := x) (by rw [(pos_word (x := x) (by rw [inf_val]; omega)).1, inf_val]; omega)] at hr
  have h := hr.1
  have e2 : fl .f64 4611686018427387904 = some two := rfl
  rw [e2, e] at h
  exact ((fl_some h).1).symm
theorem step_double {x r : Nat} (h1 : 4503599627370496 ≤ x) (h2 : x + 4503599627370496 < 9218868437227405312) (hr : FV .f64 (fop .mul .f64 (fl .f64 x) (fl .f64 4611686018427387904)) r) : r = x + 4503599627370496 := by
  have e := double_exact (x := x) (by unfold BB; omega) (by rw [inf_val]; exact h2)
  rw [fl_const (c := x) (by rw [(pos_word (x := x) (by rw [inf_val]; omega)).1, inf_val]; omega)] at hr
  have h := hr.1
  have e2 : fl .f64 4611686018427387904 = some two := rfl
  rw [e2, e] at h
  exact ((fl_some h).1).symm
theorem fbits_float (k : FloatKind) (b : Nat) : fbits (.float k b) = b := rfl
theorem meas_half {x r : Nat} (h1 : 9007199254740992 ≤ x) (h2 : x < 9218868437227405312) (hr : FV .f64 (fop .quo .f64 (fl .f64 x) (fl .f64 4611686018427387904)) r) : fbits (.float .f64 r) < fbits (.float .f64 x) := by
  rw [step_half h1 h2 hr, fbits_float, fbits_float]; omega
theorem meas_double {x r : Nat} (h1 : 4503599627370496 ≤ x) (h2 : x + 4503599627370496 < 9218868437227405312) (h3 : x < 4609434218613702656) (hr : FV .f64 (fop .mul .f64 (fl .f64 x) (fl .f64 4611686018427387904)) r) : 4609434218613702656 - fbits (.float .f64 r) < 4609434218613702656 - fbits (.float .f64 x) := by
  rw [step_double h1 h2 hr, fbits_float, fbits_float]; omega
theorem fi_one : fi 1 = 4607182418800017408 := by decide +kernel
theorem step_inc {e : Int} {r : Nat} (h : e.natAbs ≤ 4096) (hr : FV .f64 (fop .add .f64 (fl .f64 (fi e)) (fl .f64 4607182418800017408)) r) : r = fi (e + 1) := by
  rw [(fi_fl (n := e) (by omega)).1, ← fi_one, (fi_fl (n := 1) (by decide)).1, fi_add (by omega) (by decide)] at hr
  exact ((fl_some hr.1).1).symm
theorem step_dec {e : Int} {r : Nat} (h : e.natAbs ≤ 4096) (hr : FV .f64 (fop .sub .f64 (fl .f64 (fi e)) (fl .f64 4607182418800017408)) r) : r = fi (e - 1) := by
  rw [(fi_fl (n := e) (by omega)).1, ← fi_one, (fi_fl (n := 1) (by decide)).1, fi_sub (by omega) (by decide) (by omega)] at hr
  exact ((fl_some hr.1).1).symm
theorem kq_ge : ∀ j : Nat, j < 14 → (FloatKind.f64.format.order (fi (25 - 2 * (j : Int))) 4607182418800017408 == some .gt || FloatKind.f64.format.order (fi (25 - 2 * (j : Int))) 4607182418800017408 == some .eq) = decide (j < 13) := by decide +kernel
theorem kq_sub : ∀ j : Nat, j < 13 → fop .sub .f64 (some (fi (25 - 2 * (j : Int)))) (some 4611686018427387904) = some (fi (25 - 2 * ((j + 1 : Nat) : Int))) := by decide +kernel
theorem kq_fl : ∀ j : Nat, j < 14 → fl .f64 (fi (25 - 2 * (j : Int))) = some (fi (25 - 2 * (j : Int))) := by decide +kernel
def qmeas : Value → Nat
  | .float _ b => if b < 9223372036854775808 then b + 1 else 0
  | _ => 0
theorem kq_dec : ∀ j : Nat, j < 13 → qmeas (.float .f64 (fi (25 - 2 * ((j + 1 : Nat) : Int)))) < qmeas (.float .f64 (fi (25 - 2 * (j : Int)))) := by
  have h : ∀ j : Nat, j < 13 → (if fi (25 - 2 * ((j + 1 : Nat) : Int)) < 9223372036854775808 then fi (25 - 2 * ((j + 1 : Nat) : Int)) + 1 else 0) < (if fi (25 - 2 * (j : Int)) < 9223372036854775808 then fi (25 - 2 * (j : Int)) + 1 else 0) := by decide +kernel
  exact h
theorem kq_step {j r : Nat} (hj : j < 13) (hr : FV .f64 (fop .sub .f64 (fl .f64 (fi (25 - 2 * (j : Int)))) (fl .f64 4611686018427387904)) r) : r = fi (25 - 2 * ((j + 1 : Nat) : Int)) := by
  have e2 : fl .f64 4611686018427387904 = some 4611686018427387904 := rfl
  have h := hr.1
  rw [kq_fl j (by omega), e2, kq_sub j hj] at h
  exact ((fl_some h).1).symm
theorem kq_meas {j r : Nat} (hj : j < 13) (hr : FV .f64 (fop .sub .f64 (fl .f64 (fi (25 - 2 * (j : Int)))) (fl .f64 4611686018427387904)) r) : qmeas (.float .f64 r) < qmeas (.float .f64 (fi (25 - 2 * (j : Int)))) := by
  rw [kq_step hj hr]; exact kq_dec j hj
theorem q_step {u q a b r : Nat} {j : Nat} (hj : j < 13) (hq : FV .f64 (qV (fl .f64 u) j) q) (hr : FV .f64 (fop .add .f64 (fl .f64 a) (fl .f64 b)) r)
    (ha : FV .f64 (fop .quo .f64 (fl .f64 4607182418800017408) (fl .f64 (fi (25 - 2 * (j : Int))))) a) (hb : FV .f64 (fop .mul .f64 (fl .f64 u) (fl .f64 q)) b) : FV .f64 (qV (fl .f64 u) (j + 1)) r := by
  refine ⟨?_, hr.2⟩
  rw [hr.1, ha.1, hb.1, hq.1, kq_fl j (by omega)]; rfl
theorem log_end {z a b s u q c d g h r : Nat} {e : Int} (hz : z < 4609434218613702656) (he : e.natAbs ≤ 4096) (hr : FV .f64 (fop .add .f64 (fl .f64 d) (fl .f64 h)) r) (hd : FV .f64 (fop .mul .f64 (fl .f64 4611686018427387904) (fl .f64 c)) d) (hc : FV .f64 (fop .mul .f64 (fl .f64 s) (fl .f64 q)) c)
    (hh : FV .f64 (fop .mul .f64 (fl .f64 g) (fl .f64 4604418534313441775)) h) (hg : g = fi e) (hq : FV .f64 (qV (fl .f64 u) 13) q) (hu : FV .f64 (fop .mul .f64 (fl .f64 s) (fl .f64 s)) u)
    (hs : FV .f64 (fop .quo .f64 (fl .f64 a) (fl .f64 b)) s) (ha : FV .f64 (fop .sub .f64 (fl .f64 z) (fl .f64 4607182418800017408)) a) (hb : FV .f64 (fop .add .f64 (fl .f64 z) (fl .f64 4607182418800017408)) b) : FV .f64 (logV z e) r := by
  subst hg
  have hzf : fl .f64 z = some z := fl_const (by rw [(z_bd hz).1]; exact Nat.le_of_lt (z_bd hz).2.2)
  have es : fl .f64 s = sV z := by rw [hs.1, ha.1, hb.1, hzf]; rfl
  refine ⟨?_, hr.2⟩
  rw [hr.1, hd.1, hc.1, hh.1, hq.1, hu.1, es, (fi_fl (n := e) (by omega)).1]; rfl
/-- What the logarithm of a positive word returns. -/
def LogRet (r0 : Nat) (r : Nat) : Prop := ∃ z e, LogOf r0 z e ∧ FV .f64 (logV z e) r

set_option maxHeartbeats 4000000 in
theorem impl_naturalLog (r0 : Nat) (h0 : 3602879701896396800 ≤ r0) (h1 : r0 < 5404319552844595200) (w : World) : Calls Try.prog 46 #[.float .f64 r0] w (RetF .f64 (LogRet r0) w) := by
  go_enter Try.func46, Try.ntmps46
  go_wp2_with fail
  go_loopw [0, 3] (fun a b wr => ∃ (y j N : Nat), 3602879701896396800 ≤ y ∧ y ≤ r0 ∧ Hid (y + j * 4503599627370496 = r0) ∧ j ≤ 2000 ∧ a = .float .f64 y ∧ b = .float .f64 (fi j) ∧ wr = w.drewN N) (fun a _ _ => fbits a)
  case atStart => exact ⟨r0, 0, 0, h0, Nat.le_refl _, (by exact Lib.hid (by omega)), by omega, rfl, (by exact fl_eq (by decide +kernel)), rfl⟩
  case round =>
    obtain ⟨y, j, N, hy0, hy1, HY, hj, rfl, rfl, rfl⟩ := hrel
    have hge := pos_ge (x := y) (c := 4609434218613702656) (by rw [inf_val]; omega) (by rw [inf_val]; omega)
    by_cases hlt : 4609434218613702656 ≤ y
    · rw [decide_eq_true hlt] at hge
      go_wp2_with (refine wpList_farith _ _ _ _ _ rfl rfl rfl _ _ _ rfl rfl ?_; intro r n hr)
      go_roundw
      case rel =>
        have hyy := HY.out
        refine ⟨y - 4503599627370496, j + 1, _, by omega, by omega, (by exact Lib.hid (by omega)), by omega, ?_, ?_, rfl⟩
        · exact fl_eq (step_half (by omega) (by omega) (by assumption))
        · exact fl_eq (step_inc (e := (j : Int)) (by omega) (by assumption))
      case measure =>
        exact meas_half (by omega) (by omega) (by assumption)
    · rw [decide_eq_false hlt] at hge
      go_wp2_with fail
      have HJ := Lib.hid (show ∃ e : Int, e = (j : Int) ∧ (y : Int) + e * 4503599627370496 = r0 ∧ e.natAbs ≤ 2000 from ⟨j, rfl, by have := HY.out; omega, by omega⟩)
      obtain ⟨w1, hw1⟩ : ∃ w1 : World, w1 = w.drewN N := ⟨_, rfl⟩
      go_loopw [0, 3] (fun a b wr => ∃ (z : Nat) (e : Int) (N : Nat), 3602879701896396800 ≤ z ∧ z < 4609434218613702656 ∧ Hid ((z : Int) + e * 4503599627370496 = r0) ∧ e.natAbs ≤ 4000 ∧ a = .float .f64 z ∧ b = .float .f64 (fi e) ∧ wr = w.drewN N) (fun a _ _ => 4609434218613702656 - fbits a)
      case atStart => exact ⟨y, j, N, hy0, by omega, (by exact Lib.hid (by have := HY.out; omega)), by omega, rfl, rfl, rfl⟩
      case round =>
        clear hge hw1 HJ HY
        obtain ⟨z, e, N2, hz0, hz1, HZ, he, rfl, rfl, rfl⟩ := hrel
        have hlz := pos_lt (x := z) (c := 4604930618986332160) (by rw [inf_val]; omega) (by rw [inf_val]; omega)
        by_cases hlt2 : z < 4604930618986332160
        · rw [decide_eq_true hlt2] at hlz
          go_wp2_with (refine wpList_farith _ _ _ _ _ rfl rfl rfl _ _ _ rfl rfl ?_; intro r n hr)
          go_roundw
          case rel =>
            have hzz := HZ.out
            refine ⟨z + 4503599627370496, e - 1, _, by omega, by omega, (by exact Lib.hid (by omega)), by omega, ?_, ?_, rfl⟩
            · exact fl_eq (step_double (by omega) (by omega) (by assumption))
            · exact fl_eq (step_dec (e := e) (by omega) (by assumption))
          case measure =>
            exact meas_double (by omega) (by omega) hz1 (by assumption)
        · rw [decide_eq_false hlt2] at hlz
          have HL := Lib.hid (show LogOf r0 z e from ⟨by omega, hz1, HZ.out⟩)
          clear HZ
          go_wp2_with (refine wpList_farith _ _ _ _ _ rfl rfl rfl _ _ _ rfl rfl ?_); intro a na ha
          go_wp2_with (refine wpList_farith _ _ _ _ _ rfl rfl rfl _ _ _ rfl rfl ?_); intro b nb hb
          go_wp2_with (refine wpList_farith _ _ _ _ _ rfl rfl rfl _ _ _ rfl rfl ?_); intro s ns hs
          go_wp2_with (refine wpList_farith _ _ _ _ _ rfl rfl rfl _ _ _ rfl rfl ?_); intro u nu hu
          go_wp2_with fail
          clear hlz
          go_loopw [6, 7] (fun a b wr => ∃ (j r N : Nat), j ≤ 13 ∧ FV .f64 (qV (fl .f64 u) j) r ∧ a = .float .f64 r ∧ b = .float .f64 (fi (25 - 2 * (j : Int))) ∧ wr = w.drewN N) (fun _ b _ => qmeas b)
          case atStart => exact ⟨0, 0, _, by omega, ⟨rfl, by decide⟩, rfl, (by exact fl_eq (by decide +kernel)), rfl⟩
          case round =>
            obtain ⟨j, q, N3, hj, hq, rfl, rfl, rfl⟩ := hrel
            have hge := kq_ge j (by omega)
            by_cases hlt3 : j < 13
            · rw [decide_eq_true hlt3] at hge
              go_wp2_with (refine wpList_farith _ _ _ _ _ rfl rfl rfl _ _ _ rfl rfl ?_; intro r n hr)
              go_roundw
              case rel =>
                refine ⟨j + 1, _, _, by omega, ?_, rfl, ?_, rfl⟩
                · exact q_step hlt3 hq (by assumption) (by assumption) (by assumption)
                · exact fl_eq (kq_step hlt3 (by assumption))
              case measure => exact kq_meas hlt3 (by assumption)
            · rw [decide_eq_false hlt3] at hge
              obtain rfl : j = 13 := by omega
              go_wp2_with (refine wpList_farith _ _ _ _ _ rfl rfl rfl _ _ _ rfl rfl ?_; intro r n hr)
              go_ret
              exact ⟨_, _, ⟨z, e, HL.out, log_end hz1 (by omega) (by assumption) (by assumption) (by assumption) (by assumption) rfl hq hu hs ha hb⟩, rfl, rfl⟩

theorem math_IsInf (y : Nat) (w : World) : Calls Try.prog 78 #[.float .f64 y, .int .i64 1] w fun e w' => e = .returned (.bool (FloatKind.f64.format.order y 9218868437227405311 == some .gt)) ∧ w = w' := by
  go_enter Try.func78, Try.ntmps78
  go_wp2
  go_ret
  exact ⟨rfl, rfl⟩
/-- Facts on a positive word. -/
theorem pos_facts {y : Nat} (h0 : 3602879701896396800 ≤ y) (h1 : y < 5404319552844595200) : (FloatKind.f64.format.order y y != some .eq) = false ∧ (FloatKind.f64.format.order y 0 == some .lt) = false ∧ (FloatKind.f64.format.order y 0 == some .eq) = false ∧ (FloatKind.f64.format.order y 9218868437227405311 == some .gt) = false := by
  refine ⟨?_, ?_, ?_, ?_⟩
  · have := pos_eq (x := y) (c := y) (by rw [inf_val]; omega) (by rw [inf_val]; omega)
    rw [decide_eq_true rfl] at this
    have h2 : FloatKind.f64.format.order y y = some .eq := by simpa using this
    rw [h2]; rfl
  · rw [pos_lt (by rw [inf_val]; omega) (by omega), decide_eq_false (by omega)]
  · rw [pos_eq (by rw [inf_val]; omega) (by omega), decide_eq_false (by omega)]
  · rw [pos_gt (by rw [inf_val]; omega) (by rw [inf_val]; omega), decide_eq_false (by omega)]
set_option maxHeartbeats 4000000 in
theorem spec_l01LogWide (r0 : Nat) (h0 : 3602879701896396800 ≤ r0) (h1 : r0 < 5404319552844595200) (w : World) : Calls Try.prog 72 #[.float .f64 r0] w (RetF .f64 (LogRet r0) w) := by
  obtain ⟨g1, g2, g3, g4⟩ := pos_facts h0 h1
  go_enter Try.func72, Try.ntmps72
  go_wp2_with (go_at_call 78; refine (math_IsInf _ _).mono ?_; rintro e w' ⟨rfl, rfl⟩)
  clear g1 g2 g3 g4
  go_loopw [0, 3] (fun a b wr => ∃ (y j N : Nat), 3602879701896396800 ≤ y ∧ y ≤ r0 ∧ Hid (y + j * 4503599627370496 = r0) ∧ j ≤ 2000 ∧ a = .float .f64 y ∧ b = .int .i64 j ∧ wr = w.drewN N) (fun a _ _ => fbits a)
  case atStart => exact ⟨r0, 0, 0, h0, Nat.le_refl _, (by exact Lib.hid (by omega)), by omega, rfl, rfl, rfl⟩
  case round =>
    obtain ⟨y, j, N, hy0, hy1, HY, hj, rfl, rfl, rfl⟩ := hrel
    have hge := pos_ge (x := y) (c := 4609434218613702656) (by rw [inf_val]; omega) (by rw [inf_val]; omega)
    by_cases hlt : 4609434218613702656 ≤ y
    · rw [decide_eq_true hlt] at hge
      go_wp2_with (refine wpList_farith _ _ _ _ _ rfl rfl rfl _ _ _ rfl rfl ?_; intro r n hr)
      go_roundw
      case rel =>
        have hyy := HY.out
        refine ⟨y - 4503599627370496, j + 1, _, by omega, by omega, (by exact Lib.hid (by omega)), by omega, ?_, by go_num, rfl⟩
        exact fl_eq (step_half (by omega) (by omega) (by assumption))
      case measure =>
        exact meas_half (by omega) (by omega) (by assumption)
    · rw [decide_eq_false hlt] at hge
      go_wp2_with fail
      obtain ⟨w1, hw1⟩ : ∃ w1 : World, w1 = w.drewN N := ⟨_, rfl⟩
      go_loopw [0, 3] (fun a b wr => ∃ (z : Nat) (e : Int) (N : Nat), 3602879701896396800 ≤ z ∧ z < 4609434218613702656 ∧ Hid ((z : Int) + e * 4503599627370496 = r0) ∧ -4000 ≤ e ∧ e ≤ 4000 ∧ a = .float .f64 z ∧ b = .int .i64 e ∧ wr = w.drewN N) (fun a _ _ => 4609434218613702656 - fbits a)
      case atStart => exact ⟨y, j, N, hy0, by omega, (by exact Lib.hid (by have := HY.out; omega)), by omega, by omega, rfl, rfl, rfl⟩
      case round =>
        clear hge hw1 HY
        obtain ⟨z, e, N2, hz0, hz1, HZ, he0, he1, rfl, rfl, rfl⟩ := hrel
        have hlz := pos_lt (x := z) (c := 4604930618986332160) (by rw [inf_val]; omega) (by rw [inf_val]; omega)
        by_cases hlt2 : z < 4604930618986332160
        · rw [decide_eq_true hlt2] at hlz
          go_wp2_with (refine wpList_farith _ _ _ _ _ rfl rfl rfl _ _ _ rfl rfl ?_; intro r n hr)
          go_roundw
          case rel =>
            have hzz := HZ.out
            refine ⟨z + 4503599627370496, e - 1, _, by omega, by omega, (by exact Lib.hid (by omega)), by omega, by omega, ?_, rfl, rfl⟩
            exact fl_eq (step_double (by omega) (by omega) (by assumption))
          case measure =>
            exact meas_double (by omega) (by omega) hz1 (by assumption)
        · rw [decide_eq_false hlt2] at hlz
          have HL := Lib.hid (show LogOf r0 z e from ⟨by omega, hz1, HZ.out⟩)
          clear HZ
          go_wp2_with (refine wpList_farith _ _ _ _ _ rfl rfl rfl _ _ _ rfl rfl ?_); intro a na ha
          go_wp2_with (refine wpList_farith _ _ _ _ _ rfl rfl rfl _ _ _ rfl rfl ?_); intro b nb hb
          go_wp2_with (refine wpList_farith _ _ _ _ _ rfl rfl rfl _ _ _ rfl rfl ?_); intro s ns hs
          go_wp2_with (refine wpList_farith _ _ _ _ _ rfl rfl rfl _ _ _ rfl rfl ?_); intro u nu hu
          go_wp2_with fail
          clear hlz
          go_loopw [6, 7] (fun a b wr => ∃ (j : Nat) (kk : Int) (r N : Nat), -1 ≤ kk ∧ kk ≤ 25 ∧ Hid (kk = 25 - 2 * (j : Int)) ∧ FV .f64 (qV (fl .f64 u) j) r ∧ a = .float .f64 r ∧ b = .int .i64 kk ∧ wr = w.drewN N) (fun _ b _ => (intOf b + 2).toNat)
          case atStart => exact ⟨0, 25, 0, _, by omega, by omega, (by exact Lib.hid (by omega)), ⟨rfl, by decide⟩, rfl, rfl, rfl⟩
          case round =>
            obtain ⟨j, kk, q, N3, hk0, hk1, HK, hq, rfl, rfl, rfl⟩ := hrel
            by_cases hlt3 : 1 ≤ kk
            · go_wp2_with (refine wpList_farith _ _ _ _ _ rfl rfl rfl _ _ _ rfl rfl ?_; intro r n hr)
              go_roundw
              case rel =>
                have hkk := HK.out
                refine ⟨j + 1, kk - 2, _, _, by omega, by omega, (by exact Lib.hid (by omega)), ?_, rfl, rfl, rfl⟩
                subst hkk
                exact q_step (by omega) hq (by assumption) (by assumption) (by assumption)
              case measure => simp [intOf]; omega
            · have hd : decide (1 ≤ kk) = false := by simpa using hlt3
              have hkk := HK.out
              obtain rfl : j = 13 := by omega
              clear hkk HK
              go_wp2_with (refine wpList_farith _ _ _ _ _ rfl rfl rfl _ _ _ rfl rfl ?_; intro r n hr)
              go_ret
              exact ⟨_, _, ⟨z, e, HL.out, log_end hz1 (by omega) (by assumption) (by assumption) (by assumption) (by assumption) rfl hq hu hs ha hb⟩, rfl, rfl⟩

end Go.Proofs.Ytfnplomgicgenaa.WL