/- The walks: the reference's sine; SineTurns. -/
import Derived.Test.YtfnplomgicgenaaWI
namespace Go.Proofs.Ytfnplomgicgenaa.WJ
open Go.RowKit Fl Fs Fo Fw Fb Fm Ff Fz WA WB WH WI
theorem rr_zero (f : Ieee.Format) : Ft.rr f 0 0 = 0 := by
  have := Ft.rr_mag f 0 0 (Nat.zero_le _)
  rwa [Ft.mag_zero, Nat.zero_mul] at this
theorem sub_self {k : FloatKind} {x : Nat} (h : rung k.format x < k.format.infRung) : fop .sub k (fl k x) (fl k x) = some 0 := by
  rw [fl_le (Nat.le_of_lt h)]
  have e : fop .sub k (some x) (some x) = k.format.sub x x := rfl
  rw [e, sub_fin k.format (binade_le k) h h, Int.sub_self]
  have : sumNeg (sgn k.format x) (!sgn k.format x) 0 = false := by unfold sumNeg; cases sgn k.format x <;> rfl
  rw [this]
  show some (k.format.word false (Ft.rr k.format 0 0)) = some 0
  rw [rr_zero]; rfl
theorem self_ok {x d : Nat} (h : rung Ieee.double x < Ieee.double.infRung) (hd : FV .f64 (fop .sub .f64 (fl .f64 x) (fl .f64 x)) d) : (FloatKind.f64.format.order d 0 != some .eq) = false := by
  have e := sub_self (k := .f64) (x := x) h
  rw [e] at hd
  have : d = 0 := (fl_some hd.1).1.symm
  rw [this]; decide
theorem p_step3 {u p q e r : Nat} {j : Nat} {kk : Int} (hj : j < 8) (hkk : kk = 8 - (j : Int)) (hp : FV .f64 (pV (fl .f64 u) j) p)
    (hr : FV .f64 (fop .sub .f64 (fl .f64 4607182418800017408) (fl .f64 e)) r) (he : FV .f64 (fop .quo .f64 (fl .f64 q) (fl .f64 (floatOfInt .f64 (2 * kk * (2 * kk + 1))))) e)
    (hq : FV .f64 (fop .mul .f64 (fl .f64 u) (fl .f64 p)) q) : FV .f64 (pV (fl .f64 u) (j + 1)) r := by
  subst hkk
  exact p_step2 hp hr he hj hq
theorem prod_bd {kk : Int} (h0 : 1 ≤ kk) (h1 : kk ≤ 8) : 0 ≤ 2 * kk * (2 * kk + 1) ∧ 2 * kk * (2 * kk + 1) ≤ 272 := by
  have : kk = 1 ∨ kk = 2 ∨ kk = 3 ∨ kk = 4 ∨ kk = 5 ∨ kk = 6 ∨ kk = 7 ∨ kk = 8 := by omega
  rcases this with rfl | rfl | rfl | rfl | rfl | rfl | rfl | rfl <;> decide

set_option maxHeartbeats 8000000 in
theorem spec_l01SineWide (x : Nat) (n : Int) (hfin : rung Ieee.double x < Ieee.double.infRung) (h1 : (FloatKind.f64.format.order x 4841369599423283200 == some .gt || FloatKind.f64.format.order x 4841369599423283200 == some .eq) = false) (h2 : (FloatKind.f64.format.order x 14064741636278059008 == some .lt || FloatKind.f64.format.order x 14064741636278059008 == some .eq) = false)
    (hn : floatToIntVal .f64 x .i64 = some n) (w : World) : Calls Try.prog 70 #[.float .f64 x] w (RetF .f64 (FV .f64 (sinV (fracV x n))) w) := by
  have HFin := Lib.hid hfin
  have hc : ∀ w, (convert 25 2 (.float .f64 x)).run Try.prog w = .ok (.int .i64 n) w := fun w => run_convert_float_int w 25 2 .f64 .i64 x n (by rw [Try.underlying25]; rfl) Try.underlying2 hn
  clear hn hfin
  go_enter Try.func70, Try.ntmps70
  go_wp2_with (refine wpList_farith _ _ _ _ _ rfl rfl rfl _ _ _ rfl rfl ?_); intro d0 nd0 hd0
  have hs0 := self_ok HFin.out hd0
  clear hd0
  go_wp2_with (refine wpList_farith _ _ _ _ _ rfl rfl rfl _ _ _ rfl rfl ?_); intro d nd hd
  cases hlt : (FloatKind.f64.format.order d 0 == some .lt)
  · obtain ⟨f, hfd⟩ : ∃ f, f = d := ⟨_, rfl⟩
    have hf := frac_no hd hlt
    subst hfd
    have HF := Lib.hid hf.1
    clear hf
    cases hb : (FloatKind.f64.format.order f 4602678819172646912 == some .gt || FloatKind.f64.format.order f 4602678819172646912 == some .eq)
    · cases hq : (FloatKind.f64.format.order f 4598175219545276416 == some .gt)
      · have hh := Lib.hid (fold_nn hb hq)
        go_wp2_with (refine wpList_farith _ _ _ _ _ rfl rfl rfl _ _ _ rfl rfl ?_); intro z nz hz
        go_wp2_with (refine wpList_farith _ _ _ _ _ rfl rfl rfl _ _ _ rfl rfl ?_); intro u nu hu
        go_wp2_with fail
        go_loopw [7, 8] (fun a b wr => ∃ (j : Nat) (kk : Int) (r N : Nat), 0 ≤ kk ∧ kk ≤ 8 ∧ Hid (kk = 8 - (j : Int)) ∧ FV .f64 (pV (fl .f64 u) j) r ∧ a = .float .f64 r ∧ b = .int .i64 kk ∧ wr = w.drewN N) (fun _ b _ => (intOf b).toNat)
        case atStart => exact ⟨0, 8, _, _, by omega, by omega, (by exact Lib.hid (by omega)), ⟨rfl, by decide⟩, rfl, rfl, rfl⟩
        case round =>
          obtain ⟨j, kk, p, N, hk0, hk1, HK, hp, rfl, rfl, rfl⟩ := hrel
          by_cases hlt : 1 ≤ kk
          · have hpr := prod_bd hlt hk1
            obtain ⟨hpr0, hpr1⟩ := hpr
            go_wp2_with (refine wpList_farith _ _ _ _ _ rfl rfl rfl _ _ _ rfl rfl ?_; intro r n hr)
            go_roundw
            case rel =>
              have hjj := HK.out
              refine ⟨j + 1, kk - 1, _, _, by omega, by omega, (by exact Lib.hid (by omega)), ?_, rfl, rfl, rfl⟩
              exact p_step3 (by omega) hjj hp (by assumption) (by assumption) (by assumption)
            case measure => simp [intOf]; omega
          · have hd : decide (1 ≤ kk) = false := by simpa using hlt
            have hjj := HK.out
            obtain rfl : j = 8 := by omega
            clear hjj HK
            go_wp2_with (first | (refine wpList_farith _ _ _ _ _ rfl rfl rfl _ _ _ rfl rfl ?_; intro r n hr) | (refine wpList_fneg _ _ rfl rfl _ _ rfl ?_))
            go_ret
            exact ⟨_, _, HF.out ▸ sin_no hb hh.out hz hu hp (by assumption), rfl, rfl⟩
      · go_wp2_with (refine wpList_farith _ _ _ _ _ rfl rfl rfl _ _ _ rfl rfl ?_); intro g ng hg
        have hh := Lib.hid (fold_nq hb hq hg)
        go_wp2_with (refine wpList_farith _ _ _ _ _ rfl rfl rfl _ _ _ rfl rfl ?_); intro z nz hz
        go_wp2_with (refine wpList_farith _ _ _ _ _ rfl rfl rfl _ _ _ rfl rfl ?_); intro u nu hu
        go_wp2_with fail
        go_loopw [7, 8] (fun a b wr => ∃ (j : Nat) (kk : Int) (r N : Nat), 0 ≤ kk ∧ kk ≤ 8 ∧ Hid (kk = 8 - (j : Int)) ∧ FV .f64 (pV (fl .f64 u) j) r ∧ a = .float .f64 r ∧ b = .int .i64 kk ∧ wr = w.drewN N) (fun _ b _ => (intOf b).toNat)
        case atStart => exact ⟨0, 8, _, _, by omega, by omega, (by exact Lib.hid (by omega)), ⟨rfl, by decide⟩, rfl, rfl, rfl⟩
        case round =>
          obtain ⟨j, kk, p, N, hk0, hk1, HK, hp, rfl, rfl, rfl⟩ := hrel
          by_cases hlt : 1 ≤ kk
          · have hpr := prod_bd hlt hk1
            obtain ⟨hpr0, hpr1⟩ := hpr
            go_wp2_with (refine wpList_farith _ _ _ _ _ rfl rfl rfl _ _ _ rfl rfl ?_; intro r n hr)
            go_roundw
            case rel =>
              have hjj := HK.out
              refine ⟨j + 1, kk - 1, _, _, by omega, by omega, (by exact Lib.hid (by omega)), ?_, rfl, rfl, rfl⟩
              exact p_step3 (by omega) hjj hp (by assumption) (by assumption) (by assumption)
            case measure => simp [intOf]; omega
          · have hd : decide (1 ≤ kk) = false := by simpa using hlt
            have hjj := HK.out
            obtain rfl : j = 8 := by omega
            clear hjj HK
            go_wp2_with (first | (refine wpList_farith _ _ _ _ _ rfl rfl rfl _ _ _ rfl rfl ?_; intro r n hr) | (refine wpList_fneg _ _ rfl rfl _ _ rfl ?_))
            go_ret
            exact ⟨_, _, HF.out ▸ sin_no hb hh.out hz hu hp (by assumption), rfl, rfl⟩
    · go_wp2_with (refine wpList_farith _ _ _ _ _ rfl rfl rfl _ _ _ rfl rfl ?_); intro g ng hg
      cases hq : (FloatKind.f64.format.order g 4598175219545276416 == some .gt)
      · have hh := Lib.hid (fold_bn hb hg hq)
        go_wp2_with (refine wpList_farith _ _ _ _ _ rfl rfl rfl _ _ _ rfl rfl ?_); intro z nz hz
        go_wp2_with (refine wpList_farith _ _ _ _ _ rfl rfl rfl _ _ _ rfl rfl ?_); intro u nu hu
        go_wp2_with fail
        go_loopw [7, 8] (fun a b wr => ∃ (j : Nat) (kk : Int) (r N : Nat), 0 ≤ kk ∧ kk ≤ 8 ∧ Hid (kk = 8 - (j : Int)) ∧ FV .f64 (pV (fl .f64 u) j) r ∧ a = .float .f64 r ∧ b = .int .i64 kk ∧ wr = w.drewN N) (fun _ b _ => (intOf b).toNat)
        case atStart => exact ⟨0, 8, _, _, by omega, by omega, (by exact Lib.hid (by omega)), ⟨rfl, by decide⟩, rfl, rfl, rfl⟩
        case round =>
          obtain ⟨j, kk, p, N, hk0, hk1, HK, hp, rfl, rfl, rfl⟩ := hrel
          by_cases hlt : 1 ≤ kk
          · have hpr := prod_bd hlt hk1
            obtain ⟨hpr0, hpr1⟩ := hpr
            go_wp2_with (refine wpList_farith _ _ _ _ _ rfl rfl rfl _ _ _ rfl rfl ?_; intro r n hr)
            go_roundw
            case rel =>
              have hjj := HK.out
              refine ⟨j + 1, kk - 1, _, _, by omega, by omega, (by exact Lib.hid (by omega)), ?_, rfl, rfl, rfl⟩
              exact p_step3 (by omega) hjj hp (by assumption) (by assumption) (by assumption)
            case measure => simp [intOf]; omega
          · have hd : decide (1 ≤ kk) = false := by simpa using hlt
            have hjj := HK.out
            obtain rfl : j = 8 := by omega
            clear hjj HK
            go_wp2_with (first | (refine wpList_farith _ _ _ _ _ rfl rfl rfl _ _ _ rfl rfl ?_; intro r n hr) | (refine wpList_fneg _ _ rfl rfl _ _ rfl ?_))
            go_ret
            exact ⟨_, _, HF.out ▸ sin_yes hb hh.out hz hu hp (by assumption), rfl, rfl⟩
      · go_wp2_with (refine wpList_farith _ _ _ _ _ rfl rfl rfl _ _ _ rfl rfl ?_); intro k nk hk
        have hh := Lib.hid (fold_bq hb hg hq hk)
        go_wp2_with (refine wpList_farith _ _ _ _ _ rfl rfl rfl _ _ _ rfl rfl ?_); intro z nz hz
        go_wp2_with (refine wpList_farith _ _ _ _ _ rfl rfl rfl _ _ _ rfl rfl ?_); intro u nu hu
        go_wp2_with fail
        go_loopw [7, 8] (fun a b wr => ∃ (j : Nat) (kk : Int) (r N : Nat), 0 ≤ kk ∧ kk ≤ 8 ∧ Hid (kk = 8 - (j : Int)) ∧ FV .f64 (pV (fl .f64 u) j) r ∧ a = .float .f64 r ∧ b = .int .i64 kk ∧ wr = w.drewN N) (fun _ b _ => (intOf b).toNat)
        case atStart => exact ⟨0, 8, _, _, by omega, by omega, (by exact Lib.hid (by omega)), ⟨rfl, by decide⟩, rfl, rfl, rfl⟩
        case round =>
          obtain ⟨j, kk, p, N, hk0, hk1, HK, hp, rfl, rfl, rfl⟩ := hrel
          by_cases hlt : 1 ≤ kk
          · have hpr := prod_bd hlt hk1
            obtain ⟨hpr0, hpr1⟩ := hpr
            go_wp2_with (refine wpList_farith _ _ _ _ _ rfl rfl rfl _ _ _ rfl rfl ?_; intro r n hr)
            go_roundw
            case rel =>
              have hjj := HK.out
              refine ⟨j + 1, kk - 1, _, _, by omega, by omega, (by exact Lib.hid (by omega)), ?_, rfl, rfl, rfl⟩
              exact p_step3 (by omega) hjj hp (by assumption) (by assumption) (by assumption)
            case measure => simp [intOf]; omega
          · have hd : decide (1 ≤ kk) = false := by simpa using hlt
            have hjj := HK.out
            obtain rfl : j = 8 := by omega
            clear hjj HK
            go_wp2_with (first | (refine wpList_farith _ _ _ _ _ rfl rfl rfl _ _ _ rfl rfl ?_; intro r n hr) | (refine wpList_fneg _ _ rfl rfl _ _ rfl ?_))
            go_ret
            exact ⟨_, _, HF.out ▸ sin_yes hb hh.out hz hu hp (by assumption), rfl, rfl⟩
  · go_wp2_with (refine wpList_farith _ _ _ _ _ rfl rfl rfl _ _ _ rfl rfl ?_); intro f1 nf1 hf1
    have hf := frac_yes hd hlt hf1
    obtain ⟨f, hfd⟩ : ∃ f, f = f1 := ⟨_, rfl⟩
    subst hfd
    have HF := Lib.hid hf.1
    clear hf
    cases hb : (FloatKind.f64.format.order f 4602678819172646912 == some .gt || FloatKind.f64.format.order f 4602678819172646912 == some .eq)
    · cases hq : (FloatKind.f64.format.order f 4598175219545276416 == some .gt)
      · have hh := Lib.hid (fold_nn hb hq)
        go_wp2_with (refine wpList_farith _ _ _ _ _ rfl rfl rfl _ _ _ rfl rfl ?_); intro z nz hz
        go_wp2_with (refine wpList_farith _ _ _ _ _ rfl rfl rfl _ _ _ rfl rfl ?_); intro u nu hu
        go_wp2_with fail
        go_loopw [7, 8] (fun a b wr => ∃ (j : Nat) (kk : Int) (r N : Nat), 0 ≤ kk ∧ kk ≤ 8 ∧ Hid (kk = 8 - (j : Int)) ∧ FV .f64 (pV (fl .f64 u) j) r ∧ a = .float .f64 r ∧ b = .int .i64 kk ∧ wr = w.drewN N) (fun _ b _ => (intOf b).toNat)
        case atStart => exact ⟨0, 8, _, _, by omega, by omega, (by exact Lib.hid (by omega)), ⟨rfl, by decide⟩, rfl, rfl, rfl⟩
        case round =>
          obtain ⟨j, kk, p, N, hk0, hk1, HK, hp, rfl, rfl, rfl⟩ := hrel
          by_cases hlt : 1 ≤ kk
          · have hpr := prod_bd hlt hk1
            obtain ⟨hpr0, hpr1⟩ := hpr
            go_wp2_with (refine wpList_farith _ _ _ _ _ rfl rfl rfl _ _ _ rfl rfl ?_; intro r n hr)
            go_roundw
            case rel =>
              have hjj := HK.out
              refine ⟨j + 1, kk - 1, _, _, by omega, by omega, (by exact Lib.hid (by omega)), ?_, rfl, rfl, rfl⟩
              exact p_step3 (by omega) hjj hp (by assumption) (by assumption) (by assumption)
            case measure => simp [intOf]; omega
          · have hd : decide (1 ≤ kk) = false := by simpa using hlt
            have hjj := HK.out
            obtain rfl : j = 8 := by omega
            clear hjj HK
            go_wp2_with (first | (refine wpList_farith _ _ _ _ _ rfl rfl rfl _ _ _ rfl rfl ?_; intro r n hr) | (refine wpList_fneg _ _ rfl rfl _ _ rfl ?_))
            go_ret
            exact ⟨_, _, HF.out ▸ sin_no hb hh.out hz hu hp (by assumption), rfl, rfl⟩
      · go_wp2_with (refine wpList_farith _ _ _ _ _ rfl rfl rfl _ _ _ rfl rfl ?_); intro g ng hg
        have hh := Lib.hid (fold_nq hb hq hg)
        go_wp2_with (refine wpList_farith _ _ _ _ _ rfl rfl rfl _ _ _ rfl rfl ?_); intro z nz hz
        go_wp2_with (refine wpList_farith _ _ _ _ _ rfl rfl rfl _ _ _ rfl rfl ?_); intro u nu hu
        go_wp2_with fail
        go_loopw [7, 8] (fun a b wr => ∃ (j : Nat) (kk : Int) (r N : Nat), 0 ≤ kk ∧ kk ≤ 8 ∧ Hid (kk = 8 - (j : Int)) ∧ FV .f64 (pV (fl .f64 u) j) r ∧ a = .float .f64 r ∧ b = .int .i64 kk ∧ wr = w.drewN N) (fun _ b _ => (intOf b).toNat)
        case atStart => exact ⟨0, 8, _, _, by omega, by omega, (by exact Lib.hid (by omega)), ⟨rfl, by decide⟩, rfl, rfl, rfl⟩
        case round =>
          obtain ⟨j, kk, p, N, hk0, hk1, HK, hp, rfl, rfl, rfl⟩ := hrel
          by_cases hlt : 1 ≤ kk
          · have hpr := prod_bd hlt hk1
            obtain ⟨hpr0, hpr1⟩ := hpr
            go_wp2_with (refine wpList_farith _ _ _ _ _ rfl rfl rfl _ _ _ rfl rfl ?_; intro r n hr)
            go_roundw
            case rel =>
              have hjj := HK.out
              refine ⟨j + 1, kk - 1, _, _, by omega, by omega, (by exact Lib.hid (by omega)), ?_, rfl, rfl, rfl⟩
              exact p_step3 (by omega) hjj hp (by assumption) (by assumption) (by assumption)
            case measure => simp [intOf]; omega
          · have hd : decide (1 ≤ kk) = false := by simpa using hlt
            have hjj := HK.out
            obtain rfl : j = 8 := by omega
            clear hjj HK
            go_wp2_with (first | (refine wpList_farith _ _ _ _ _ rfl rfl rfl _ _ _ rfl rfl ?_; intro r n hr) | (refine wpList_fneg _ _ rfl rfl _ _ rfl ?_))
            go_ret
            exact ⟨_, _, HF.out ▸ sin_no hb hh.out hz hu hp (by assumption), rfl, rfl⟩
    · go_wp2_with (refine wpList_farith _ _ _ _ _ rfl rfl rfl _ _ _ rfl rfl ?_); intro g ng hg
      cases hq : (FloatKind.f64.format.order g 4598175219545276416 == some .gt)
      · have hh := Lib.hid (fold_bn hb hg hq)
        go_wp2_with (refine wpList_farith _ _ _ _ _ rfl rfl rfl _ _ _ rfl rfl ?_); intro z nz hz
        go_wp2_with (refine wpList_farith _ _ _ _ _ rfl rfl rfl _ _ _ rfl rfl ?_); intro u nu hu
        go_wp2_with fail
        go_loopw [7, 8] (fun a b wr => ∃ (j : Nat) (kk : Int) (r N : Nat), 0 ≤ kk ∧ kk ≤ 8 ∧ Hid (kk = 8 - (j : Int)) ∧ FV .f64 (pV (fl .f64 u) j) r ∧ a = .float .f64 r ∧ b = .int .i64 kk ∧ wr = w.drewN N) (fun _ b _ => (intOf b).toNat)
        case atStart => exact ⟨0, 8, _, _, by omega, by omega, (by exact Lib.hid (by omega)), ⟨rfl, by decide⟩, rfl, rfl, rfl⟩
        case round =>
          obtain ⟨j, kk, p, N, hk0, hk1, HK, hp, rfl, rfl, rfl⟩ := hrel
          by_cases hlt : 1 ≤ kk
          · have hpr := prod_bd hlt hk1
            obtain ⟨hpr0, hpr1⟩ := hpr
            go_wp2_with (refine wpList_farith _ _ _ _ _ rfl rfl rfl _ _ _ rfl rfl ?_; intro r n hr)
            go_roundw
            case rel =>
              have hjj := HK.out
              refine ⟨j + 1, kk - 1, _, _, by omega, by omega, (by exact Lib.hid (by omega)), ?_, rfl, rfl, rfl⟩
              exact p_step3 (by omega) hjj hp (by assumption) (by assumption) (by assumption)
            case measure => simp [intOf]; omega
          · have hd : decide (1 ≤ kk) = false := by simpa using hlt
            have hjj := HK.out
            obtain rfl : j = 8 := by omega
            clear hjj HK
            go_wp2_with (first | (refine wpList_farith _ _ _ _ _ rfl rfl rfl _ _ _ rfl rfl ?_; intro r n hr) | (refine wpList_fneg _ _ rfl rfl _ _ rfl ?_))
            go_ret
            exact ⟨_, _, HF.out ▸ sin_yes hb hh.out hz hu hp (by assumption), rfl, rfl⟩
      · go_wp2_with (refine wpList_farith _ _ _ _ _ rfl rfl rfl _ _ _ rfl rfl ?_); intro k nk hk
        have hh := Lib.hid (fold_bq hb hg hq hk)
        go_wp2_with (refine wpList_farith _ _ _ _ _ rfl rfl rfl _ _ _ rfl rfl ?_); intro z nz hz
        go_wp2_with (refine wpList_farith _ _ _ _ _ rfl rfl rfl _ _ _ rfl rfl ?_); intro u nu hu
        go_wp2_with fail
        go_loopw [7, 8] (fun a b wr => ∃ (j : Nat) (kk : Int) (r N : Nat), 0 ≤ kk ∧ kk ≤ 8 ∧ Hid (kk = 8 - (j : Int)) ∧ FV .f64 (pV (fl .f64 u) j) r ∧ a = .float .f64 r ∧ b = .int .i64 kk ∧ wr = w.drewN N) (fun _ b _ => (intOf b).toNat)
        case atStart => exact ⟨0, 8, _, _, by omega, by omega, (by exact Lib.hid (by omega)), ⟨rfl, by decide⟩, rfl, rfl, rfl⟩
        case round =>
          obtain ⟨j, kk, p, N, hk0, hk1, HK, hp, rfl, rfl, rfl⟩ := hrel
          by_cases hlt : 1 ≤ kk
          · have hpr := prod_bd hlt hk1
            obtain ⟨hpr0, hpr1⟩ := hpr
            go_wp2_with (refine wpList_farith _ _ _ _ _ rfl rfl rfl _ _ _ rfl rfl ?_; intro r n hr)
            go_roundw
            case rel =>
              have hjj := HK.out
              refine ⟨j + 1, kk - 1, _, _, by omega, by omega, (by exact Lib.hid (by omega)), ?_, rfl, rfl, rfl⟩
              exact p_step3 (by omega) hjj hp (by assumption) (by assumption) (by assumption)
            case measure => simp [intOf]; omega
          · have hd : decide (1 ≤ kk) = false := by simpa using hlt
            have hjj := HK.out
            obtain rfl : j = 8 := by omega
            clear hjj HK
            go_wp2_with (first | (refine wpList_farith _ _ _ _ _ rfl rfl rfl _ _ _ rfl rfl ?_; intro r n hr) | (refine wpList_fneg _ _ rfl rfl _ _ rfl ?_))
            go_ret
            exact ⟨_, _, HF.out ▸ sin_yes hb hh.out hz hu hp (by assumption), rfl, rfl⟩

end Go.Proofs.Ytfnplomgicgenaa.WJ