/- The walks: the reference's angle; AngleTurns. -/
import Derived.Test.YtfnplomgicgenaaWP
namespace Go.Proofs.Ytfnplomgicgenaa.WQ
open Go.RowKit Fl Fs Fo Fw Fb Fm Ff Fz Fy Fx Fa WA WB WH WI WJ WK WL WM WN WP
set_option maxRecDepth 20000
theorem wid_cmp {x : Nat} (hx : x < 4294967296) (h : rung Ieee.single x < Ieee.single.infRung) : (FloatKind.f64.format.order (wid x) 0 == some .eq) = eqz x ∧ (FloatKind.f64.format.order (wid x) 0 == some .lt) = ltz x := by
  unfold eqz ltz
  by_cases h0 : rung Ieee.single x = 0
  · have hr : rung Ieee.single x = x % 2147483648 := rfl
    have : x = 0 ∨ x = 2147483648 := by omega
    rcases this with rfl | rfl <;> decide +kernel
  · obtain ⟨k1, _⟩ := order0_wid (Nat.le_of_lt h) (by omega)
    rw [k1, order0 (Nat.le_of_lt h), if_neg h0]
    cases sgn Ieee.single x <;> exact ⟨rfl, rfl⟩

set_option maxHeartbeats 16000000 in
theorem spec_AngleWide_a (y x : Nat) (h1 : rung Ieee.single x < Ieee.single.infRung) (h2 : rung Ieee.single y < Ieee.single.infRung) (gx : x < 4294967296) (gy : y < 4294967296) (hz : eqz x = false) (w : World) : Calls Try.prog 75 #[.float .f64 (wid y), .float .f64 (wid x)] w (RetF .f64 (FV .f64 (ang3 (absW y) (absW x) (ltz x) (ltz y))) w) := by
  have HX := Lib.hid h1
  have HY := Lib.hid h2
  have HGX := Lib.hid gx
  have HGY := Lib.hid gy
  have hz' : (FloatKind.f64.format.order (wid x) 0 == some .eq) = false := by rw [(wid_cmp gx h1).1]; exact hz
  clear h1 h2 hz gx gy
  cases ho : (FloatKind.f64.format.order (wid y % 9223372036854775808) (wid x % 9223372036854775808) == some .gt)
  · have HO := Lib.hid ho
    go_enter Try.func75, Try.ntmps75
    go_wp2_with (refine wpList_farith _ _ _ _ _ rfl rfl rfl _ _ _ rfl rfl ?_); intro d1 nd1 hd1
    have s1 := self_ok (wid_fin HY.out) hd1
    clear hd1
    go_wp2_with (refine wpList_farith _ _ _ _ _ rfl rfl rfl _ _ _ rfl rfl ?_); intro d2 nd2 hd2
    have s2 := self_ok (wid_fin HX.out) hd2
    clear hd2
    go_wp2_with (first | (go_at_call 48; refine (math_Abs _ (wid_lt _) _).mono ?_; rintro e w' ⟨rfl, rfl⟩) | (refine wpList_farith _ _ _ _ _ rfl rfl rfl _ _ _ rfl rfl ?_; intro r n hr))
    go_loopw [8, 9] (fun a b wr => ∃ (j r N : Nat), j ≤ 3 ∧ FV .f64 (tV (t0V (absW y) (absW x)) j) r ∧ a = .float .f64 r ∧ b = .int .i64 j ∧ wr = w.drewN N) (fun _ b _ => 3 - (intOf b).toNat)
    case atStart => exact ⟨0, _, _, by omega, t0_no (fl_abs HY.out) (fl_abs HX.out) HO.out (by assumption), rfl, rfl, rfl⟩
    case round =>
      obtain ⟨j, t, N, hj, ht, rfl, rfl, rfl⟩ := hrel
      by_cases hlt : j < 3
      · go_wp2_with (first | (refine wpList_farith _ _ _ _ _ rfl rfl rfl _ _ _ rfl rfl ?_; intro r n hr) | (go_at_call 51; refine (math_Sqrt _ _).mono ?_; rintro e w' ⟨r, n, hv, rfl, rfl⟩))
        go_roundw
        case rel => exact ⟨j + 1, _, _, by omega, t_step ht (by assumption) (by assumption) (by assumption) (by assumption) (by assumption), rfl, by go_num, rfl⟩
        case measure => simp [intOf]; omega
      · have hd : decide ((j : Int) < 3) = false := by simp; omega
        obtain rfl : j = 3 := by omega
        go_wp2_with (refine wpList_farith _ _ _ _ _ rfl rfl rfl _ _ _ rfl rfl ?_); intro u nu hu
        go_wp2_with fail
        clear hd
        go_loopw [11, 12] (fun a b wr => ∃ (j : Nat) (kk : Int) (r N : Nat), -1 ≤ kk ∧ kk ≤ 15 ∧ Hid (kk = 15 - 2 * (j : Int)) ∧ FV .f64 (aV (fl .f64 u) j) r ∧ a = .float .f64 r ∧ b = .int .i64 kk ∧ wr = w.drewN N) (fun _ b _ => (intOf b + 2).toNat)
        case atStart => exact ⟨0, 15, 0, _, by omega, by omega, (by exact Lib.hid (by omega)), ⟨rfl, by decide⟩, rfl, rfl, rfl⟩
        case round =>
          obtain ⟨j, kk, p, N2, hk0, hk1, HK, hp, rfl, rfl, rfl⟩ := hrel
          by_cases hlt2 : 1 ≤ kk
          · go_wp2_with (refine wpList_farith _ _ _ _ _ rfl rfl rfl _ _ _ rfl rfl ?_; intro r n hr)
            go_roundw
            case rel =>
              have hkk := HK.out
              refine ⟨j + 1, kk - 2, _, _, by omega, by omega, (by exact Lib.hid (by omega)), ?_, rfl, rfl, rfl⟩
              subst hkk
              exact a_step (by omega) hp (by assumption) (by assumption) (by assumption)
            case measure => simp [intOf]; omega
          · have hdk : decide (1 ≤ kk) = false := by simpa using hlt2
            have hkk := HK.out
            obtain rfl : j = 8 := by omega
            clear hkk HK
            cases hsx : ltz x <;> cases hsy : ltz y
            · have hsx0 := Lib.hid hsx; have hsy0 := Lib.hid hsy
              have hsx1 : (FloatKind.f64.format.order (wid x) 0 == some .lt) = _ := (wid_cmp HGX.out HX.out).2.trans hsx
              have hsy1 : (FloatKind.f64.format.order (wid y) 0 == some .lt) = _ := (wid_cmp HGY.out HY.out).2.trans hsy
              clear hsx hsy
              go_wp2_with (first | (refine wpList_farith _ _ _ _ _ rfl rfl rfl _ _ _ rfl rfl ?_; intro r n hr) | (refine wpList_fneg _ _ rfl rfl _ _ rfl ?_))
              go_ret
              exact ⟨_, _, (e3no hsy0.out (e2no hsx0.out (e1no HO.out (e0 ht hp hu (by assumption) (by assumption) (by assumption))))), rfl, rfl⟩
            · have hsx0 := Lib.hid hsx; have hsy0 := Lib.hid hsy
              have hsx1 : (FloatKind.f64.format.order (wid x) 0 == some .lt) = _ := (wid_cmp HGX.out HX.out).2.trans hsx
              have hsy1 : (FloatKind.f64.format.order (wid y) 0 == some .lt) = _ := (wid_cmp HGY.out HY.out).2.trans hsy
              clear hsx hsy
              go_wp2_with (first | (refine wpList_farith _ _ _ _ _ rfl rfl rfl _ _ _ rfl rfl ?_; intro r n hr) | (refine wpList_fneg _ _ rfl rfl _ _ rfl ?_))
              go_ret
              exact ⟨_, _, (e3yes hsy0.out (e2no hsx0.out (e1no HO.out (e0 ht hp hu (by assumption) (by assumption) (by assumption))))), rfl, rfl⟩
            · have hsx0 := Lib.hid hsx; have hsy0 := Lib.hid hsy
              have hsx1 : (FloatKind.f64.format.order (wid x) 0 == some .lt) = _ := (wid_cmp HGX.out HX.out).2.trans hsx
              have hsy1 : (FloatKind.f64.format.order (wid y) 0 == some .lt) = _ := (wid_cmp HGY.out HY.out).2.trans hsy
              clear hsx hsy
              go_wp2_with (first | (refine wpList_farith _ _ _ _ _ rfl rfl rfl _ _ _ rfl rfl ?_; intro r n hr) | (refine wpList_fneg _ _ rfl rfl _ _ rfl ?_))
              go_ret
              exact ⟨_, _, (e3no hsy0.out (e2yes hsx0.out (by assumption) (e1no HO.out (e0 ht hp hu (by assumption) (by assumption) (by assumption))))), rfl, rfl⟩
            · have hsx0 := Lib.hid hsx; have hsy0 := Lib.hid hsy
              have hsx1 : (FloatKind.f64.format.order (wid x) 0 == some .lt) = _ := (wid_cmp HGX.out HX.out).2.trans hsx
              have hsy1 : (FloatKind.f64.format.order (wid y) 0 == some .lt) = _ := (wid_cmp HGY.out HY.out).2.trans hsy
              clear hsx hsy
              go_wp2_with (first | (refine wpList_farith _ _ _ _ _ rfl rfl rfl _ _ _ rfl rfl ?_; intro r n hr) | (refine wpList_fneg _ _ rfl rfl _ _ rfl ?_))
              go_ret
              exact ⟨_, _, (e3yes hsy0.out (e2yes hsx0.out (by assumption) (e1no HO.out (e0 ht hp hu (by assumption) (by assumption) (by assumption))))), rfl, rfl⟩


  · have HO := Lib.hid ho
    go_enter Try.func75, Try.ntmps75
    go_wp2_with (refine wpList_farith _ _ _ _ _ rfl rfl rfl _ _ _ rfl rfl ?_); intro d1 nd1 hd1
    have s1 := self_ok (wid_fin HY.out) hd1
    clear hd1
    go_wp2_with (refine wpList_farith _ _ _ _ _ rfl rfl rfl _ _ _ rfl rfl ?_); intro d2 nd2 hd2
    have s2 := self_ok (wid_fin HX.out) hd2
    clear hd2
    go_wp2_with (first | (go_at_call 48; refine (math_Abs _ (wid_lt _) _).mono ?_; rintro e w' ⟨rfl, rfl⟩) | (refine wpList_farith _ _ _ _ _ rfl rfl rfl _ _ _ rfl rfl ?_; intro r n hr))
    go_loopw [8, 9] (fun a b wr => ∃ (j r N : Nat), j ≤ 3 ∧ FV .f64 (tV (t0V (absW y) (absW x)) j) r ∧ a = .float .f64 r ∧ b = .int .i64 j ∧ wr = w.drewN N) (fun _ b _ => 3 - (intOf b).toNat)
    case atStart => exact ⟨0, _, _, by omega, t0_yes (fl_abs HY.out) (fl_abs HX.out) HO.out (by assumption), rfl, rfl, rfl⟩
    case round =>
      obtain ⟨j, t, N, hj, ht, rfl, rfl, rfl⟩ := hrel
      by_cases hlt : j < 3
      · go_wp2_with (first | (refine wpList_farith _ _ _ _ _ rfl rfl rfl _ _ _ rfl rfl ?_; intro r n hr) | (go_at_call 51; refine (math_Sqrt _ _).mono ?_; rintro e w' ⟨r, n, hv, rfl, rfl⟩))
        go_roundw
        case rel => exact ⟨j + 1, _, _, by omega, t_step ht (by assumption) (by assumption) (by assumption) (by assumption) (by assumption), rfl, by go_num, rfl⟩
        case measure => simp [intOf]; omega
      · have hd : decide ((j : Int) < 3) = false := by simp; omega
        obtain rfl : j = 3 := by omega
        go_wp2_with (refine wpList_farith _ _ _ _ _ rfl rfl rfl _ _ _ rfl rfl ?_); intro u nu hu
        go_wp2_with fail
        clear hd
        go_loopw [11, 12] (fun a b wr => ∃ (j : Nat) (kk : Int) (r N : Nat), -1 ≤ kk ∧ kk ≤ 15 ∧ Hid (kk = 15 - 2 * (j : Int)) ∧ FV .f64 (aV (fl .f64 u) j) r ∧ a = .float .f64 r ∧ b = .int .i64 kk ∧ wr = w.drewN N) (fun _ b _ => (intOf b + 2).toNat)
        case atStart => exact ⟨0, 15, 0, _, by omega, by omega, (by exact Lib.hid (by omega)), ⟨rfl, by decide⟩, rfl, rfl, rfl⟩
        case round =>
          obtain ⟨j, kk, p, N2, hk0, hk1, HK, hp, rfl, rfl, rfl⟩ := hrel
          by_cases hlt2 : 1 ≤ kk
          · go_wp2_with (refine wpList_farith _ _ _ _ _ rfl rfl rfl _ _ _ rfl rfl ?_; intro r n hr)
            go_roundw
            case rel =>
              have hkk := HK.out
              refine ⟨j + 1, kk - 2, _, _, by omega, by omega, (by exact Lib.hid (by omega)), ?_, rfl, rfl, rfl⟩
              subst hkk
              exact a_step (by omega) hp (by assumption) (by assumption) (by assumption)
            case measure => simp [intOf]; omega
          · have hdk : decide (1 ≤ kk) = false := by simpa using hlt2
            have hkk := HK.out
            obtain rfl : j = 8 := by omega
            clear hkk HK
            cases hsx : ltz x <;> cases hsy : ltz y
            · have hsx0 := Lib.hid hsx; have hsy0 := Lib.hid hsy
              have hsx1 : (FloatKind.f64.format.order (wid x) 0 == some .lt) = _ := (wid_cmp HGX.out HX.out).2.trans hsx
              have hsy1 : (FloatKind.f64.format.order (wid y) 0 == some .lt) = _ := (wid_cmp HGY.out HY.out).2.trans hsy
              clear hsx hsy
              go_wp2_with (first | (refine wpList_farith _ _ _ _ _ rfl rfl rfl _ _ _ rfl rfl ?_; intro r n hr) | (refine wpList_fneg _ _ rfl rfl _ _ rfl ?_))
              go_ret
              exact ⟨_, _, (e3no hsy0.out (e2no hsx0.out (e1yes HO.out (by assumption) (e0 ht hp hu (by assumption) (by assumption) (by assumption))))), rfl, rfl⟩
            · have hsx0 := Lib.hid hsx; have hsy0 := Lib.hid hsy
              have hsx1 : (FloatKind.f64.format.order (wid x) 0 == some .lt) = _ := (wid_cmp HGX.out HX.out).2.trans hsx
              have hsy1 : (FloatKind.f64.format.order (wid y) 0 == some .lt) = _ := (wid_cmp HGY.out HY.out).2.trans hsy
              clear hsx hsy
              go_wp2_with (first | (refine wpList_farith _ _ _ _ _ rfl rfl rfl _ _ _ rfl rfl ?_; intro r n hr) | (refine wpList_fneg _ _ rfl rfl _ _ rfl ?_))
              go_ret
              exact ⟨_, _, (e3yes hsy0.out (e2no hsx0.out (e1yes HO.out (by assumption) (e0 ht hp hu (by assumption) (by assumption) (by assumption))))), rfl, rfl⟩
            · have hsx0 := Lib.hid hsx; have hsy0 := Lib.hid hsy
              have hsx1 : (FloatKind.f64.format.order (wid x) 0 == some .lt) = _ := (wid_cmp HGX.out HX.out).2.trans hsx
              have hsy1 : (FloatKind.f64.format.order (wid y) 0 == some .lt) = _ := (wid_cmp HGY.out HY.out).2.trans hsy
              clear hsx hsy
              go_wp2_with (first | (refine wpList_farith _ _ _ _ _ rfl rfl rfl _ _ _ rfl rfl ?_; intro r n hr) | (refine wpList_fneg _ _ rfl rfl _ _ rfl ?_))
              go_ret
              exact ⟨_, _, (e3no hsy0.out (e2yes hsx0.out (by assumption) (e1yes HO.out (by assumption) (e0 ht hp hu (by assumption) (by assumption) (by assumption))))), rfl, rfl⟩
            · have hsx0 := Lib.hid hsx; have hsy0 := Lib.hid hsy
              have hsx1 : (FloatKind.f64.format.order (wid x) 0 == some .lt) = _ := (wid_cmp HGX.out HX.out).2.trans hsx
              have hsy1 : (FloatKind.f64.format.order (wid y) 0 == some .lt) = _ := (wid_cmp HGY.out HY.out).2.trans hsy
              clear hsx hsy
              go_wp2_with (first | (refine wpList_farith _ _ _ _ _ rfl rfl rfl _ _ _ rfl rfl ?_; intro r n hr) | (refine wpList_fneg _ _ rfl rfl _ _ rfl ?_))
              go_ret
              exact ⟨_, _, (e3yes hsy0.out (e2yes hsx0.out (by assumption) (e1yes HO.out (by assumption) (e0 ht hp hu (by assumption) (by assumption) (by assumption))))), rfl, rfl⟩



set_option maxHeartbeats 16000000 in
theorem spec_AngleWide_b (y x : Nat) (h1 : rung Ieee.single x < Ieee.single.infRung) (h2 : rung Ieee.single y < Ieee.single.infRung) (gx : x < 4294967296) (gy : y < 4294967296) (hz : eqz x = true) (hy : eqz y = false) (w : World) : Calls Try.prog 75 #[.float .f64 (wid y), .float .f64 (wid x)] w (RetF .f64 (FV .f64 (ang3 (absW y) (absW x) (ltz x) (ltz y))) w) := by
  have HX := Lib.hid h1
  have HY := Lib.hid h2
  have HGX := Lib.hid gx
  have HGY := Lib.hid gy
  have hz' : (FloatKind.f64.format.order (wid x) 0 == some .eq) = true := by rw [(wid_cmp gx h1).1]; exact hz
  have hy' : (FloatKind.f64.format.order (wid y) 0 == some .eq) = false := by rw [(wid_cmp gy h2).1]; exact hy
  clear h1 h2 hz gx gy hy
  cases ho : (FloatKind.f64.format.order (wid y % 9223372036854775808) (wid x % 9223372036854775808) == some .gt)
  · have HO := Lib.hid ho
    go_enter Try.func75, Try.ntmps75
    go_wp2_with (refine wpList_farith _ _ _ _ _ rfl rfl rfl _ _ _ rfl rfl ?_); intro d1 nd1 hd1
    have s1 := self_ok (wid_fin HY.out) hd1
    clear hd1
    go_wp2_with (refine wpList_farith _ _ _ _ _ rfl rfl rfl _ _ _ rfl rfl ?_); intro d2 nd2 hd2
    have s2 := self_ok (wid_fin HX.out) hd2
    clear hd2
    go_wp2_with (first | (go_at_call 48; refine (math_Abs _ (wid_lt _) _).mono ?_; rintro e w' ⟨rfl, rfl⟩) | (refine wpList_farith _ _ _ _ _ rfl rfl rfl _ _ _ rfl rfl ?_; intro r n hr))
    go_loopw [8, 9] (fun a b wr => ∃ (j r N : Nat), j ≤ 3 ∧ FV .f64 (tV (t0V (absW y) (absW x)) j) r ∧ a = .float .f64 r ∧ b = .int .i64 j ∧ wr = w.drewN N) (fun _ b _ => 3 - (intOf b).toNat)
    case atStart => exact ⟨0, _, _, by omega, t0_no (fl_abs HY.out) (fl_abs HX.out) HO.out (by assumption), rfl, rfl, rfl⟩
    case round =>
      obtain ⟨j, t, N, hj, ht, rfl, rfl, rfl⟩ := hrel
      by_cases hlt : j < 3
      · go_wp2_with (first | (refine wpList_farith _ _ _ _ _ rfl rfl rfl _ _ _ rfl rfl ?_; intro r n hr) | (go_at_call 51; refine (math_Sqrt _ _).mono ?_; rintro e w' ⟨r, n, hv, rfl, rfl⟩))
        go_roundw
        case rel => exact ⟨j + 1, _, _, by omega, t_step ht (by assumption) (by assumption) (by assumption) (by assumption) (by assumption), rfl, by go_num, rfl⟩
        case measure => simp [intOf]; omega
      · have hd : decide ((j : Int) < 3) = false := by simp; omega
        obtain rfl : j = 3 := by omega
        go_wp2_with (refine wpList_farith _ _ _ _ _ rfl rfl rfl _ _ _ rfl rfl ?_); intro u nu hu
        go_wp2_with fail
        clear hd
        go_loopw [11, 12] (fun a b wr => ∃ (j : Nat) (kk : Int) (r N : Nat), -1 ≤ kk ∧ kk ≤ 15 ∧ Hid (kk = 15 - 2 * (j : Int)) ∧ FV .f64 (aV (fl .f64 u) j) r ∧ a = .float .f64 r ∧ b = .int .i64 kk ∧ wr = w.drewN N) (fun _ b _ => (intOf b + 2).toNat)
        case atStart => exact ⟨0, 15, 0, _, by omega, by omega, (by exact Lib.hid (by omega)), ⟨rfl, by decide⟩, rfl, rfl, rfl⟩
        case round =>
          obtain ⟨j, kk, p, N2, hk0, hk1, HK, hp, rfl, rfl, rfl⟩ := hrel
          by_cases hlt2 : 1 ≤ kk
          · go_wp2_with (refine wpList_farith _ _ _ _ _ rfl rfl rfl _ _ _ rfl rfl ?_; intro r n hr)
            go_roundw
            case rel =>
              have hkk := HK.out
              refine ⟨j + 1, kk - 2, _, _, by omega, by omega, (by exact Lib.hid (by omega)), ?_, rfl, rfl, rfl⟩
              subst hkk
              exact a_step (by omega) hp (by assumption) (by assumption) (by assumption)
            case measure => simp [intOf]; omega
          · have hdk : decide (1 ≤ kk) = false := by simpa using hlt2
            have hkk := HK.out
            obtain rfl : j = 8 := by omega
            clear hkk HK
            cases hsx : ltz x <;> cases hsy : ltz y
            · have hsx0 := Lib.hid hsx; have hsy0 := Lib.hid hsy
              have hsx1 : (FloatKind.f64.format.order (wid x) 0 == some .lt) = _ := (wid_cmp HGX.out HX.out).2.trans hsx
              have hsy1 : (FloatKind.f64.format.order (wid y) 0 == some .lt) = _ := (wid_cmp HGY.out HY.out).2.trans hsy
              clear hsx hsy
              go_wp2_with (first | (refine wpList_farith _ _ _ _ _ rfl rfl rfl _ _ _ rfl rfl ?_; intro r n hr) | (refine wpList_fneg _ _ rfl rfl _ _ rfl ?_))
              go_ret
              exact ⟨_, _, (e3no hsy0.out (e2no hsx0.out (e1no HO.out (e0 ht hp hu (by assumption) (by assumption) (by assumption))))), rfl, rfl⟩
            · have hsx0 := Lib.hid hsx; have hsy0 := Lib.hid hsy
              have hsx1 : (FloatKind.f64.format.order (wid x) 0 == some .lt) = _ := (wid_cmp HGX.out HX.out).2.trans hsx
              have hsy1 : (FloatKind.f64.format.order (wid y) 0 == some .lt) = _ := (wid_cmp HGY.out HY.out).2.trans hsy
              clear hsx hsy
              go_wp2_with (first | (refine wpList_farith _ _ _ _ _ rfl rfl rfl _ _ _ rfl rfl ?_; intro r n hr) | (refine wpList_fneg _ _ rfl rfl _ _ rfl ?_))
              go_ret
              exact ⟨_, _, (e3yes hsy0.out (e2no hsx0.out (e1no HO.out (e0 ht hp hu (by assumption) (by assumption) (by assumption))))), rfl, rfl⟩
            · have hsx0 := Lib.hid hsx; have hsy0 := Lib.hid hsy
              have hsx1 : (FloatKind.f64.format.order (wid x) 0 == some .lt) = _ := (wid_cmp HGX.out HX.out).2.trans hsx
              have hsy1 : (FloatKind.f64.format.order (wid y) 0 == some .lt) = _ := (wid_cmp HGY.out HY.out).2.trans hsy
              clear hsx hsy
              go_wp2_with (first | (refine wpList_farith _ _ _ _ _ rfl rfl rfl _ _ _ rfl rfl ?_; intro r n hr) | (refine wpList_fneg _ _ rfl rfl _ _ rfl ?_))
              go_ret
              exact ⟨_, _, (e3no hsy0.out (e2yes hsx0.out (by assumption) (e1no HO.out (e0 ht hp hu (by assumption) (by assumption) (by assumption))))), rfl, rfl⟩
            · have hsx0 := Lib.hid hsx; have hsy0 := Lib.hid hsy
              have hsx1 : (FloatKind.f64.format.order (wid x) 0 == some .lt) = _ := (wid_cmp HGX.out HX.out).2.trans hsx
              have hsy1 : (FloatKind.f64.format.order (wid y) 0 == some .lt) = _ := (wid_cmp HGY.out HY.out).2.trans hsy
              clear hsx hsy
              go_wp2_with (first | (refine wpList_farith _ _ _ _ _ rfl rfl rfl _ _ _ rfl rfl ?_; intro r n hr) | (refine wpList_fneg _ _ rfl rfl _ _ rfl ?_))
              go_ret
              exact ⟨_, _, (e3yes hsy0.out (e2yes hsx0.out (by assumption) (e1no HO.out (e0 ht hp hu (by assumption) (by assumption) (by assumption))))), rfl, rfl⟩


  · have HO := Lib.hid ho
    go_enter Try.func75, Try.ntmps75
    go_wp2_with (refine wpList_farith _ _ _ _ _ rfl rfl rfl _ _ _ rfl rfl ?_); intro d1 nd1 hd1
    have s1 := self_ok (wid_fin HY.out) hd1
    clear hd1
    go_wp2_with (refine wpList_farith _ _ _ _ _ rfl rfl rfl _ _ _ rfl rfl ?_); intro d2 nd2 hd2
    have s2 := self_ok (wid_fin HX.out) hd2
    clear hd2
    go_wp2_with (first | (go_at_call 48; refine (math_Abs _ (wid_lt _) _).mono ?_; rintro e w' ⟨rfl, rfl⟩) | (refine wpList_farith _ _ _ _ _ rfl rfl rfl _ _ _ rfl rfl ?_; intro r n hr))
    go_loopw [8, 9] (fun a b wr => ∃ (j r N : Nat), j ≤ 3 ∧ FV .f64 (tV (t0V (absW y) (absW x)) j) r ∧ a = .float .f64 r ∧ b = .int .i64 j ∧ wr = w.drewN N) (fun _ b _ => 3 - (intOf b).toNat)
    case atStart => exact ⟨0, _, _, by omega, t0_yes (fl_abs HY.out) (fl_abs HX.out) HO.out (by assumption), rfl, rfl, rfl⟩
    case round =>
      obtain ⟨j, t, N, hj, ht, rfl, rfl, rfl⟩ := hrel
      by_cases hlt : j < 3
      · go_wp2_with (first | (refine wpList_farith _ _ _ _ _ rfl rfl rfl _ _ _ rfl rfl ?_; intro r n hr) | (go_at_call 51; refine (math_Sqrt _ _).mono ?_; rintro e w' ⟨r, n, hv, rfl, rfl⟩))
        go_roundw
        case rel => exact ⟨j + 1, _, _, by omega, t_step ht (by assumption) (by assumption) (by assumption) (by assumption) (by assumption), rfl, by go_num, rfl⟩
        case measure => simp [intOf]; omega
      · have hd : decide ((j : Int) < 3) = false := by simp; omega
        obtain rfl : j = 3 := by omega
        go_wp2_with (refine wpList_farith _ _ _ _ _ rfl rfl rfl _ _ _ rfl rfl ?_); intro u nu hu
        go_wp2_with fail
        clear hd
        go_loopw [11, 12] (fun a b wr => ∃ (j : Nat) (kk : Int) (r N : Nat), -1 ≤ kk ∧ kk ≤ 15 ∧ Hid (kk = 15 - 2 * (j : Int)) ∧ FV .f64 (aV (fl .f64 u) j) r ∧ a = .float .f64 r ∧ b = .int .i64 kk ∧ wr = w.drewN N) (fun _ b _ => (intOf b + 2).toNat)
        case atStart => exact ⟨0, 15, 0, _, by omega, by omega, (by exact Lib.hid (by omega)), ⟨rfl, by decide⟩, rfl, rfl, rfl⟩
        case round =>
          obtain ⟨j, kk, p, N2, hk0, hk1, HK, hp, rfl, rfl, rfl⟩ := hrel
          by_cases hlt2 : 1 ≤ kk
          · go_wp2_with (refine wpList_farith _ _ _ _ _ rfl rfl rfl _ _ _ rfl rfl ?_; intro r n hr)
            go_roundw
            case rel =>
              have hkk := HK.out
              refine ⟨j + 1, kk - 2, _, _, by omega, by omega, (by exact Lib.hid (by omega)), ?_, rfl, rfl, rfl⟩
              subst hkk
              exact a_step (by omega) hp (by assumption) (by assumption) (by assumption)
            case measure => simp [intOf]; omega
          · have hdk : decide (1 ≤ kk) = false := by simpa using hlt2
            have hkk := HK.out
            obtain rfl : j = 8 := by omega
            clear hkk HK
            cases hsx : ltz x <;> cases hsy : ltz y
            · have hsx0 := Lib.hid hsx; have hsy0 := Lib.hid hsy
              have hsx1 : (FloatKind.f64.format.order (wid x) 0 == some .lt) = _ := (wid_cmp HGX.out HX.out).2.trans hsx
              have hsy1 : (FloatKind.f64.format.order (wid y) 0 == some .lt) = _ := (wid_cmp HGY.out HY.out).2.trans hsy
              clear hsx hsy
              go_wp2_with (first | (refine wpList_farith _ _ _ _ _ rfl rfl rfl _ _ _ rfl rfl ?_; intro r n hr) | (refine wpList_fneg _ _ rfl rfl _ _ rfl ?_))
              go_ret
              exact ⟨_, _, (e3no hsy0.out (e2no hsx0.out (e1yes HO.out (by assumption) (e0 ht hp hu (by assumption) (by assumption) (by assumption))))), rfl, rfl⟩
            · have hsx0 := Lib.hid hsx; have hsy0 := Lib.hid hsy
              have hsx1 : (FloatKind.f64.format.order (wid x) 0 == some .lt) = _ := (wid_cmp HGX.out HX.out).2.trans hsx
              have hsy1 : (FloatKind.f64.format.order (wid y) 0 == some .lt) = _ := (wid_cmp HGY.out HY.out).2.trans hsy
              clear hsx hsy
              go_wp2_with (first | (refine wpList_farith _ _ _ _ _ rfl rfl rfl _ _ _ rfl rfl ?_; intro r n hr) | (refine wpList_fneg _ _ rfl rfl _ _ rfl ?_))
              go_ret
              exact ⟨_, _, (e3yes hsy0.out (e2no hsx0.out (e1yes HO.out (by assumption) (e0 ht hp hu (by assumption) (by assumption) (by assumption))))), rfl, rfl⟩
            · have hsx0 := Lib.hid hsx; have hsy0 := Lib.hid hsy
              have hsx1 : (FloatKind.f64.format.order (wid x) 0 == some .lt) = _ := (wid_cmp HGX.out HX.out).2.trans hsx
              have hsy1 : (FloatKind.f64.format.order (wid y) 0 == some .lt) = _ := (wid_cmp HGY.out HY.out).2.trans hsy
              clear hsx hsy
              go_wp2_with (first | (refine wpList_farith _ _ _ _ _ rfl rfl rfl _ _ _ rfl rfl ?_; intro r n hr) | (refine wpList_fneg _ _ rfl rfl _ _ rfl ?_))
              go_ret
              exact ⟨_, _, (e3no hsy0.out (e2yes hsx0.out (by assumption) (e1yes HO.out (by assumption) (e0 ht hp hu (by assumption) (by assumption) (by assumption))))), rfl, rfl⟩
            · have hsx0 := Lib.hid hsx; have hsy0 := Lib.hid hsy
              have hsx1 : (FloatKind.f64.format.order (wid x) 0 == some .lt) = _ := (wid_cmp HGX.out HX.out).2.trans hsx
              have hsy1 : (FloatKind.f64.format.order (wid y) 0 == some .lt) = _ := (wid_cmp HGY.out HY.out).2.trans hsy
              clear hsx hsy
              go_wp2_with (first | (refine wpList_farith _ _ _ _ _ rfl rfl rfl _ _ _ rfl rfl ?_; intro r n hr) | (refine wpList_fneg _ _ rfl rfl _ _ rfl ?_))
              go_ret
              exact ⟨_, _, (e3yes hsy0.out (e2yes hsx0.out (by assumption) (e1yes HO.out (by assumption) (e0 ht hp hu (by assumption) (by assumption) (by assumption))))), rfl, rfl⟩



set_option maxHeartbeats 1000000 in
theorem spec_AngleWide_zero (y x : Nat) (h1 : rung Ieee.single x < Ieee.single.infRung) (h2 : rung Ieee.single y < Ieee.single.infRung) (gx : x < 4294967296) (gy : y < 4294967296) (hz : eqz x = true) (hy : eqz y = true) (w : World) : Calls Try.prog 75 #[.float .f64 (wid y), .float .f64 (wid x)] w (RetF .f64 (fun r => r = 0) w) := by
  have HX := Lib.hid h1
  have HY := Lib.hid h2
  have hz' : (FloatKind.f64.format.order (wid x) 0 == some .eq) = true := by rw [(wid_cmp gx h1).1]; exact hz
  have hy' : (FloatKind.f64.format.order (wid y) 0 == some .eq) = true := by rw [(wid_cmp gy h2).1]; exact hy
  clear h1 h2 hz gx gy hy
  go_enter Try.func75, Try.ntmps75
  go_wp2_with (refine wpList_farith _ _ _ _ _ rfl rfl rfl _ _ _ rfl rfl ?_); intro d1 nd1 hd1
  have s1 := self_ok (wid_fin HY.out) hd1
  clear hd1
  go_wp2_with (refine wpList_farith _ _ _ _ _ rfl rfl rfl _ _ _ rfl rfl ?_); intro d2 nd2 hd2
  have s2 := self_ok (wid_fin HX.out) hd2
  clear hd2
  go_wp2_with fail
  go_ret
  exact ⟨_, _, rfl, rfl, rfl⟩
theorem self_good {x y d : Nat} (hx : rung Ieee.single x < Ieee.single.infRung) (h : FC .f32 .f64 (fl .f32 x) y) (hd : FV .f64 (fop .sub .f64 (fl .f64 y) (fl .f64 y)) d) : (FloatKind.f64.format.order d 0 != some .eq) = false := by
  obtain rfl := wid_eq hx h
  exact self_ok (wid_fin hx) hd
set_option maxHeartbeats 1000000 in
theorem spec_AngleWide_bad (y x a b : Nat) (h : ¬ (rung Ieee.single x < Ieee.single.infRung ∧ rung Ieee.single y < Ieee.single.infRung)) (ha : FC .f32 .f64 (fl .f32 y) a) (hb : FC .f32 .f64 (fl .f32 x) b) (w : World) : Calls Try.prog 75 #[.float .f64 a, .float .f64 b] w (RetF .f64 (fun r => r = 9221120237041090561) w) := by
  have HA := Lib.hid ha
  have HB := Lib.hid hb
  clear ha hb
  by_cases h2 : rung Ieee.single y < Ieee.single.infRung
  · have HY := Lib.hid h2
    have HX := Lib.hid (show ¬ rung Ieee.single x < Ieee.single.infRung from fun c => h ⟨c, h2⟩)
    clear h h2
    go_enter Try.func75, Try.ntmps75
    go_wp2_with (refine wpList_farith _ _ _ _ _ rfl rfl rfl _ _ _ rfl rfl ?_); intro d1 nd1 hd1
    have s1 := self_good HY.out HA.out hd1
    clear hd1
    go_wp2_with (refine wpList_farith _ _ _ _ _ rfl rfl rfl _ _ _ rfl rfl ?_); intro d2 nd2 hd2
    have s2 := self_bad HX.out HB.out hd2
    clear hd2
    go_wp2_with (go_at_call 44; refine (math_NaN _).mono ?_; rintro e w' ⟨rfl, rfl⟩)
    go_ret
    exact ⟨_, _, rfl, rfl, rfl⟩
  · have HY := Lib.hid h2
    clear h h2
    go_enter Try.func75, Try.ntmps75
    go_wp2_with (refine wpList_farith _ _ _ _ _ rfl rfl rfl _ _ _ rfl rfl ?_); intro d1 nd1 hd1
    have s1 := self_bad HY.out HA.out hd1
    clear hd1
    go_wp2_with (go_at_call 44; refine (math_NaN _).mono ?_; rintro e w' ⟨rfl, rfl⟩)
    go_ret
    exact ⟨_, _, rfl, rfl, rfl⟩

set_option maxHeartbeats 1000000 in
theorem spec_l01Angle (y x : Nat) (gy : y < 4294967296) (gx : x < 4294967296) (w : World) : Calls Try.prog 59 #[.float .f32 y, .float .f32 x] w (RetF .f32 (fun r => fl .f32 r = angT y x) w) := by
  by_cases h : rung Ieee.single x < Ieee.single.infRung ∧ rung Ieee.single y < Ieee.single.infRung
  · obtain ⟨h1, h2⟩ := h
    have HX := Lib.hid h1
    have HY := Lib.hid h2
    have GX := Lib.hid gx
    have GY := Lib.hid gy
    cases hz : eqz x
    · have HZ := Lib.hid hz
      have HZZ := Lib.hid (show (eqz x && eqz y) = false by rw [hz]; rfl)
      clear h1 h2 hz gx gy
      go_enter Try.func59, Try.ntmps59
      go_wp2_with (first | (refine wpList_fconv _ _ _ rfl rfl .f32 .f64 (by decide) _ rfl (by rw [Try.underlying22]; rfl) Try.underlying25 ?_; intro r n hr; first | (obtain rfl := wid_eq HY.out hr; clear hr) | (obtain rfl := wid_eq HX.out hr; clear hr)) | (go_at_call 68; refine (spec_l01Narrow _ _).mono ?_; rintro e w' ⟨r, n, hv, rfl, rfl⟩) | (go_at_call 75; refine (spec_AngleWide_a y x HX.out HY.out GX.out GY.out HZ.out _).mono ?_; rintro e w' ⟨r, n, hv, rfl, rfl⟩))
      go_ret
      exact ⟨_, _, angT_fin HX.out HY.out HZZ.out (by assumption) (by assumption), rfl, rfl⟩
    · cases hy : eqz y
      · have HZ := Lib.hid hz
        have HW := Lib.hid hy
        have HZZ := Lib.hid (show (eqz x && eqz y) = false by rw [hz, hy]; rfl)
        clear h1 h2 hz gx gy hy
        go_enter Try.func59, Try.ntmps59
        go_wp2_with (first | (refine wpList_fconv _ _ _ rfl rfl .f32 .f64 (by decide) _ rfl (by rw [Try.underlying22]; rfl) Try.underlying25 ?_; intro r n hr; first | (obtain rfl := wid_eq HY.out hr; clear hr) | (obtain rfl := wid_eq HX.out hr; clear hr)) | (go_at_call 68; refine (spec_l01Narrow _ _).mono ?_; rintro e w' ⟨r, n, hv, rfl, rfl⟩) | (go_at_call 75; refine (spec_AngleWide_b y x HX.out HY.out GX.out GY.out HZ.out HW.out _).mono ?_; rintro e w' ⟨r, n, hv, rfl, rfl⟩))
        go_ret
        exact ⟨_, _, angT_fin HX.out HY.out HZZ.out (by assumption) (by assumption), rfl, rfl⟩
      · have HZ := Lib.hid hz
        have HW := Lib.hid hy
        have HT := Lib.hid (angT_zero h1 h2 (by rw [hz, hy]; rfl))
        clear h1 h2 hz gx gy hy
        go_enter Try.func59, Try.ntmps59
        go_wp2_with (first | (refine wpList_fconv _ _ _ rfl rfl .f32 .f64 (by decide) _ rfl (by rw [Try.underlying22]; rfl) Try.underlying25 ?_; intro r n hr; first | (obtain rfl := wid_eq HY.out hr; clear hr) | (obtain rfl := wid_eq HX.out hr; clear hr)) | (go_at_call 68; refine (spec_l01Narrow _ _).mono ?_; rintro e w' ⟨r, n, hv, rfl, rfl⟩) | (go_at_call 75; refine (spec_AngleWide_zero y x HX.out HY.out GX.out GY.out HZ.out HW.out _).mono ?_; rintro e w' ⟨r, n, rfl, rfl, rfl⟩))
        go_ret
        exact ⟨_, _, (zero_narrow (by assumption)).trans HT.out.symm, rfl, rfl⟩
  · have HH := Lib.hid h
    have HT := Lib.hid (angT_bad h)
    clear h gx gy
    go_enter Try.func59, Try.ntmps59
    go_wp2_with (first | (refine wpList_fconv _ _ _ rfl rfl .f32 .f64 (by decide) _ rfl (by rw [Try.underlying22]; rfl) Try.underlying25 ?_; intro r n hr) | (go_at_call 68; refine (spec_l01Narrow _ _).mono ?_; rintro e w' ⟨r, n, hv, rfl, rfl⟩) | (go_at_call 75; refine (spec_AngleWide_bad y x _ _ HH.out (by assumption) (by assumption) _).mono ?_; rintro e w' ⟨r, n, rfl, rfl, rfl⟩))
    go_ret
    exact ⟨_, _, (nan_narrow (by assumption)).trans HT.out.symm, rfl, rfl⟩
theorem spec_AngleTurns (y x : Nat) (gy : y < 4294967296) (gx : x < 4294967296) (w : World) : Calls Try.prog 32 #[.float .f32 y, .float .f32 x] w (RetF .f32 (fun r => fl .f32 r = angT y x) w) := by
  go_enter Try.func32, Try.ntmps32
  go_wp2_with (go_at_call 59; refine (spec_l01Angle _ _ gy gx _).mono ?_; rintro e w' ⟨r, n, hv, rfl, rfl⟩)
  go_ret
  exact ⟨_, _, by assumption, rfl, rfl⟩

set_option maxHeartbeats 1000000 in
theorem impl_AngleTurns (y x : Nat) (w : World) : Calls Try.prog 33 #[.float .f32 y, .float .f32 x] w (RetF .f32 (fun r => fl .f32 r = angT y x) w) := by
  by_cases h1 : rung Ieee.single x < Ieee.single.infRung
  · by_cases h2 : rung Ieee.single y < Ieee.single.infRung
    · cases hz : eqz x
      · exact impl_AngleTurns_a y x h1 h2 hz w
      · cases hy : eqz y
        · exact impl_AngleTurns_b y x h1 h2 hz hy w
        · have f1 := finB_yes h1
          have f2 := finB_yes h2
          have hz' : (FloatKind.f32.format.order x 0 == some .eq) = true := hz
          have hy' : (FloatKind.f32.format.order y 0 == some .eq) = true := hy
          have HT := Lib.hid (angT_zero h1 h2 (by rw [hz, hy]; rfl))
          clear h1 h2 hz hy
          go_enter Try.func33, Try.ntmps33
          go_wp2_with (go_at_call 45; refine (impl_IsFinite _ _).mono ?_; rintro e w' ⟨rfl, n, rfl⟩)
          go_ret
          exact ⟨0, _, HT.out.symm, rfl, rfl⟩
    · have f1 := finB_yes h1
      have f2 := finB_no h2
      have HT := Lib.hid (angT_bad (y := y) (x := x) (fun c => h2 c.2))
      clear h1 h2
      go_enter Try.func33, Try.ntmps33
      go_wp2_with (first | (go_at_call 45; refine (impl_IsFinite _ _).mono ?_; rintro e w' ⟨rfl, n, rfl⟩) | (refine wpList_fconv _ _ _ rfl rfl .f64 .f32 (by decide) _ rfl (by rw [Try.underlying25]; rfl) Try.underlying22 ?_; intro r n hr) | (go_at_call 44; refine (math_NaN _).mono ?_; rintro e w' ⟨rfl, rfl⟩))
      go_ret
      exact ⟨_, _, (nan_narrow (by assumption)).trans HT.out.symm, rfl, rfl⟩
  · have f1 := finB_no h1
    have HT := Lib.hid (angT_bad (y := y) (x := x) (fun c => h1 c.1))
    clear h1
    go_enter Try.func33, Try.ntmps33
    go_wp2_with (first | (go_at_call 45; refine (impl_IsFinite _ _).mono ?_; rintro e w' ⟨rfl, n, rfl⟩) | (refine wpList_fconv _ _ _ rfl rfl .f64 .f32 (by decide) _ rfl (by rw [Try.underlying25]; rfl) Try.underlying22 ?_; intro r n hr) | (go_at_call 44; refine (math_NaN _).mono ?_; rintro e w' ⟨rfl, rfl⟩))
    go_ret
    exact ⟨_, _, (nan_narrow (by assumption)).trans HT.out.symm, rfl, rfl⟩

end Go.Proofs.Ytfnplomgicgenaa.WQ