/- The walks of the calendar: years and dates. -/
import Derived.Test.YtinlpjcbhhpaeaaWC
namespace Go.Proofs.Ytinlpjcbhhpaeaa.WD
open Go.RowKit Cal WC

set_option maxHeartbeats 800000 in
theorem impl_newYear (y : Int) (h0 : 1895 ≤ y) (h1 : y ≤ 2205) (w : World) : Calls Try.prog 52 #[.int .i64 y] w fun e w' => e = .returned (.int .i64 (N y)) ∧ w = w' := by
  go_enter Try.func52, Try.ntmps52
  go_wp2_with fail
  go_loop [3, 4] (fun n i => ∃ k : Int, 2000 ≤ k ∧ (k ≤ y ∨ k = 2000) ∧ n = .int .i64 (N k) ∧ i = .int .i64 k) (fun _ i => (y - intOf i).toNat)
  case atStart => exact ⟨2000, by omega, by omega, i64eq N_2000.symm, rfl⟩
  case round =>
    obtain ⟨k, hk0, hk1, rfl, rfl⟩ := hrel
    by_cases hlt : k < y
    · have hb := N_bd (y := k) (by omega) (by omega)
      obtain ⟨hb0, hb1⟩ := hb
      cases hl : leapB k
      · have H := Lib.hid (N_no hl)
        go_wp2_with (go_at_call 36; refine (impl_leaps _ (by omega) (by omega) _).mono ?_; rintro e w ⟨rfl, rfl⟩)
        go_round
        case rel => exact ⟨k + 1, by omega, by omega, i64eq H.out, rfl⟩
        case measure => simp [intOf]; omega
      · have H := Lib.hid (N_yes hl)
        go_wp2_with (go_at_call 36; refine (impl_leaps _ (by omega) (by omega) _).mono ?_; rintro e w ⟨rfl, rfl⟩)
        go_round
        case rel => exact ⟨k + 1, by omega, by omega, i64eq H.out, rfl⟩
        case measure => simp [intOf]; omega
    · have hd : decide (k < y) = false := by simpa using hlt
      go_wp2_with fail
      have hb := N_bd (y := k) (by omega) (by omega)
      go_loop [3, 5] (fun n i => ∃ j : Int, j ≤ 1999 ∧ i = .int .i64 j ∧ ((2000 ≤ y ∧ j = 1999 ∧ n = .int .i64 (N y)) ∨ (y < 2000 ∧ y ≤ j + 1 ∧ n = .int .i64 (N (j + 1))))) (fun _ i => (intOf i - 1800).toNat)
      case atStart =>
        refine ⟨1999, by omega, rfl, ?_⟩
        by_cases hy : 2000 ≤ y
        · exact .inl ⟨hy, rfl, by rw [show k = y by omega]⟩
        · exact .inr ⟨by omega, by omega, by rw [show k = 2000 by omega]; rfl⟩
      case round =>
        obtain ⟨j, hj, rfl, hr⟩ := hrel
        rcases hr with ⟨hy, rfl, rfl⟩ | ⟨hy, hj1, rfl⟩
        · have hd2 : decide (y ≤ 1999) = false := by simp; omega
          go_wp2_with fail
          go_ret
          exact ⟨rfl, rfl⟩
        · have hb := N_bd (y := j + 1) (by omega) (by omega)
          obtain ⟨hb0, hb1⟩ := hb
          by_cases hlt2 : y ≤ j
          · cases hl : leapB j
            · have H := Lib.hid (N_no hl)
              go_wp2_with (go_at_call 36; refine (impl_leaps _ (by omega) (by omega) _).mono ?_; rintro e w ⟨rfl, rfl⟩)
              go_round
              case rel => exact ⟨j - 1, by omega, rfl, .inr ⟨hy, by omega, i64eq (by rw [show j - 1 + 1 = j by omega]; have := H.out; omega)⟩⟩
              case measure => simp [intOf]; omega
            · have H := Lib.hid (N_yes hl)
              go_wp2_with (go_at_call 36; refine (impl_leaps _ (by omega) (by omega) _).mono ?_; rintro e w ⟨rfl, rfl⟩)
              go_round
              case rel => exact ⟨j - 1, by omega, rfl, .inr ⟨hy, by omega, i64eq (by rw [show j - 1 + 1 = j by omega]; have := H.out; omega)⟩⟩
              case measure => simp [intOf]; omega
          · have hd2 : decide (y ≤ j) = false := by simpa using hlt2
            go_wp2_with fail
            go_ret
            exact ⟨ret_int (by rw [show j + 1 = y by omega]), rfl⟩

set_option maxHeartbeats 800000 in
theorem spec_l02First (y : Int) (h0 : 1895 ≤ y) (h1 : y ≤ 2205) (w : World) : Calls Try.prog 50 #[.int .i64 y] w fun e w' => e = .returned (.int .i64 (N y)) ∧ w = w' := by
  go_enter Try.func50, Try.ntmps50
  go_wp2_with fail
  go_loop [3, 4] (fun n i => ∃ k : Int, 2000 ≤ k ∧ (k ≤ y ∨ k = 2000) ∧ n = .int .i64 (N k) ∧ i = .int .i64 k) (fun _ i => (y - intOf i).toNat)
  case atStart => exact ⟨2000, by omega, by omega, i64eq N_2000.symm, rfl⟩
  case round =>
    obtain ⟨k, hk0, hk1, rfl, rfl⟩ := hrel
    by_cases hlt : k < y
    · have hb := N_bd (y := k) (by omega) (by omega)
      obtain ⟨hb0, hb1⟩ := hb
      have hlp := lp_01 k
      obtain ⟨hl0, hl1⟩ := hlp
      have H := Lib.hid (N_succ k)
      go_wp2_with (go_at_call 53; refine (spec_l02Long _ (by omega) (by omega) _).mono ?_; rintro e w ⟨rfl, rfl⟩)
      go_round
      case rel => exact ⟨k + 1, by omega, by omega, i64eq (by have := H.out; omega), rfl⟩
      case measure => simp [intOf]; omega
    · have hd : decide (k < y) = false := by simpa using hlt
      go_wp2_with fail
      have hb := N_bd (y := k) (by omega) (by omega)
      have hc := N_bd (y := y) (by omega) (by omega)
      obtain ⟨hb0, hb1⟩ := hb
      obtain ⟨hc0, hc1⟩ := hc
      go_loop [3, 5] (fun n i => ∃ j : Int, y ≤ j ∧ (j ≤ 2000 ∨ j = y) ∧ n = .int .i64 (N k - N j + N y) ∧ i = .int .i64 j) (fun _ i => (2000 - intOf i).toNat)
      case atStart => exact ⟨y, by omega, by omega, i64eq (by omega), rfl⟩
      case round =>
        obtain ⟨j, hj0, hj1, rfl, rfl⟩ := hrel
        have hd := N_bd (y := j) (by omega) (by omega)
        obtain ⟨hd0, hd1⟩ := hd
        by_cases hlt2 : j < 2000
        · have hlp := lp_01 j
          obtain ⟨hl0, hl1⟩ := hlp
          have H := Lib.hid (N_succ j)
          go_wp2_with (go_at_call 53; refine (spec_l02Long _ (by omega) (by omega) _).mono ?_; rintro e w ⟨rfl, rfl⟩)
          go_round
          case rel => exact ⟨j + 1, by omega, by omega, i64eq (by have := H.out; omega), rfl⟩
          case measure => simp [intOf]; omega
        · have hd2 : decide (j < 2000) = false := by simpa using hlt2
          go_wp2_with fail
          go_ret
          exact ⟨ret_int (by rw [show k = j by omega]; omega), rfl⟩

theorem impl_isDay (n : Int) (w : World) : Calls Try.prog 45 #[.int .i64 n] w fun e w' => e = .returned (.bool (inB n (N 1900) (N 2200 - 1))) ∧ w = w' := by
  have hb := N_bd (y := 2200) (by omega) (by omega)
  obtain ⟨hb0, hb1⟩ := hb
  go_enter Try.func45, Try.ntmps45
  go_wp2_with (first | (go_at_call 52; refine (impl_newYear _ (by omega) (by omega) _).mono ?_; rintro e w' ⟨rfl, rfl⟩) | (go_at_call 39; refine (impl_within _ _ _ _).mono ?_; rintro e w ⟨rfl, rfl⟩))
  go_ret
  exact ⟨rfl, rfl⟩

theorem spec_l02Day (n : Int) (w : World) : Calls Try.prog 43 #[.int .i64 n] w fun e w' => e = .returned (.bool (inB n (N 1900) (N 2200 - 1))) ∧ w = w' := by
  have hb := N_bd (y := 2200) (by omega) (by omega)
  obtain ⟨hb0, hb1⟩ := hb
  go_enter Try.func43, Try.ntmps43
  go_wp2_with (first | (go_at_call 50; refine (spec_l02First _ (by omega) (by omega) _).mono ?_; rintro e w' ⟨rfl, rfl⟩) | (go_at_call 37; refine (spec_l00In _ _ _ _).mono ?_; rintro e w ⟨rfl, rfl⟩))
  go_ret
  exact ⟨rfl, rfl⟩

theorem impl_dayOfWeek (n : Int) (h0 : -100000 ≤ n) (h1 : n ≤ 100000) (w : World) : Calls Try.prog 46 #[.int .i64 n] w fun e w' => e = .returned (.int .i64 (wd n)) ∧ w = w' := by
  by_cases h : n + 5 < 0
  · have hb := tmod_bd7 h
    obtain ⟨hb0, hb1⟩ := hb
    have H := Lib.hid (tmod_neg7 h)
    go_enter Try.func46, Try.ntmps46
    go_wp2
    go_ret
    exact ⟨ret_int (by unfold wd; rw [← H.out]), rfl⟩
  · have h' : 0 ≤ n + 5 := by omega
    go_enter Try.func46, Try.ntmps46
    go_wp2
    go_ret
    exact ⟨ret_int (by unfold wd; omega), rfl⟩

theorem spec_l02Weekday (n : Int) (h0 : -100000 ≤ n) (h1 : n ≤ 100000) (w : World) : Calls Try.prog 44 #[.int .i64 n] w fun e w' => e = .returned (.int .i64 (wd n)) ∧ w = w' := by
  by_cases h : n + 5 < 0
  · have hb := tmod_bd7 h
    obtain ⟨hb0, hb1⟩ := hb
    have H := Lib.hid (tmod_neg7 h)
    go_enter Try.func44, Try.ntmps44
    go_wp2
    go_ret
    exact ⟨ret_int (by unfold wd; rw [← H.out]), rfl⟩
  · have h' : 0 ≤ n + 5 := by omega
    go_enter Try.func44, Try.ntmps44
    go_wp2
    go_ret
    exact ⟨ret_int (by unfold wd; omega), rfl⟩

set_option maxHeartbeats 800000 in
theorem impl_dayOf (y m d : Int) (h0 : 1900 ≤ y) (h1 : y ≤ 2199) (h2 : 1 ≤ m) (h3 : m ≤ 12) (h4 : 1 ≤ d) (h5 : d ≤ 100) (w : World) : Calls Try.prog 48 #[.int .i64 y, .int .i64 m, .int .i64 d] w fun e w' => e = .returned (.int .i64 (date y m d)) ∧ w = w' := by
  have hb := N_bd (y := y) (by omega) (by omega)
  obtain ⟨hb0, hb1⟩ := hb
  go_enter Try.func48, Try.ntmps48
  go_wp2_with (go_at_call 52; refine (impl_newYear _ (by omega) (by omega) _).mono ?_; rintro e w' ⟨rfl, rfl⟩)
  go_loop [7, 8] (fun n i => ∃ k : Int, 1 ≤ k ∧ k ≤ m ∧ n = .int .i64 (N y + cum y k + d - 1) ∧ i = .int .i64 k) (fun _ i => (m - intOf i).toNat)
  case atStart => exact ⟨1, by omega, by omega, i64eq (by rw [cum_one]; omega), rfl⟩
  case round =>
    obtain ⟨k, hk0, hk1, rfl, rfl⟩ := hrel
    have hc := cum_bd y k (by omega) (by omega)
    obtain ⟨hc0, hc1⟩ := hc
    by_cases hlt : k < m
    · have hm := mon_bd y k
      obtain ⟨hm0, hm1⟩ := hm
      have H := Lib.hid (cum_succ y k (by omega) (by omega))
      go_wp2_with (go_at_call 42; refine (impl_longOfMonth _ _ (by omega) (by omega) (by omega) (by omega) _).mono ?_; rintro e w ⟨rfl, rfl⟩)
      go_round
      case rel => exact ⟨k + 1, by omega, by omega, i64eq (by have := H.out; omega), rfl⟩
      case measure => simp [intOf]; omega
    · have hd : decide (k < m) = false := by simpa using hlt
      go_wp2_with fail
      go_ret
      exact ⟨ret_int (by unfold date; rw [show k = m by omega]), rfl⟩

set_option maxHeartbeats 800000 in
theorem spec_l02Date (y m d : Int) (h0 : 1900 ≤ y) (h1 : y ≤ 2199) (h2 : 1 ≤ m) (h3 : m ≤ 12) (h4 : 1 ≤ d) (h5 : d ≤ 100) (w : World) : Calls Try.prog 47 #[.int .i64 y, .int .i64 m, .int .i64 d] w fun e w' => e = .returned (.int .i64 (date y m d)) ∧ Grown w w' := by
  have hb := N_bd (y := y) (by omega) (by omega)
  obtain ⟨hb0, hb1⟩ := hb
  go_enter Try.func47, Try.ntmps47
  go_wp2_with (go_at_call 50; refine (spec_l02First _ (by omega) (by omega) _).mono ?_; rintro e w' ⟨rfl, rfl⟩)
  go_loopw [7, 8] (fun n i wr => ∃ k : Int, 1 ≤ k ∧ k ≤ m ∧ n = .int .i64 (N y + cum y k + d - 1) ∧ i = .int .i64 k ∧ Grown w wr) (fun _ i _ => (m - intOf i).toNat)
  case atStart => exact ⟨1, by omega, by omega, i64eq (by rw [cum_one]; omega), rfl, Grown.refl _⟩
  case round =>
    obtain ⟨k, hk0, hk1, rfl, rfl, hgr⟩ := hrel
    have hc := cum_bd y k (by omega) (by omega)
    obtain ⟨hc0, hc1⟩ := hc
    by_cases hlt : k < m
    · have hm := mon_bd y k
      obtain ⟨hm0, hm1⟩ := hm
      have H := Lib.hid (cum_succ y k (by omega) (by omega))
      go_wp2_with (go_at_call 40; refine (spec_l02Month _ _ (by omega) (by omega) (by omega) (by omega) _).mono ?_; rintro e w ⟨rfl, hgm⟩)
      go_roundw
      case rel => exact ⟨k + 1, by omega, by omega, i64eq (by have := H.out; omega), rfl, grown_trans hgr (by assumption)⟩
      case measure => simp [intOf]; omega
    · have hd : decide (k < m) = false := by simpa using hlt
      go_wp2_with fail
      go_ret
      exact ⟨ret_int (by unfold date; rw [show k = m by omega]), hgr⟩

theorem year_start (n : Int) (h0 : N 1900 ≤ n) (h1 : n ≤ N 2200 - 1) : 1900 ≤ 2000 + n.tdiv 366 ∧ 2000 + n.tdiv 366 ≤ 2199 := by
  have e0 : N 1900 = -36524 := by decide
  have e1 : N 2200 = 73049 := by decide
  by_cases h : 0 ≤ n
  · rw [Int.tdiv_eq_ediv_of_nonneg h]; omega
  · have e : n.tdiv 366 = -((-n) / 366) := by
      have h1 : (-n).tdiv 366 = (-n) / 366 := Int.tdiv_eq_ediv_of_nonneg (by omega)
      rw [← h1, Int.neg_tdiv]; omega
    omega
def SomeYear (n : Int) (w : World) (e : Ending) (w' : World) : Prop := ∃ y : Int, YearOf n y ∧ e = .returned (.int .i64 y) ∧ w = w'

set_option maxHeartbeats 800000 in
theorem impl_yearOf (n : Int) (h0 : N 1900 ≤ n) (h1 : n ≤ N 2200 - 1) (w : World) : Calls Try.prog 51 #[.int .i64 n] w (SomeYear n w) := by
  have hy := year_start n h0 h1
  obtain ⟨hy0, hy1⟩ := hy
  go_enter Try.func51, Try.ntmps51
  go_wp2_with fail
  go_loop [3] (fun i => ∃ y : Int, 1900 ≤ y ∧ y ≤ 2199 ∧ i = .int .i64 y) (fun i => (intOf i - 1890).toNat)
  case atStart => exact ⟨_, hy0, hy1, rfl⟩
  case round =>
    obtain ⟨y, hk0, hk1, rfl⟩ := hrel
    clear hy0 hy1
    by_cases hlt : n < N y
    · have hne : 1900 < y := by
        by_cases e : y = 1900
        · rw [e] at hlt; omega
        · omega
      go_wp2_with (go_at_call 52; refine (impl_newYear _ (by omega) (by omega) _).mono ?_; rintro e w' ⟨rfl, rfl⟩)
      go_round
      case rel => exact ⟨y - 1, by omega, by omega, rfl⟩
      case measure => simp [intOf]; omega
    · have hd : decide (n < N y) = false := by simpa using hlt
      go_wp2_with (go_at_call 52; refine (impl_newYear _ (by omega) (by omega) _).mono ?_; rintro e w' ⟨rfl, rfl⟩)
      go_loop [3] (fun i => ∃ y : Int, 1900 ≤ y ∧ y ≤ 2199 ∧ N y ≤ n ∧ i = .int .i64 y) (fun i => (2200 - intOf i).toNat)
      case atStart => exact ⟨_, hk0, hk1, by omega, rfl⟩
      case round =>
        clear hd hlt
        obtain ⟨z, hz0, hz1, hz2, rfl⟩ := hrel
        by_cases hl : N (z + 1) ≤ n
        · have hne : z < 2199 := by
            by_cases e : z = 2199
            · rw [e] at hl; have : N (2199 + 1) = N 2200 := rfl; omega
            · omega
          go_wp2_with (go_at_call 52; refine (impl_newYear _ (by omega) (by omega) _).mono ?_; rintro e w' ⟨rfl, rfl⟩)
          go_round
          case rel => exact ⟨z + 1, by omega, by omega, hl, rfl⟩
          case measure => simp [intOf]; omega
        · have hd2 : decide (N (z + 1) ≤ n) = false := by simpa using hl
          go_wp2_with (go_at_call 52; refine (impl_newYear _ (by omega) (by omega) _).mono ?_; rintro e w' ⟨rfl, rfl⟩)
          go_ret
          exact ⟨z, ⟨hz0, hz1, hz2, by omega⟩, rfl, rfl⟩

end Go.Proofs.Ytinlpjcbhhpaeaa.WD