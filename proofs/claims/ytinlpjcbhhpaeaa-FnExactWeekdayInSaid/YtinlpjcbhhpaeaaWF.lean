/- The walks of the calendar: days, weeks, Easter; names and check numbers. -/
import Derived.Test.YtinlpjcbhhpaeaaWE
namespace Go.Proofs.Ytinlpjcbhhpaeaa.WF
open Go.RowKit Cal WC WD WE

set_option maxHeartbeats 800000 in
theorem impl_DayOf_yes (y m d : Int) (h0 : 1900 ≤ y) (h1 : y ≤ 2199) (h2 : 1 ≤ m) (h3 : m ≤ 12) (h4 : 1 ≤ d) (h5 : d ≤ mon y m) (w : World) : Calls Try.prog 24 #[.int .i64 y, .int .i64 m, .int .i64 d] w fun e w' => e = .returned (.tuple #[.int .i64 (date y m d), .bool true]) ∧ Grown w w' := by
  have hk := inB_yes ⟨h4, h5⟩
  have hm := mon_bd y m
  obtain ⟨hm0, hm1⟩ := hm
  go_enter Try.func24, Try.ntmps24
  go_wp2_with (first | (go_at_call 20; refine (impl_LongOfMonth_yes _ _ h0 h1 h2 h3 _).mono ?_; rintro e w' ⟨rfl, rfl⟩) | (go_at_call 39; refine (impl_within _ _ _ _).mono ?_; rintro e w ⟨rfl, rfl⟩) | (go_at_call 48; refine (impl_dayOf _ _ _ h0 h1 h2 h3 h4 (by omega) _).mono ?_; rintro e w' ⟨rfl, rfl⟩))
  go_ret2
  exact ⟨rfl, Grown.refl _⟩
theorem impl_DayOf_no (y m d : Int) (h : (¬ (1900 ≤ y ∧ y ≤ 2199) ∨ ¬ (1 ≤ m ∧ m ≤ 12)) ∨ ((1900 ≤ y ∧ y ≤ 2199) ∧ (1 ≤ m ∧ m ≤ 12) ∧ ¬ (1 ≤ d ∧ d ≤ mon y m))) (w : World) : Calls Try.prog 24 #[.int .i64 y, .int .i64 m, .int .i64 d] w fun e w' => e = .returned (.tuple #[.int .i64 0, .bool false]) ∧ Grown w w' := by
  rcases h with h | ⟨⟨h0, h1⟩, ⟨h2, h3⟩, h⟩
  · have H := Lib.hid h
    clear h
    go_enter Try.func24, Try.ntmps24
    go_wp2_with (go_at_call 20; refine (impl_LongOfMonth_no _ _ H.out _).mono ?_; rintro e w' ⟨rfl, rfl⟩)
    go_ret2
    exact ⟨rfl, Grown.refl _⟩
  · have hk := inB_no h
    clear h
    go_enter Try.func24, Try.ntmps24
    go_wp2_with (first | (go_at_call 20; refine (impl_LongOfMonth_yes _ _ h0 h1 h2 h3 _).mono ?_; rintro e w' ⟨rfl, rfl⟩) | (go_at_call 39; refine (impl_within _ _ _ _).mono ?_; rintro e w ⟨rfl, rfl⟩))
    go_ret2
    exact ⟨rfl, Grown.refl _⟩

set_option maxHeartbeats 800000 in
theorem spec_DayOf_yes (y m d : Int) (h0 : 1900 ≤ y) (h1 : y ≤ 2199) (h2 : 1 ≤ m) (h3 : m ≤ 12) (h4 : 1 ≤ d) (h5 : d ≤ mon y m) (w : World) : Calls Try.prog 23 #[.int .i64 y, .int .i64 m, .int .i64 d] w fun e w' => e = .returned (.tuple #[.int .i64 (date y m d), .bool true]) ∧ Grown w w' := by
  have hi := inB_yes ⟨h0, h1⟩
  have hj := inB_yes ⟨h2, h3⟩
  have hk := inB_yes ⟨h4, h5⟩
  have hm := mon_bd y m
  obtain ⟨hm0, hm1⟩ := hm
  go_enter Try.func23, Try.ntmps23
  go_wp2_with (first | (go_at_call 33; refine (spec_l02Year _ _).mono ?_; rintro e w ⟨rfl, rfl⟩) | (go_at_call 37; refine (spec_l00In _ _ _ _).mono ?_; rintro e w ⟨rfl, rfl⟩) | (go_at_call 40; refine (spec_l02Month _ _ (by omega) (by omega) (by omega) (by omega) _).mono ?_; rintro e w' ⟨rfl, hgm⟩) | (go_at_call 47; refine (spec_l02Date _ _ _ (by omega) (by omega) (by omega) (by omega) (by omega) (by omega) _).mono ?_; rintro e w' ⟨rfl, hgd⟩))
  go_ret2
  exact ⟨rfl, (by repeat (first | exact Grown.refl _ | assumption | refine grown_trans (by assumption) ?_))⟩
theorem spec_DayOf_no (y m d : Int) (h : (¬ (1900 ≤ y ∧ y ≤ 2199) ∨ ¬ (1 ≤ m ∧ m ≤ 12)) ∨ ((1900 ≤ y ∧ y ≤ 2199) ∧ (1 ≤ m ∧ m ≤ 12) ∧ ¬ (1 ≤ d ∧ d ≤ mon y m))) (w : World) : Calls Try.prog 23 #[.int .i64 y, .int .i64 m, .int .i64 d] w fun e w' => e = .returned (.tuple #[.int .i64 0, .bool false]) ∧ Grown w w' := by
  rcases h with h | ⟨⟨h0, h1⟩, ⟨h2, h3⟩, h⟩
  · by_cases hy : 1900 ≤ y ∧ y ≤ 2199
    · have hi := inB_yes hy
      have hj := inB_no (h.resolve_left (fun c => c hy))
      clear h hy
      go_enter Try.func23, Try.ntmps23
      go_wp2_with (first | (go_at_call 33; refine (spec_l02Year _ _).mono ?_; rintro e w ⟨rfl, rfl⟩) | (go_at_call 37; refine (spec_l00In _ _ _ _).mono ?_; rintro e w ⟨rfl, rfl⟩))
      go_ret2
      exact ⟨rfl, Grown.refl _⟩
    · have hi := inB_no hy
      clear h hy
      go_enter Try.func23, Try.ntmps23
      go_wp2_with (first | (go_at_call 33; refine (spec_l02Year _ _).mono ?_; rintro e w ⟨rfl, rfl⟩) | (go_at_call 37; refine (spec_l00In _ _ _ _).mono ?_; rintro e w ⟨rfl, rfl⟩))
      go_ret2
      exact ⟨rfl, Grown.refl _⟩
  · have hi := inB_yes ⟨h0, h1⟩
    have hj := inB_yes ⟨h2, h3⟩
    have hk := inB_no h
    clear h
    go_enter Try.func23, Try.ntmps23
    go_wp2_with (first | (go_at_call 33; refine (spec_l02Year _ _).mono ?_; rintro e w ⟨rfl, rfl⟩) | (go_at_call 37; refine (spec_l00In _ _ _ _).mono ?_; rintro e w ⟨rfl, rfl⟩) | (go_at_call 40; refine (spec_l02Month _ _ (by omega) (by omega) (by omega) (by omega) _).mono ?_; rintro e w' ⟨rfl, hgm⟩))
    go_ret2
    exact ⟨rfl, (by repeat (first | exact Grown.refl _ | assumption | refine grown_trans (by assumption) ?_))⟩

theorem impl_WeekdayOf_yes (n : Int) (h0 : N 1900 ≤ n) (h1 : n ≤ N 2200 - 1) (w : World) : Calls Try.prog 22 #[.int .i64 n] w fun e w' => e = .returned (.tuple #[.int .i64 (wd n), .bool true]) ∧ w = w' := by
  have hi := inB_yes ⟨h0, h1⟩
  have hb := N_bd (y := 1900) (by omega) (by omega)
  have hB := N_bd (y := 2200) (by omega) (by omega)
  go_enter Try.func22, Try.ntmps22
  go_wp2_with (first | (go_at_call 45; refine (impl_isDay _ _).mono ?_; rintro e w ⟨rfl, rfl⟩) | (go_at_call 46; refine (impl_dayOfWeek _ (by omega) (by omega) _).mono ?_; rintro e w ⟨rfl, rfl⟩))
  go_ret2
  exact ⟨rfl, rfl⟩
theorem impl_WeekdayOf_no (n : Int) (h : ¬ (N 1900 ≤ n ∧ n ≤ N 2200 - 1)) (w : World) : Calls Try.prog 22 #[.int .i64 n] w fun e w' => e = .returned (.tuple #[.int .i64 0, .bool false]) ∧ w = w' := by
  have hi := inB_no h
  clear h
  go_enter Try.func22, Try.ntmps22
  go_wp2_with (go_at_call 45; refine (impl_isDay _ _).mono ?_; rintro e w ⟨rfl, rfl⟩)
  go_ret2
  exact ⟨rfl, rfl⟩

theorem spec_WeekdayOf_yes (n : Int) (h0 : N 1900 ≤ n) (h1 : n ≤ N 2200 - 1) (w : World) : Calls Try.prog 21 #[.int .i64 n] w fun e w' => e = .returned (.tuple #[.int .i64 (wd n), .bool true]) ∧ w = w' := by
  have hi := inB_yes ⟨h0, h1⟩
  have hb := N_bd (y := 1900) (by omega) (by omega)
  have hB := N_bd (y := 2200) (by omega) (by omega)
  go_enter Try.func21, Try.ntmps21
  go_wp2_with (first | (go_at_call 43; refine (spec_l02Day _ _).mono ?_; rintro e w ⟨rfl, rfl⟩) | (go_at_call 44; refine (spec_l02Weekday _ (by omega) (by omega) _).mono ?_; rintro e w ⟨rfl, rfl⟩))
  go_ret2
  exact ⟨rfl, rfl⟩
theorem spec_WeekdayOf_no (n : Int) (h : ¬ (N 1900 ≤ n ∧ n ≤ N 2200 - 1)) (w : World) : Calls Try.prog 21 #[.int .i64 n] w fun e w' => e = .returned (.tuple #[.int .i64 0, .bool false]) ∧ w = w' := by
  have hi := inB_no h
  clear h
  go_enter Try.func21, Try.ntmps21
  go_wp2_with (go_at_call 43; refine (spec_l02Day _ _).mono ?_; rintro e w ⟨rfl, rfl⟩)
  go_ret2
  exact ⟨rfl, rfl⟩

def SomeWeek (n : Int) (w : World) (e : Ending) (w' : World) : Prop := ∃ y : Int, YearOf (n - wd n + 3) y ∧ e = .returned (.tuple #[.int .i64 y, .int .i64 ((n - wd n + 3 - N y) / 7 + 1), .bool true]) ∧ Grown w w'

set_option maxHeartbeats 800000 in
theorem impl_WeekOf_yes (n : Int) (h0 : N 1900 ≤ n) (h1 : n ≤ N 2200 - 1) (g0 : N 1900 ≤ n - wd n + 3) (g1 : n - wd n + 3 ≤ N 2200 - 1) (w : World) : Calls Try.prog 26 #[.int .i64 n] w (SomeWeek n w) := by
  have hi := inB_yes ⟨h0, h1⟩
  have hj := inB_yes ⟨g0, g1⟩
  have hb := N_bd (y := 1900) (by omega) (by omega)
  have hB := N_bd (y := 2200) (by omega) (by omega)
  have hwd := wd_bd n
  obtain ⟨hwd0, hwd1⟩ := hwd
  go_enter Try.func26, Try.ntmps26
  go_wp2_with (first | (go_at_call 45; refine (impl_isDay _ _).mono ?_; rintro e w ⟨rfl, rfl⟩) | (go_at_call 46; refine (impl_dayOfWeek _ (by omega) (by omega) _).mono ?_; rintro e w ⟨rfl, rfl⟩) | (go_at_call 51; refine (impl_yearOf _ g0 g1 _).mono ?_; rintro e w' ⟨y, ⟨hk0, hk1, hk2, hk3⟩, rfl, rfl⟩; have hc := N_bd (y := y) (by omega) (by omega); obtain ⟨hc0, hc1⟩ := hc) | (go_at_call 52; refine (impl_newYear _ (by omega) (by omega) _).mono ?_; rintro e w ⟨rfl, rfl⟩))
  go_ret3
  exact ⟨_, ⟨by assumption, by assumption, by assumption, by assumption⟩, rfl, (by repeat (first | exact Grown.refl _ | assumption | refine grown_trans (by assumption) ?_))⟩
theorem impl_WeekOf_no (n : Int) (h : ¬ (N 1900 ≤ n ∧ n ≤ N 2200 - 1) ∨ ((N 1900 ≤ n ∧ n ≤ N 2200 - 1) ∧ ¬ (N 1900 ≤ n - wd n + 3 ∧ n - wd n + 3 ≤ N 2200 - 1))) (w : World) : Calls Try.prog 26 #[.int .i64 n] w fun e w' => e = .returned (.tuple #[.int .i64 0, .int .i64 0, .bool false]) ∧ w = w' := by
  have hb := N_bd (y := 1900) (by omega) (by omega)
  have hB := N_bd (y := 2200) (by omega) (by omega)
  have hwd := wd_bd n
  obtain ⟨hwd0, hwd1⟩ := hwd
  rcases h with h | ⟨⟨h0, h1⟩, h⟩
  · have hi := inB_no h
    clear h
    go_enter Try.func26, Try.ntmps26
    go_wp2_with (go_at_call 45; refine (impl_isDay _ _).mono ?_; rintro e w ⟨rfl, rfl⟩)
    go_ret3
    exact ⟨rfl, rfl⟩
  · have hi := inB_yes ⟨h0, h1⟩
    have hj := inB_no h
    clear h
    go_enter Try.func26, Try.ntmps26
    go_wp2_with (first | (go_at_call 45; refine (impl_isDay _ _).mono ?_; rintro e w ⟨rfl, rfl⟩) | (go_at_call 46; refine (impl_dayOfWeek _ (by omega) (by omega) _).mono ?_; rintro e w ⟨rfl, rfl⟩))
    go_ret3
    exact ⟨rfl, rfl⟩

set_option maxHeartbeats 800000 in
theorem spec_WeekOf_yes (n : Int) (h0 : N 1900 ≤ n) (h1 : n ≤ N 2200 - 1) (g0 : N 1900 ≤ n - wd n + 3) (g1 : n - wd n + 3 ≤ N 2200 - 1) (w : World) : Calls Try.prog 25 #[.int .i64 n] w (SomeWeek n w) := by
  have hi := inB_yes ⟨h0, h1⟩
  have hj := inB_yes ⟨g0, g1⟩
  have hb := N_bd (y := 1900) (by omega) (by omega)
  have hB := N_bd (y := 2200) (by omega) (by omega)
  have hwd := wd_bd n
  obtain ⟨hwd0, hwd1⟩ := hwd
  go_enter Try.func25, Try.ntmps25
  go_wp2_with (first | (go_at_call 43; refine (spec_l02Day _ _).mono ?_; rintro e w ⟨rfl, rfl⟩) | (go_at_call 44; refine (spec_l02Weekday _ (by omega) (by omega) _).mono ?_; rintro e w ⟨rfl, rfl⟩) | (go_at_call 49; refine (spec_l02Told _ g0 g1 _).mono ?_; rintro e w' ⟨y, m, d, ⟨⟨hk0, hk1, hk2, hk3⟩, hrest⟩, rfl, hgt⟩; clear hrest; have hc := N_bd (y := y) (by omega) (by omega); obtain ⟨hc0, hc1⟩ := hc) | (go_at_call 50; refine (spec_l02First _ (by omega) (by omega) _).mono ?_; rintro e w ⟨rfl, rfl⟩))
  go_ret3
  exact ⟨_, ⟨by assumption, by assumption, by assumption, by assumption⟩, rfl, (by repeat (first | exact Grown.refl _ | assumption | refine grown_trans (by assumption) ?_))⟩
theorem spec_WeekOf_no (n : Int) (h : ¬ (N 1900 ≤ n ∧ n ≤ N 2200 - 1) ∨ ((N 1900 ≤ n ∧ n ≤ N 2200 - 1) ∧ ¬ (N 1900 ≤ n - wd n + 3 ∧ n - wd n + 3 ≤ N 2200 - 1))) (w : World) : Calls Try.prog 25 #[.int .i64 n] w fun e w' => e = .returned (.tuple #[.int .i64 0, .int .i64 0, .bool false]) ∧ w = w' := by
  have hb := N_bd (y := 1900) (by omega) (by omega)
  have hB := N_bd (y := 2200) (by omega) (by omega)
  have hwd := wd_bd n
  obtain ⟨hwd0, hwd1⟩ := hwd
  rcases h with h | ⟨⟨h0, h1⟩, h⟩
  · have hi := inB_no h
    clear h
    go_enter Try.func25, Try.ntmps25
    go_wp2_with (go_at_call 43; refine (spec_l02Day _ _).mono ?_; rintro e w ⟨rfl, rfl⟩)
    go_ret3
    exact ⟨rfl, rfl⟩
  · have hi := inB_yes ⟨h0, h1⟩
    have hj := inB_no h
    clear h
    go_enter Try.func25, Try.ntmps25
    go_wp2_with (first | (go_at_call 43; refine (spec_l02Day _ _).mono ?_; rintro e w ⟨rfl, rfl⟩) | (go_at_call 44; refine (spec_l02Weekday _ (by omega) (by omega) _).mono ?_; rintro e w ⟨rfl, rfl⟩))
    go_ret3
    exact ⟨rfl, rfl⟩

def off (y m k c : Int) : Int := (k - wd (date y m 1)) % 7 + 7 * (c - 1)
theorem off_val (y m k c : Int) : date y m 1 + (k - wd (date y m 1)) % 7 + 7 * (c - 1) = date y m 1 + off y m k c := by unfold off; omega
theorem off_val2 (y m k c : Int) : date y m 1 + ((k - wd (date y m 1)) % 7 + 7 * (c - 1)) = date y m 1 + off y m k c := rfl
theorem tup {a b : Int} (h : a = b) : Ending.returned (.tuple #[.int .i64 a, .bool true]) = .returned (.tuple #[.int .i64 b, .bool true]) := by rw [h]
theorem off_bd {y m k c : Int} (h1 : 1 ≤ c) (h2 : c ≤ 5) : 0 ≤ off y m k c ∧ off y m k c ≤ 34 := by unfold off; omega
theorem date_bd {y m : Int} (h0 : 1900 ≤ y) (h1 : y ≤ 2199) (h2 : 1 ≤ m) (h3 : m ≤ 12) : -42000 ≤ date y m 1 ∧ date y m 1 ≤ 78000 := by
  have hb := N_bd (y := y) (by omega) (by omega)
  have hc := cum_bd y m h2 (by omega)
  unfold date; omega

set_option maxHeartbeats 800000 in
theorem impl_WeekdayIn_yes (y m k c : Int) (h0 : 1900 ≤ y) (h1 : y ≤ 2199) (h2 : 1 ≤ m) (h3 : m ≤ 12) (h4 : 0 ≤ k) (h5 : k ≤ 6) (h6 : 1 ≤ c) (h7 : c ≤ 5) (h8 : off y m k c < mon y m) (w : World) : Calls Try.prog 30 #[.int .i64 y, .int .i64 m, .int .i64 k, .int .i64 c] w fun e w' => e = .returned (.tuple #[.int .i64 (date y m 1 + off y m k c), .bool true]) ∧ Grown w w' := by
  have hi := inB_yes ⟨h0, h1⟩
  have hj := inB_yes ⟨h2, h3⟩
  have hk := inB_yes ⟨h4, h5⟩
  have hl := inB_yes ⟨h6, h7⟩
  have hm := mon_bd y m
  obtain ⟨hm0, hm1⟩ := hm
  have hd := date_bd h0 h1 h2 h3
  obtain ⟨hd0, hd1⟩ := hd
  have hw := wd_bd (date y m 1)
  obtain ⟨hw0, hw1⟩ := hw
  have ht : decide (date y m 1 + mon y m ≤ date y m 1 + (k - wd (date y m 1)) % 7 + 7 * (c - 1)) = false := by unfold off at h8; simp; omega
  clear h8
  go_enter Try.func30, Try.ntmps30
  go_wp2_with (first | (go_at_call 20; refine (impl_LongOfMonth_yes _ _ h0 h1 h2 h3 _).mono ?_; rintro e w' ⟨rfl, rfl⟩) | (go_at_call 39; refine (impl_within _ _ _ _).mono ?_; rintro e w ⟨rfl, rfl⟩) | (go_at_call 48; refine (impl_dayOf _ _ _ h0 h1 h2 h3 (by omega) (by omega) _).mono ?_; rintro e w' ⟨rfl, rfl⟩) | (go_at_call 46; refine (impl_dayOfWeek _ (by omega) (by omega) _).mono ?_; rintro e w ⟨rfl, rfl⟩))
  go_ret2
  exact ⟨tup (off_val y m k c), (by repeat (first | exact Grown.refl _ | assumption | refine grown_trans (by assumption) ?_))⟩

set_option maxHeartbeats 800000 in
theorem impl_WeekdayIn_late (y m k c : Int) (h0 : 1900 ≤ y) (h1 : y ≤ 2199) (h2 : 1 ≤ m) (h3 : m ≤ 12) (h4 : 0 ≤ k) (h5 : k ≤ 6) (h6 : 1 ≤ c) (h7 : c ≤ 5) (h8 : mon y m ≤ off y m k c) (w : World) : Calls Try.prog 30 #[.int .i64 y, .int .i64 m, .int .i64 k, .int .i64 c] w fun e w' => e = .returned (.tuple #[.int .i64 0, .bool false]) ∧ Grown w w' := by
  have hi := inB_yes ⟨h0, h1⟩
  have hj := inB_yes ⟨h2, h3⟩
  have hk := inB_yes ⟨h4, h5⟩
  have hl := inB_yes ⟨h6, h7⟩
  have hm := mon_bd y m
  obtain ⟨hm0, hm1⟩ := hm
  have hd := date_bd h0 h1 h2 h3
  obtain ⟨hd0, hd1⟩ := hd
  have hw := wd_bd (date y m 1)
  obtain ⟨hw0, hw1⟩ := hw
  have ht : decide (date y m 1 + mon y m ≤ date y m 1 + (k - wd (date y m 1)) % 7 + 7 * (c - 1)) = true := by unfold off at h8; simp; omega
  clear h8
  go_enter Try.func30, Try.ntmps30
  go_wp2_with (first | (go_at_call 20; refine (impl_LongOfMonth_yes _ _ h0 h1 h2 h3 _).mono ?_; rintro e w' ⟨rfl, rfl⟩) | (go_at_call 39; refine (impl_within _ _ _ _).mono ?_; rintro e w ⟨rfl, rfl⟩) | (go_at_call 48; refine (impl_dayOf _ _ _ h0 h1 h2 h3 (by omega) (by omega) _).mono ?_; rintro e w' ⟨rfl, rfl⟩) | (go_at_call 46; refine (impl_dayOfWeek _ (by omega) (by omega) _).mono ?_; rintro e w ⟨rfl, rfl⟩))
  go_ret2
  exact ⟨rfl, (by repeat (first | exact Grown.refl _ | assumption | refine grown_trans (by assumption) ?_))⟩

theorem impl_WeekdayIn_no (y m k c : Int) (h : (¬ (1900 ≤ y ∧ y ≤ 2199) ∨ ¬ (1 ≤ m ∧ m ≤ 12)) ∨ ((1900 ≤ y ∧ y ≤ 2199) ∧ (1 ≤ m ∧ m ≤ 12) ∧ (¬ (0 ≤ k ∧ k ≤ 6) ∨ ¬ (1 ≤ c ∧ c ≤ 5)))) (w : World) : Calls Try.prog 30 #[.int .i64 y, .int .i64 m, .int .i64 k, .int .i64 c] w fun e w' => e = .returned (.tuple #[.int .i64 0, .bool false]) ∧ Grown w w' := by
  rcases h with h | ⟨⟨h0, h1⟩, ⟨h2, h3⟩, h⟩
  · have H := Lib.hid h
    clear h
    go_enter Try.func30, Try.ntmps30
    go_wp2_with (go_at_call 20; refine (impl_LongOfMonth_no _ _ H.out _).mono ?_; rintro e w' ⟨rfl, rfl⟩)
    go_ret2
    exact ⟨rfl, Grown.refl _⟩
  · by_cases hk' : 0 ≤ k ∧ k ≤ 6
    · have hk := inB_yes hk'
      have hl := inB_no (h.resolve_left (fun c => c hk'))
      clear h hk'
      go_enter Try.func30, Try.ntmps30
      go_wp2_with (first | (go_at_call 20; refine (impl_LongOfMonth_yes _ _ h0 h1 h2 h3 _).mono ?_; rintro e w' ⟨rfl, rfl⟩) | (go_at_call 39; refine (impl_within _ _ _ _).mono ?_; rintro e w ⟨rfl, rfl⟩) | (go_at_call 48; refine (impl_dayOf _ _ _ h0 h1 h2 h3 (by omega) (by omega) _).mono ?_; rintro e w' ⟨rfl, rfl⟩) | (go_at_call 46; refine (impl_dayOfWeek _ (by omega) (by omega) _).mono ?_; rintro e w ⟨rfl, rfl⟩))
      go_ret2
      exact ⟨rfl, Grown.refl _⟩
    · have hk := inB_no hk'
      clear h hk'
      go_enter Try.func30, Try.ntmps30
      go_wp2_with (first | (go_at_call 20; refine (impl_LongOfMonth_yes _ _ h0 h1 h2 h3 _).mono ?_; rintro e w' ⟨rfl, rfl⟩) | (go_at_call 39; refine (impl_within _ _ _ _).mono ?_; rintro e w ⟨rfl, rfl⟩) | (go_at_call 48; refine (impl_dayOf _ _ _ h0 h1 h2 h3 (by omega) (by omega) _).mono ?_; rintro e w' ⟨rfl, rfl⟩) | (go_at_call 46; refine (impl_dayOfWeek _ (by omega) (by omega) _).mono ?_; rintro e w ⟨rfl, rfl⟩))
      go_ret2
      exact ⟨rfl, Grown.refl _⟩

set_option maxHeartbeats 800000 in
theorem spec_WeekdayIn_yes (y m k c : Int) (h0 : 1900 ≤ y) (h1 : y ≤ 2199) (h2 : 1 ≤ m) (h3 : m ≤ 12) (h4 : 0 ≤ k) (h5 : k ≤ 6) (h6 : 1 ≤ c) (h7 : c ≤ 5) (h8 : off y m k c < mon y m) (w : World) : Calls Try.prog 29 #[.int .i64 y, .int .i64 m, .int .i64 k, .int .i64 c] w fun e w' => e = .returned (.tuple #[.int .i64 (date y m 1 + off y m k c), .bool true]) ∧ Grown w w' := by
  have hi := inB_yes ⟨h0, h1⟩
  have hj := inB_yes ⟨h2, h3⟩
  have hk := inB_yes ⟨h4, h5⟩
  have hl := inB_yes ⟨h6, h7⟩
  have hm := mon_bd y m
  obtain ⟨hm0, hm1⟩ := hm
  have hd := date_bd h0 h1 h2 h3
  obtain ⟨hd0, hd1⟩ := hd
  have hw := wd_bd (date y m 1)
  obtain ⟨hw0, hw1⟩ := hw
  have ht : decide (mon y m ≤ (k - wd (date y m 1)) % 7 + 7 * (c - 1)) = false := by unfold off at h8; simp; omega
  clear h8
  go_enter Try.func29, Try.ntmps29
  go_wp2_with (first | (go_at_call 33; refine (spec_l02Year _ _).mono ?_; rintro e w ⟨rfl, rfl⟩) | (go_at_call 37; refine (spec_l00In _ _ _ _).mono ?_; rintro e w ⟨rfl, rfl⟩) | (go_at_call 40; refine (spec_l02Month _ _ (by omega) (by omega) (by omega) (by omega) _).mono ?_; rintro e w' ⟨rfl, hgm⟩) | (go_at_call 47; refine (spec_l02Date _ _ _ (by omega) (by omega) (by omega) (by omega) (by omega) (by omega) _).mono ?_; rintro e w' ⟨rfl, hgd⟩) | (go_at_call 44; refine (spec_l02Weekday _ (by omega) (by omega) _).mono ?_; rintro e w ⟨rfl, rfl⟩))
  go_ret2
  exact ⟨tup (off_val2 y m k c), (by repeat (first | exact Grown.refl _ | assumption | refine grown_trans (by assumption) ?_))⟩

set_option maxHeartbeats 800000 in
theorem spec_WeekdayIn_late (y m k c : Int) (h0 : 1900 ≤ y) (h1 : y ≤ 2199) (h2 : 1 ≤ m) (h3 : m ≤ 12) (h4 : 0 ≤ k) (h5 : k ≤ 6) (h6 : 1 ≤ c) (h7 : c ≤ 5) (h8 : mon y m ≤ off y m k c) (w : World) : Calls Try.prog 29 #[.int .i64 y, .int .i64 m, .int .i64 k, .int .i64 c] w fun e w' => e = .returned (.tuple #[.int .i64 0, .bool false]) ∧ Grown w w' := by
  have hi := inB_yes ⟨h0, h1⟩
  have hj := inB_yes ⟨h2, h3⟩
  have hk := inB_yes ⟨h4, h5⟩
  have hl := inB_yes ⟨h6, h7⟩
  have hm := mon_bd y m
  obtain ⟨hm0, hm1⟩ := hm
  have hd := date_bd h0 h1 h2 h3
  obtain ⟨hd0, hd1⟩ := hd
  have hw := wd_bd (date y m 1)
  obtain ⟨hw0, hw1⟩ := hw
  have ht : decide (mon y m ≤ (k - wd (date y m 1)) % 7 + 7 * (c - 1)) = true := by unfold off at h8; simp; omega
  clear h8
  go_enter Try.func29, Try.ntmps29
  go_wp2_with (first | (go_at_call 33; refine (spec_l02Year _ _).mono ?_; rintro e w ⟨rfl, rfl⟩) | (go_at_call 37; refine (spec_l00In _ _ _ _).mono ?_; rintro e w ⟨rfl, rfl⟩) | (go_at_call 40; refine (spec_l02Month _ _ (by omega) (by omega) (by omega) (by omega) _).mono ?_; rintro e w' ⟨rfl, hgm⟩) | (go_at_call 47; refine (spec_l02Date _ _ _ (by omega) (by omega) (by omega) (by omega) (by omega) (by omega) _).mono ?_; rintro e w' ⟨rfl, hgd⟩) | (go_at_call 44; refine (spec_l02Weekday _ (by omega) (by omega) _).mono ?_; rintro e w ⟨rfl, rfl⟩))
  go_ret2
  exact ⟨rfl, (by repeat (first | exact Grown.refl _ | assumption | refine grown_trans (by assumption) ?_))⟩

theorem spec_WeekdayIn_no (y m k c : Int) (h : (¬ (1900 ≤ y ∧ y ≤ 2199) ∨ ¬ (1 ≤ m ∧ m ≤ 12)) ∨ ((1900 ≤ y ∧ y ≤ 2199) ∧ (1 ≤ m ∧ m ≤ 12) ∧ (¬ (0 ≤ k ∧ k ≤ 6) ∨ ¬ (1 ≤ c ∧ c ≤ 5)))) (w : World) : Calls Try.prog 29 #[.int .i64 y, .int .i64 m, .int .i64 k, .int .i64 c] w fun e w' => e = .returned (.tuple #[.int .i64 0, .bool false]) ∧ Grown w w' := by
  rcases h with h | ⟨⟨h0, h1⟩, ⟨h2, h3⟩, h⟩
  · by_cases hy : 1900 ≤ y ∧ y ≤ 2199
    · have hi := inB_yes hy
      have hj := inB_no (h.resolve_left (fun c => c hy))
      clear h hy
      go_enter Try.func29, Try.ntmps29
      go_wp2_with (first | (go_at_call 33; refine (spec_l02Year _ _).mono ?_; rintro e w ⟨rfl, rfl⟩) | (go_at_call 37; refine (spec_l00In _ _ _ _).mono ?_; rintro e w ⟨rfl, rfl⟩))
      go_ret2
      exact ⟨rfl, Grown.refl _⟩
    · have hi := inB_no hy
      clear h hy
      go_enter Try.func29, Try.ntmps29
      go_wp2_with (first | (go_at_call 33; refine (spec_l02Year _ _).mono ?_; rintro e w ⟨rfl, rfl⟩) | (go_at_call 37; refine (spec_l00In _ _ _ _).mono ?_; rintro e w ⟨rfl, rfl⟩))
      go_ret2
      exact ⟨rfl, Grown.refl _⟩
  · by_cases hk' : 0 ≤ k ∧ k ≤ 6
    · have hk := inB_yes hk'
      have hl := inB_no (h.resolve_left (fun c => c hk'))
      clear h hk'
      have hi := inB_yes ⟨h0, h1⟩
      have hj := inB_yes ⟨h2, h3⟩
      go_enter Try.func29, Try.ntmps29
      go_wp2_with (first | (go_at_call 33; refine (spec_l02Year _ _).mono ?_; rintro e w ⟨rfl, rfl⟩) | (go_at_call 37; refine (spec_l00In _ _ _ _).mono ?_; rintro e w ⟨rfl, rfl⟩) | (go_at_call 40; refine (spec_l02Month _ _ (by omega) (by omega) (by omega) (by omega) _).mono ?_; rintro e w' ⟨rfl, hgm⟩) | (go_at_call 47; refine (spec_l02Date _ _ _ (by omega) (by omega) (by omega) (by omega) (by omega) (by omega) _).mono ?_; rintro e w' ⟨rfl, hgd⟩) | (go_at_call 44; refine (spec_l02Weekday _ (by omega) (by omega) _).mono ?_; rintro e w ⟨rfl, rfl⟩))
      go_ret2
      exact ⟨rfl, Grown.refl _⟩
    · have hk := inB_no hk'
      clear h hk'
      have hi := inB_yes ⟨h0, h1⟩
      have hj := inB_yes ⟨h2, h3⟩
      go_enter Try.func29, Try.ntmps29
      go_wp2_with (first | (go_at_call 33; refine (spec_l02Year _ _).mono ?_; rintro e w ⟨rfl, rfl⟩) | (go_at_call 37; refine (spec_l00In _ _ _ _).mono ?_; rintro e w ⟨rfl, rfl⟩) | (go_at_call 40; refine (spec_l02Month _ _ (by omega) (by omega) (by omega) (by omega) _).mono ?_; rintro e w' ⟨rfl, hgm⟩) | (go_at_call 47; refine (spec_l02Date _ _ _ (by omega) (by omega) (by omega) (by omega) (by omega) (by omega) _).mono ?_; rintro e w' ⟨rfl, hgd⟩) | (go_at_call 44; refine (spec_l02Weekday _ (by omega) (by omega) _).mono ?_; rintro e w ⟨rfl, rfl⟩))
      go_ret2
      exact ⟨rfl, Grown.refl _⟩

end Go.Proofs.Ytinlpjcbhhpaeaa.WF