/- The walks of the calendar: the exported functions. -/
import Derived.Test.YtinlpjcbhhpaeaaWD
namespace Go.Proofs.Ytinlpjcbhhpaeaa.WE
open Go.RowKit Cal WC WD
theorem results_tmp4 {fn : Func} {t u v x : Tmp} (h : fn.results = #[.tmp t, .tmp u, .tmp v, .tmp x]) (tmps : Array Value) (P : Program) (w : World) :
    (results fn tmps).run P w = .ok (.tuple #[tmps.getD t undef, tmps.getD u undef, tmps.getD v undef, tmps.getD x undef]) w := by
  simp [results, h]
def SomeDate (n : Int) (w : World) (e : Ending) (w' : World) : Prop := ∃ y m d : Int, DateIs n y m d ∧ e = .returned (.tuple #[.int .i64 y, .int .i64 m, .int .i64 d]) ∧ Grown w w'

set_option maxHeartbeats 800000 in
theorem spec_l02Told (n : Int) (h0 : N 1900 ≤ n) (h1 : n ≤ N 2200 - 1) (w : World) : Calls Try.prog 49 #[.int .i64 n] w (SomeDate n w) := by
  have hb := N_bd (y := 1900) (by omega) (by omega)
  obtain ⟨hb0, hb1⟩ := hb
  have hB := N_bd (y := 2200) (by omega) (by omega)
  obtain ⟨hB0, hB1⟩ := hB
  go_enter Try.func49, Try.ntmps49
  go_wp2_with (go_at_call 50; refine (spec_l02First _ (by omega) (by omega) _).mono ?_; rintro e w' ⟨rfl, rfl⟩)
  go_loop [0, 5] (fun r i => ∃ y : Int, 1900 ≤ y ∧ y ≤ 2199 ∧ N y ≤ n ∧ r = .int .i64 (n - N y) ∧ i = .int .i64 y) (fun _ i => (2200 - intOf i).toNat)
  case atStart => exact ⟨1900, by omega, by omega, h0, rfl, rfl⟩
  case round =>
    obtain ⟨y, hk0, hk1, hk2, rfl, rfl⟩ := hrel
    have hc := N_bd (y := y) (by omega) (by omega)
    obtain ⟨hc0, hc1⟩ := hc
    have hlp := lp_01 y
    obtain ⟨hl0, hl1⟩ := hlp
    have H := Lib.hid (N_succ y)
    by_cases hlt : 365 + lp y ≤ n - N y
    · have hne : y < 2199 := by
        by_cases e : y = 2199
        · have h2 := H.out; rw [e] at h2 hlt; have : N (2199 + 1) = N 2200 := rfl; omega
        · omega
      go_wp2_with (go_at_call 53; refine (spec_l02Long _ (by omega) (by omega) _).mono ?_; rintro e w' ⟨rfl, rfl⟩)
      go_round
      case rel => exact ⟨y + 1, by omega, by omega, by have := H.out; omega, i64eq (by have := H.out; omega), rfl⟩
      case measure => simp [intOf]; omega
    · have hd : decide (365 + lp y ≤ n - N y) = false := by simpa using hlt
      go_wp2_with (go_at_call 53; refine (spec_l02Long _ (by omega) (by omega) _).mono ?_; rintro e w' ⟨rfl, rfl⟩)
      clear hd
      go_loopw [0, 6] (fun r i wr => ∃ m : Int, 1 ≤ m ∧ m ≤ 12 ∧ cum y m ≤ n - N y ∧ r = .int .i64 (n - N y - cum y m) ∧ i = .int .i64 m ∧ Grown w wr) (fun _ i _ => (13 - intOf i).toNat)
      case atStart => exact ⟨1, by omega, by omega, by rw [cum_one]; omega, i64eq (by rw [cum_one]; omega), rfl, Grown.refl _⟩
      case round =>
        obtain ⟨m, hm0, hm1, hm2, rfl, rfl, hgr⟩ := hrel
        have hcm := cum_bd y m (by omega) (by omega)
        obtain ⟨hcm0, hcm1⟩ := hcm
        have hmm := mon_bd y m
        obtain ⟨hmm0, hmm1⟩ := hmm
        have G := Lib.hid (cum_succ y m (by omega) (by omega))
        have G13 := Lib.hid (cum_13 y)
        by_cases hl : mon y m ≤ n - N y - cum y m
        · have hne : m < 12 := by
            by_cases e : m = 12
            · have h2 := G.out; have h3 := G13.out; rw [e] at h2 hl; have : cum y (12 + 1) = cum y 13 := rfl; omega
            · omega
          go_wp2_with (go_at_call 40; refine (spec_l02Month _ _ (by omega) (by omega) (by omega) (by omega) _).mono ?_; rintro e w' ⟨rfl, hgm⟩)
          go_roundw
          case rel => exact ⟨m + 1, by omega, by omega, by have := G.out; omega, i64eq (by have := G.out; omega), rfl, (by repeat (first | assumption | refine grown_trans (by assumption) ?_))⟩
          case measure => simp [intOf]; omega
        · have hd : decide (mon y m ≤ n - N y - cum y m) = false := by simpa using hl
          go_wp2_with (go_at_call 40; refine (spec_l02Month _ _ (by omega) (by omega) (by omega) (by omega) _).mono ?_; rintro e w' ⟨rfl, hgm⟩)
          go_ret3
          exact ⟨y, m, n - N y - cum y m + 1, ⟨⟨hk0, hk1, hk2, by have := H.out; omega⟩, hm0, hm1, by omega, by omega, by unfold date; omega⟩, rfl, (by repeat (first | assumption | refine grown_trans (by assumption) ?_))⟩

def SomeDate4 (n : Int) (w : World) (e : Ending) (w' : World) : Prop := ∃ y m d : Int, DateIs n y m d ∧ e = .returned (.tuple #[.int .i64 y, .int .i64 m, .int .i64 d, .bool true]) ∧ Grown w w'
set_option maxHeartbeats 800000 in
theorem spec_DateOf_yes (n : Int) (h0 : N 1900 ≤ n) (h1 : n ≤ N 2200 - 1) (w : World) : Calls Try.prog 27 #[.int .i64 n] w (SomeDate4 n w) := by
  have hi := inB_yes ⟨h0, h1⟩
  go_enter Try.func27, Try.ntmps27
  go_wp2_with (first | (go_at_call 43; refine (spec_l02Day _ _).mono ?_; rintro e w ⟨rfl, rfl⟩) | (go_at_call 49; refine (spec_l02Told _ h0 h1 _).mono ?_; rintro e w' ⟨y, m, d, hdt, rfl, hgr⟩))
  refine bodyPost_ret (results_tmp4 rfl _ _ _) rfl ?_
  exact ⟨_, _, _, by assumption, rfl, by assumption⟩

theorem spec_DateOf_no (n : Int) (h : ¬ (N 1900 ≤ n ∧ n ≤ N 2200 - 1)) (w : World) : Calls Try.prog 27 #[.int .i64 n] w fun e w' => e = .returned (.tuple #[.int .i64 0, .int .i64 0, .int .i64 0, .bool false]) ∧ w = w' := by
  have hi := inB_no h
  clear h
  go_enter Try.func27, Try.ntmps27
  go_wp2_with (go_at_call 43; refine (spec_l02Day _ _).mono ?_; rintro e w ⟨rfl, rfl⟩)
  refine bodyPost_ret (results_tmp4 rfl _ _ _) rfl ?_
  exact ⟨rfl, rfl⟩

theorem impl_DateOf_no (n : Int) (h : ¬ (N 1900 ≤ n ∧ n ≤ N 2200 - 1)) (w : World) : Calls Try.prog 28 #[.int .i64 n] w fun e w' => e = .returned (.tuple #[.int .i64 0, .int .i64 0, .int .i64 0, .bool false]) ∧ w = w' := by
  have hi := inB_no h
  clear h
  go_enter Try.func28, Try.ntmps28
  go_wp2_with (go_at_call 45; refine (impl_isDay _ _).mono ?_; rintro e w ⟨rfl, rfl⟩)
  refine bodyPost_ret (results_tmp4 rfl _ _ _) rfl ?_
  exact ⟨rfl, rfl⟩

set_option maxHeartbeats 800000 in
theorem impl_DateOf_yes (n : Int) (h0 : N 1900 ≤ n) (h1 : n ≤ N 2200 - 1) (w : World) : Calls Try.prog 28 #[.int .i64 n] w (SomeDate4 n w) := by
  have hi := inB_yes ⟨h0, h1⟩
  have hb := N_bd (y := 1900) (by omega) (by omega)
  obtain ⟨hb0, hb1⟩ := hb
  have hB := N_bd (y := 2200) (by omega) (by omega)
  obtain ⟨hB0, hB1⟩ := hB
  go_enter Try.func28, Try.ntmps28
  go_wp2_with (first | (go_at_call 45; refine (impl_isDay _ _).mono ?_; rintro e w ⟨rfl, rfl⟩) | (go_at_call 51; refine (impl_yearOf _ h0 h1 _).mono ?_; rintro e w' ⟨y, ⟨hk0, hk1, hk2, hk3⟩, rfl, rfl⟩; have hc := N_bd (y := y) (by omega) (by omega); obtain ⟨hc0, hc1⟩ := hc; have H := Lib.hid (N_succ y); have hlp := lp_01 y; obtain ⟨hl0, hl1⟩ := hlp) | (go_at_call 52; refine (impl_newYear _ (by omega) (by omega) _).mono ?_; rintro e w' ⟨rfl, rfl⟩))
  go_loop [7, 8] (fun i r => ∃ m : Int, 1 ≤ m ∧ m ≤ 12 ∧ cum y m ≤ n - N y ∧ r = .int .i64 (n - N y - cum y m + 1) ∧ i = .int .i64 m) (fun i _ => (13 - intOf i).toNat)
  case atStart => exact ⟨1, by omega, by omega, by rw [cum_one]; omega, i64eq (by rw [cum_one]; omega), rfl⟩
  case round =>
    obtain ⟨m, hm0, hm1, hm2, rfl, rfl⟩ := hrel
    have hcm := cum_bd y m (by omega) (by omega)
    obtain ⟨hcm0, hcm1⟩ := hcm
    have hmm := mon_bd y m
    obtain ⟨hmm0, hmm1⟩ := hmm
    have G := Lib.hid (cum_succ y m (by omega) (by omega))
    have G13 := Lib.hid (cum_13 y)
    by_cases hl : mon y m < n - N y - cum y m + 1
    · have hne : m < 12 := by
        by_cases e : m = 12
        · have h2 := G.out; have h3 := G13.out; have h4 := H.out; rw [e] at h2 hl; have : cum y (12 + 1) = cum y 13 := rfl; omega
        · omega
      go_wp2_with (go_at_call 42; refine (impl_longOfMonth _ _ (by omega) (by omega) (by omega) (by omega) _).mono ?_; rintro e w' ⟨rfl, rfl⟩)
      go_round
      case rel => exact ⟨m + 1, by omega, by omega, by have := G.out; omega, i64eq (by have := G.out; omega), rfl⟩
      case measure => simp [intOf]; omega
    · have hd : decide (mon y m < n - N y - cum y m + 1) = false := by simpa using hl
      go_wp2_with (go_at_call 42; refine (impl_longOfMonth _ _ (by omega) (by omega) (by omega) (by omega) _).mono ?_; rintro e w' ⟨rfl, rfl⟩)
      refine bodyPost_ret (results_tmp4 rfl _ _ _) rfl ?_
      exact ⟨y, m, n - N y - cum y m + 1, ⟨⟨hk0, hk1, hk2, hk3⟩, hm0, hm1, by omega, by omega, by unfold date; omega⟩, rfl, Grown.refl _⟩

def isLeapB (y : Int) : Bool := inB y 1900 2199 && leapB y
theorem spec_IsLeap (y : Int) (w : World) : Calls Try.prog 13 #[.int .i64 y] w fun e w' => e = .returned (.bool (isLeapB y)) ∧ w = w' := by
  by_cases h : 1900 ≤ y ∧ y ≤ 2199
  · have hi := inB_yes h
    have H := Lib.hid (show isLeapB y = leapB y by unfold isLeapB; rw [hi, Bool.true_and])
    obtain ⟨h0, h1⟩ := h
    go_enter Try.func13, Try.ntmps13
    go_wp2_with (first | (go_at_call 33; refine (spec_l02Year _ _).mono ?_; rintro e w ⟨rfl, rfl⟩) | (go_at_call 34; refine (spec_l02Leap _ (by omega) (by omega) _).mono ?_; rintro e w ⟨rfl, rfl⟩))
    go_ret
    exact ⟨ret_bool H.out.symm, rfl⟩
  · have hi := inB_no h
    have H := Lib.hid (show isLeapB y = false by unfold isLeapB; rw [hi, Bool.false_and])
    clear h
    go_enter Try.func13, Try.ntmps13
    go_wp2_with (go_at_call 33; refine (spec_l02Year _ _).mono ?_; rintro e w ⟨rfl, rfl⟩)
    go_ret
    exact ⟨ret_bool H.out.symm, rfl⟩


theorem impl_IsLeap (y : Int) (w : World) : Calls Try.prog 14 #[.int .i64 y] w fun e w' => e = .returned (.bool (isLeapB y)) ∧ w = w' := by
  by_cases h : 1900 ≤ y ∧ y ≤ 2199
  · have hi := inB_yes h
    have H := Lib.hid (show isLeapB y = leapB y by unfold isLeapB; rw [hi, Bool.true_and])
    obtain ⟨h0, h1⟩ := h
    go_enter Try.func14, Try.ntmps14
    go_wp2_with (first | (go_at_call 35; refine (impl_isYear _ _).mono ?_; rintro e w ⟨rfl, rfl⟩) | (go_at_call 36; refine (impl_leaps _ (by omega) (by omega) _).mono ?_; rintro e w ⟨rfl, rfl⟩))
    go_ret
    exact ⟨ret_bool H.out.symm, rfl⟩
  · have hi := inB_no h
    have H := Lib.hid (show isLeapB y = false by unfold isLeapB; rw [hi, Bool.false_and])
    clear h
    go_enter Try.func14, Try.ntmps14
    go_wp2_with (go_at_call 35; refine (impl_isYear _ _).mono ?_; rintro e w ⟨rfl, rfl⟩)
    go_ret
    exact ⟨ret_bool H.out.symm, rfl⟩

theorem spec_LongOfMonth_yes (y m : Int) (h0 : 1900 ≤ y) (h1 : y ≤ 2199) (h2 : 1 ≤ m) (h3 : m ≤ 12) (w : World) : Calls Try.prog 19 #[.int .i64 y, .int .i64 m] w fun e w' => e = .returned (.tuple #[.int .i64 (mon y m), .bool true]) ∧ Grown w w' := by
  have hi := inB_yes ⟨h0, h1⟩
  have hj := inB_yes ⟨h2, h3⟩
  go_enter Try.func19, Try.ntmps19
  go_wp2_with (first | (go_at_call 33; refine (spec_l02Year _ _).mono ?_; rintro e w ⟨rfl, rfl⟩) | (go_at_call 37; refine (spec_l00In _ _ _ _).mono ?_; rintro e w ⟨rfl, rfl⟩) | (go_at_call 40; refine (spec_l02Month _ _ (by omega) (by omega) (by omega) (by omega) _).mono ?_; rintro e w' ⟨rfl, hgm⟩))
  go_ret2
  exact ⟨rfl, by assumption⟩
theorem spec_LongOfMonth_no (y m : Int) (h : ¬ (1900 ≤ y ∧ y ≤ 2199) ∨ ¬ (1 ≤ m ∧ m ≤ 12)) (w : World) : Calls Try.prog 19 #[.int .i64 y, .int .i64 m] w fun e w' => e = .returned (.tuple #[.int .i64 0, .bool false]) ∧ w = w' := by
  by_cases hy : 1900 ≤ y ∧ y ≤ 2199
  · have hi := inB_yes hy
    have hj := inB_no (h.resolve_left (fun c => c hy))
    clear h hy
    go_enter Try.func19, Try.ntmps19
    go_wp2_with (first | (go_at_call 33; refine (spec_l02Year _ _).mono ?_; rintro e w ⟨rfl, rfl⟩) | (go_at_call 37; refine (spec_l00In _ _ _ _).mono ?_; rintro e w ⟨rfl, rfl⟩))
    go_ret2
    exact ⟨rfl, rfl⟩
  · have hi := inB_no hy
    clear h hy
    go_enter Try.func19, Try.ntmps19
    go_wp2_with (first | (go_at_call 33; refine (spec_l02Year _ _).mono ?_; rintro e w ⟨rfl, rfl⟩) | (go_at_call 37; refine (spec_l00In _ _ _ _).mono ?_; rintro e w ⟨rfl, rfl⟩))
    go_ret2
    exact ⟨rfl, rfl⟩

theorem impl_LongOfMonth_yes (y m : Int) (h0 : 1900 ≤ y) (h1 : y ≤ 2199) (h2 : 1 ≤ m) (h3 : m ≤ 12) (w : World) : Calls Try.prog 20 #[.int .i64 y, .int .i64 m] w fun e w' => e = .returned (.tuple #[.int .i64 (mon y m), .bool true]) ∧ w = w' := by
  have hi := inB_yes ⟨h0, h1⟩
  have hj := inB_yes ⟨h2, h3⟩
  go_enter Try.func20, Try.ntmps20
  go_wp2_with (first | (go_at_call 35; refine (impl_isYear _ _).mono ?_; rintro e w ⟨rfl, rfl⟩) | (go_at_call 41; refine (impl_isMonth _ _).mono ?_; rintro e w ⟨rfl, rfl⟩) | (go_at_call 42; refine (impl_longOfMonth _ _ (by omega) (by omega) (by omega) (by omega) _).mono ?_; rintro e w' ⟨rfl, rfl⟩))
  go_ret2
  exact ⟨rfl, rfl⟩
theorem impl_LongOfMonth_no (y m : Int) (h : ¬ (1900 ≤ y ∧ y ≤ 2199) ∨ ¬ (1 ≤ m ∧ m ≤ 12)) (w : World) : Calls Try.prog 20 #[.int .i64 y, .int .i64 m] w fun e w' => e = .returned (.tuple #[.int .i64 0, .bool false]) ∧ w = w' := by
  by_cases hy : 1900 ≤ y ∧ y ≤ 2199
  · have hi := inB_yes hy
    have hj := inB_no (h.resolve_left (fun c => c hy))
    clear h hy
    go_enter Try.func20, Try.ntmps20
    go_wp2_with (first | (go_at_call 35; refine (impl_isYear _ _).mono ?_; rintro e w ⟨rfl, rfl⟩) | (go_at_call 41; refine (impl_isMonth _ _).mono ?_; rintro e w ⟨rfl, rfl⟩))
    go_ret2
    exact ⟨rfl, rfl⟩
  · have hi := inB_no hy
    clear h hy
    go_enter Try.func20, Try.ntmps20
    go_wp2_with (first | (go_at_call 35; refine (impl_isYear _ _).mono ?_; rintro e w ⟨rfl, rfl⟩) | (go_at_call 41; refine (impl_isMonth _ _).mono ?_; rintro e w ⟨rfl, rfl⟩))
    go_ret2
    exact ⟨rfl, rfl⟩

end Go.Proofs.Ytinlpjcbhhpaeaa.WE