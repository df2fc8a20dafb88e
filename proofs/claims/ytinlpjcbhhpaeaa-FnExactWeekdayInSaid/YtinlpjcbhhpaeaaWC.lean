/- The walks of the calendar: what each function of the program and of the reference computes. -/
import Derived.Test.YtinlpjcbhhpaeaaRows
import Derived.Test.YtinlpjcbhhpaeaaCal
import Derived.WalkKit
import Derived.WalkSpells
import Derived.WalkLawsBesides
import Derived.Lib.Hide
namespace Go.Proofs.Ytinlpjcbhhpaeaa.WC
open Go.RowKit Cal
theorem ret_bool {a b : Bool} (h : a = b) : Ending.returned (.bool a) = .returned (.bool b) := by rw [h]
theorem ret_int {k : IntKind} {a b : Int} (h : a = b) : Ending.returned (.int k a) = .returned (.int k b) := by rw [h]

set_option maxHeartbeats 400000 in
theorem spec_l00In (n lo hi : Int) (w : World) : Calls Try.prog 37 #[.int .i64 n, .int .i64 lo, .int .i64 hi] w fun e w' => e = .returned (.bool (inB n lo hi)) ∧ w = w' := by
  by_cases h1 : lo ≤ n
  · by_cases h2 : n ≤ hi
    · have H := Lib.hid (inB_yes ⟨h1, h2⟩)
      go_enter Try.func37, Try.ntmps37
      go_wp2
      go_ret
      exact ⟨ret_bool H.out.symm, rfl⟩
    · have H := Lib.hid (inB_no (n := n) (lo := lo) (hi := hi) (by omega))
      have h3 : decide (n ≤ hi) = false := by simpa using h2
      go_enter Try.func37, Try.ntmps37
      go_wp2
      go_ret
      exact ⟨ret_bool H.out.symm, rfl⟩
  · have H := Lib.hid (inB_no (n := n) (lo := lo) (hi := hi) (by omega))
    have h3 : decide (lo ≤ n) = false := by simpa using h1
    go_enter Try.func37, Try.ntmps37
    go_wp2
    go_ret
    exact ⟨ret_bool H.out.symm, rfl⟩

set_option maxHeartbeats 400000 in
theorem impl_within (n lo hi : Int) (w : World) : Calls Try.prog 39 #[.int .i64 n, .int .i64 lo, .int .i64 hi] w fun e w' => e = .returned (.bool (inB n lo hi)) ∧ w = w' := by
  by_cases h1 : lo ≤ n
  · by_cases h2 : n ≤ hi
    · have H := Lib.hid (inB_yes ⟨h1, h2⟩)
      go_enter Try.func39, Try.ntmps39
      go_wp2
      go_ret
      exact ⟨ret_bool H.out.symm, rfl⟩
    · have H := Lib.hid (inB_no (n := n) (lo := lo) (hi := hi) (by omega))
      have h3 : decide (n ≤ hi) = false := by simpa using h2
      go_enter Try.func39, Try.ntmps39
      go_wp2
      go_ret
      exact ⟨ret_bool H.out.symm, rfl⟩
  · have H := Lib.hid (inB_no (n := n) (lo := lo) (hi := hi) (by omega))
    have h3 : decide (lo ≤ n) = false := by simpa using h1
    go_enter Try.func39, Try.ntmps39
    go_wp2
    go_ret
    exact ⟨ret_bool H.out.symm, rfl⟩

theorem spec_l02Year (n : Int) (w : World) : Calls Try.prog 33 #[.int .i64 n] w fun e w' => e = .returned (.bool (inB n 1900 2199)) ∧ w = w' := by
  go_enter Try.func33, Try.ntmps33
  go_wp2_with (go_at_call 37; refine (spec_l00In _ _ _ _).mono ?_; rintro e w' ⟨rfl, rfl⟩)
  go_ret
  exact ⟨rfl, rfl⟩

theorem impl_isYear (n : Int) (w : World) : Calls Try.prog 35 #[.int .i64 n] w fun e w' => e = .returned (.bool (inB n 1900 2199)) ∧ w = w' := by
  go_enter Try.func35, Try.ntmps35
  go_wp2_with (go_at_call 39; refine (impl_within _ _ _ _).mono ?_; rintro e w' ⟨rfl, rfl⟩)
  go_ret
  exact ⟨rfl, rfl⟩

theorem impl_isMonth (n : Int) (w : World) : Calls Try.prog 41 #[.int .i64 n] w fun e w' => e = .returned (.bool (inB n 1 12)) ∧ w = w' := by
  go_enter Try.func41, Try.ntmps41
  go_wp2_with (go_at_call 39; refine (impl_within _ _ _ _).mono ?_; rintro e w' ⟨rfl, rfl⟩)
  go_ret
  exact ⟨rfl, rfl⟩

set_option maxHeartbeats 800000 in
theorem spec_l02Leap (y : Int) (h0 : 1890 ≤ y) (h1 : y ≤ 2210) (w : World) : Calls Try.prog 34 #[.int .i64 y] w fun e w' => e = .returned (.bool (leapB y)) ∧ w = w' := by
  go_enter Try.func34, Try.ntmps34
  go_wp2
  all_goals
    go_ret
    refine ⟨ret_bool ?_, rfl⟩
    rw [Bool.eq_iff_iff]
    simp [leapB] at *
    omega

set_option maxHeartbeats 800000 in
theorem impl_leaps (y : Int) (h0 : 1890 ≤ y) (h1 : y ≤ 2210) (w : World) : Calls Try.prog 36 #[.int .i64 y] w fun e w' => e = .returned (.bool (leapB y)) ∧ w = w' := by
  go_enter Try.func36, Try.ntmps36
  go_wp2
  all_goals
    go_ret
    refine ⟨ret_bool ?_, rfl⟩
    rw [Bool.eq_iff_iff]
    simp [leapB] at *
    omega

theorem long_1 (y : Int) (w : World) : Calls Try.prog 42 #[.int .i64 y, .int .i64 1] w fun e w' => e = .returned (.int .i64 31) ∧ w = w' := by
  have hi : ∀ w, (Instr.index 45 (.agg #[.int .i64 31, .int .i64 28, .int .i64 31, .int .i64 30, .int .i64 31, .int .i64 30, .int .i64 31, .int .i64 31, .int .i64 30, .int .i64 31, .int .i64 30, .int .i64 31]) (.int .i64 0)).run Try.prog w = .ok (.int .i64 31) w := fun _ => by kernel_rfl
  go_enter Try.func42, Try.ntmps42
  go_wp2
  go_ret
  exact ⟨rfl, rfl⟩

theorem long_2 (y : Int) (h0 : 1890 ≤ y) (h1 : y ≤ 2210) (w : World) : Calls Try.prog 42 #[.int .i64 y, .int .i64 2] w fun e w' => e = .returned (.int .i64 (28 + lp y)) ∧ w = w' := by
  have hi : ∀ w, (Instr.index 45 (.agg #[.int .i64 31, .int .i64 28, .int .i64 31, .int .i64 30, .int .i64 31, .int .i64 30, .int .i64 31, .int .i64 31, .int .i64 30, .int .i64 31, .int .i64 30, .int .i64 31]) (.int .i64 1)).run Try.prog w = .ok (.int .i64 28) w := fun _ => by kernel_rfl
  cases hl : leapB y
  · have H := Lib.hid (lp_no hl)
    go_enter Try.func42, Try.ntmps42
    go_wp2_with (go_at_call 36; refine (impl_leaps _ h0 h1 _).mono ?_; rintro e w ⟨rfl, rfl⟩)
    go_ret
    exact ⟨ret_int (by rw [H.out]; rfl), rfl⟩
  · have H := Lib.hid (lp_yes hl)
    go_enter Try.func42, Try.ntmps42
    go_wp2_with (go_at_call 36; refine (impl_leaps _ h0 h1 _).mono ?_; rintro e w ⟨rfl, rfl⟩)
    go_ret
    exact ⟨ret_int (by rw [H.out]; rfl), rfl⟩

theorem long_3 (y : Int) (w : World) : Calls Try.prog 42 #[.int .i64 y, .int .i64 3] w fun e w' => e = .returned (.int .i64 31) ∧ w = w' := by
  have hi : ∀ w, (Instr.index 45 (.agg #[.int .i64 31, .int .i64 28, .int .i64 31, .int .i64 30, .int .i64 31, .int .i64 30, .int .i64 31, .int .i64 31, .int .i64 30, .int .i64 31, .int .i64 30, .int .i64 31]) (.int .i64 2)).run Try.prog w = .ok (.int .i64 31) w := fun _ => by kernel_rfl
  go_enter Try.func42, Try.ntmps42
  go_wp2
  go_ret
  exact ⟨rfl, rfl⟩

theorem long_4 (y : Int) (w : World) : Calls Try.prog 42 #[.int .i64 y, .int .i64 4] w fun e w' => e = .returned (.int .i64 30) ∧ w = w' := by
  have hi : ∀ w, (Instr.index 45 (.agg #[.int .i64 31, .int .i64 28, .int .i64 31, .int .i64 30, .int .i64 31, .int .i64 30, .int .i64 31, .int .i64 31, .int .i64 30, .int .i64 31, .int .i64 30, .int .i64 31]) (.int .i64 3)).run Try.prog w = .ok (.int .i64 30) w := fun _ => by kernel_rfl
  go_enter Try.func42, Try.ntmps42
  go_wp2
  go_ret
  exact ⟨rfl, rfl⟩

theorem long_5 (y : Int) (w : World) : Calls Try.prog 42 #[.int .i64 y, .int .i64 5] w fun e w' => e = .returned (.int .i64 31) ∧ w = w' := by
  have hi : ∀ w, (Instr.index 45 (.agg #[.int .i64 31, .int .i64 28, .int .i64 31, .int .i64 30, .int .i64 31, .int .i64 30, .int .i64 31, .int .i64 31, .int .i64 30, .int .i64 31, .int .i64 30, .int .i64 31]) (.int .i64 4)).run Try.prog w = .ok (.int .i64 31) w := fun _ => by kernel_rfl
  go_enter Try.func42, Try.ntmps42
  go_wp2
  go_ret
  exact ⟨rfl, rfl⟩

theorem long_6 (y : Int) (w : World) : Calls Try.prog 42 #[.int .i64 y, .int .i64 6] w fun e w' => e = .returned (.int .i64 30) ∧ w = w' := by
  have hi : ∀ w, (Instr.index 45 (.agg #[.int .i64 31, .int .i64 28, .int .i64 31, .int .i64 30, .int .i64 31, .int .i64 30, .int .i64 31, .int .i64 31, .int .i64 30, .int .i64 31, .int .i64 30, .int .i64 31]) (.int .i64 5)).run Try.prog w = .ok (.int .i64 30) w := fun _ => by kernel_rfl
  go_enter Try.func42, Try.ntmps42
  go_wp2
  go_ret
  exact ⟨rfl, rfl⟩

theorem long_7 (y : Int) (w : World) : Calls Try.prog 42 #[.int .i64 y, .int .i64 7] w fun e w' => e = .returned (.int .i64 31) ∧ w = w' := by
  have hi : ∀ w, (Instr.index 45 (.agg #[.int .i64 31, .int .i64 28, .int .i64 31, .int .i64 30, .int .i64 31, .int .i64 30, .int .i64 31, .int .i64 31, .int .i64 30, .int .i64 31, .int .i64 30, .int .i64 31]) (.int .i64 6)).run Try.prog w = .ok (.int .i64 31) w := fun _ => by kernel_rfl
  go_enter Try.func42, Try.ntmps42
  go_wp2
  go_ret
  exact ⟨rfl, rfl⟩

theorem long_8 (y : Int) (w : World) : Calls Try.prog 42 #[.int .i64 y, .int .i64 8] w fun e w' => e = .returned (.int .i64 31) ∧ w = w' := by
  have hi : ∀ w, (Instr.index 45 (.agg #[.int .i64 31, .int .i64 28, .int .i64 31, .int .i64 30, .int .i64 31, .int .i64 30, .int .i64 31, .int .i64 31, .int .i64 30, .int .i64 31, .int .i64 30, .int .i64 31]) (.int .i64 7)).run Try.prog w = .ok (.int .i64 31) w := fun _ => by kernel_rfl
  go_enter Try.func42, Try.ntmps42
  go_wp2
  go_ret
  exact ⟨rfl, rfl⟩

theorem long_9 (y : Int) (w : World) : Calls Try.prog 42 #[.int .i64 y, .int .i64 9] w fun e w' => e = .returned (.int .i64 30) ∧ w = w' := by
  have hi : ∀ w, (Instr.index 45 (.agg #[.int .i64 31, .int .i64 28, .int .i64 31, .int .i64 30, .int .i64 31, .int .i64 30, .int .i64 31, .int .i64 31, .int .i64 30, .int .i64 31, .int .i64 30, .int .i64 31]) (.int .i64 8)).run Try.prog w = .ok (.int .i64 30) w := fun _ => by kernel_rfl
  go_enter Try.func42, Try.ntmps42
  go_wp2
  go_ret
  exact ⟨rfl, rfl⟩

theorem long_10 (y : Int) (w : World) : Calls Try.prog 42 #[.int .i64 y, .int .i64 10] w fun e w' => e = .returned (.int .i64 31) ∧ w = w' := by
  have hi : ∀ w, (Instr.index 45 (.agg #[.int .i64 31, .int .i64 28, .int .i64 31, .int .i64 30, .int .i64 31, .int .i64 30, .int .i64 31, .int .i64 31, .int .i64 30, .int .i64 31, .int .i64 30, .int .i64 31]) (.int .i64 9)).run Try.prog w = .ok (.int .i64 31) w := fun _ => by kernel_rfl
  go_enter Try.func42, Try.ntmps42
  go_wp2
  go_ret
  exact ⟨rfl, rfl⟩

theorem long_11 (y : Int) (w : World) : Calls Try.prog 42 #[.int .i64 y, .int .i64 11] w fun e w' => e = .returned (.int .i64 30) ∧ w = w' := by
  have hi : ∀ w, (Instr.index 45 (.agg #[.int .i64 31, .int .i64 28, .int .i64 31, .int .i64 30, .int .i64 31, .int .i64 30, .int .i64 31, .int .i64 31, .int .i64 30, .int .i64 31, .int .i64 30, .int .i64 31]) (.int .i64 10)).run Try.prog w = .ok (.int .i64 30) w := fun _ => by kernel_rfl
  go_enter Try.func42, Try.ntmps42
  go_wp2
  go_ret
  exact ⟨rfl, rfl⟩

theorem long_12 (y : Int) (w : World) : Calls Try.prog 42 #[.int .i64 y, .int .i64 12] w fun e w' => e = .returned (.int .i64 31) ∧ w = w' := by
  have hi : ∀ w, (Instr.index 45 (.agg #[.int .i64 31, .int .i64 28, .int .i64 31, .int .i64 30, .int .i64 31, .int .i64 30, .int .i64 31, .int .i64 31, .int .i64 30, .int .i64 31, .int .i64 30, .int .i64 31]) (.int .i64 11)).run Try.prog w = .ok (.int .i64 31) w := fun _ => by kernel_rfl
  go_enter Try.func42, Try.ntmps42
  go_wp2
  go_ret
  exact ⟨rfl, rfl⟩

theorem impl_longOfMonth (y m : Int) (h0 : 1890 ≤ y) (h1 : y ≤ 2210) (h2 : 1 ≤ m) (h3 : m ≤ 12) (w : World) : Calls Try.prog 42 #[.int .i64 y, .int .i64 m] w fun e w' => e = .returned (.int .i64 (mon y m)) ∧ w = w' := by
  have : m = 1 ∨ m = 2 ∨ m = 3 ∨ m = 4 ∨ m = 5 ∨ m = 6 ∨ m = 7 ∨ m = 8 ∨ m = 9 ∨ m = 10 ∨ m = 11 ∨ m = 12 := by omega
  rcases this with rfl | rfl | rfl | rfl | rfl | rfl | rfl | rfl | rfl | rfl | rfl | rfl
  · exact long_1 y w
  · exact long_2 y h0 h1 w
  · exact long_3 y w
  · exact long_4 y w
  · exact long_5 y w
  · exact long_6 y w
  · exact long_7 y w
  · exact long_8 y w
  · exact long_9 y w
  · exact long_10 y w
  · exact long_11 y w
  · exact long_12 y w

theorem month_1 (y : Int) (w : World) : Calls Try.prog 40 #[.int .i64 y, .int .i64 1] w fun e w' => e = .returned (.int .i64 31) ∧ Grown w w' := by
  go_enter Try.func40, Try.ntmps40
  go_wp2
  go_ret
  exact ⟨rfl, (Grown.refl w).alloc _ _⟩

theorem month_2 (y : Int) (h0 : 1890 ≤ y) (h1 : y ≤ 2210) (w : World) : Calls Try.prog 40 #[.int .i64 y, .int .i64 2] w fun e w' => e = .returned (.int .i64 (28 + lp y)) ∧ Grown w w' := by
  cases hl : leapB y
  · have H := Lib.hid (lp_no hl)
    go_enter Try.func40, Try.ntmps40
    go_wp2_with (go_at_call 34; refine (spec_l02Leap _ h0 h1 _).mono ?_; rintro e w ⟨rfl, rfl⟩)
    go_ret
    exact ⟨ret_int (by rw [H.out]; rfl), (Grown.refl w).alloc _ _⟩
  · have H := Lib.hid (lp_yes hl)
    go_enter Try.func40, Try.ntmps40
    go_wp2_with (go_at_call 34; refine (spec_l02Leap _ h0 h1 _).mono ?_; rintro e w ⟨rfl, rfl⟩)
    go_ret
    exact ⟨ret_int (by rw [H.out]; rfl), Grown.refl w⟩

theorem month_3 (y : Int) (w : World) : Calls Try.prog 40 #[.int .i64 y, .int .i64 3] w fun e w' => e = .returned (.int .i64 31) ∧ Grown w w' := by
  go_enter Try.func40, Try.ntmps40
  go_wp2
  go_ret
  exact ⟨rfl, (Grown.refl w).alloc _ _⟩

theorem month_4 (y : Int) (w : World) : Calls Try.prog 40 #[.int .i64 y, .int .i64 4] w fun e w' => e = .returned (.int .i64 30) ∧ Grown w w' := by
  go_enter Try.func40, Try.ntmps40
  go_wp2
  go_ret
  exact ⟨rfl, (Grown.refl w).alloc _ _⟩

theorem month_5 (y : Int) (w : World) : Calls Try.prog 40 #[.int .i64 y, .int .i64 5] w fun e w' => e = .returned (.int .i64 31) ∧ Grown w w' := by
  go_enter Try.func40, Try.ntmps40
  go_wp2
  go_ret
  exact ⟨rfl, (Grown.refl w).alloc _ _⟩

theorem month_6 (y : Int) (w : World) : Calls Try.prog 40 #[.int .i64 y, .int .i64 6] w fun e w' => e = .returned (.int .i64 30) ∧ Grown w w' := by
  go_enter Try.func40, Try.ntmps40
  go_wp2
  go_ret
  exact ⟨rfl, (Grown.refl w).alloc _ _⟩

theorem month_7 (y : Int) (w : World) : Calls Try.prog 40 #[.int .i64 y, .int .i64 7] w fun e w' => e = .returned (.int .i64 31) ∧ Grown w w' := by
  go_enter Try.func40, Try.ntmps40
  go_wp2
  go_ret
  exact ⟨rfl, (Grown.refl w).alloc _ _⟩

theorem month_8 (y : Int) (w : World) : Calls Try.prog 40 #[.int .i64 y, .int .i64 8] w fun e w' => e = .returned (.int .i64 31) ∧ Grown w w' := by
  go_enter Try.func40, Try.ntmps40
  go_wp2
  go_ret
  exact ⟨rfl, (Grown.refl w).alloc _ _⟩

theorem month_9 (y : Int) (w : World) : Calls Try.prog 40 #[.int .i64 y, .int .i64 9] w fun e w' => e = .returned (.int .i64 30) ∧ Grown w w' := by
  go_enter Try.func40, Try.ntmps40
  go_wp2
  go_ret
  exact ⟨rfl, (Grown.refl w).alloc _ _⟩

theorem month_10 (y : Int) (w : World) : Calls Try.prog 40 #[.int .i64 y, .int .i64 10] w fun e w' => e = .returned (.int .i64 31) ∧ Grown w w' := by
  go_enter Try.func40, Try.ntmps40
  go_wp2
  go_ret
  exact ⟨rfl, (Grown.refl w).alloc _ _⟩

theorem month_11 (y : Int) (w : World) : Calls Try.prog 40 #[.int .i64 y, .int .i64 11] w fun e w' => e = .returned (.int .i64 30) ∧ Grown w w' := by
  go_enter Try.func40, Try.ntmps40
  go_wp2
  go_ret
  exact ⟨rfl, (Grown.refl w).alloc _ _⟩

theorem month_12 (y : Int) (w : World) : Calls Try.prog 40 #[.int .i64 y, .int .i64 12] w fun e w' => e = .returned (.int .i64 31) ∧ Grown w w' := by
  go_enter Try.func40, Try.ntmps40
  go_wp2
  go_ret
  exact ⟨rfl, (Grown.refl w).alloc _ _⟩

theorem spec_l02Month (y m : Int) (h0 : 1890 ≤ y) (h1 : y ≤ 2210) (h2 : 1 ≤ m) (h3 : m ≤ 12) (w : World) : Calls Try.prog 40 #[.int .i64 y, .int .i64 m] w fun e w' => e = .returned (.int .i64 (mon y m)) ∧ Grown w w' := by
  have : m = 1 ∨ m = 2 ∨ m = 3 ∨ m = 4 ∨ m = 5 ∨ m = 6 ∨ m = 7 ∨ m = 8 ∨ m = 9 ∨ m = 10 ∨ m = 11 ∨ m = 12 := by omega
  rcases this with rfl | rfl | rfl | rfl | rfl | rfl | rfl | rfl | rfl | rfl | rfl | rfl
  · exact month_1 y w
  · exact month_2 y h0 h1 w
  · exact month_3 y w
  · exact month_4 y w
  · exact month_5 y w
  · exact month_6 y w
  · exact month_7 y w
  · exact month_8 y w
  · exact month_9 y w
  · exact month_10 y w
  · exact month_11 y w
  · exact month_12 y w

theorem grown_trans {a b c : World} (h : Grown a b) (g : Grown b c) : Grown a c := ⟨World.keptBut_trans h.1 g.1, fun x => (g.2.1 x).trans (h.2.1 x), Nat.le_trans h.2.2 g.2.2⟩
theorem spec_l02Long (y : Int) (h0 : 1890 ≤ y) (h1 : y ≤ 2210) (w : World) : Calls Try.prog 53 #[.int .i64 y] w fun e w' => e = .returned (.int .i64 (365 + lp y)) ∧ w = w' := by
  cases hl : leapB y
  · have H := Lib.hid (lp_no hl)
    go_enter Try.func53, Try.ntmps53
    go_wp2_with (go_at_call 34; refine (spec_l02Leap _ h0 h1 _).mono ?_; rintro e w ⟨rfl, rfl⟩)
    go_ret
    exact ⟨ret_int (by rw [H.out]; rfl), rfl⟩
  · have H := Lib.hid (lp_yes hl)
    go_enter Try.func53, Try.ntmps53
    go_wp2_with (go_at_call 34; refine (spec_l02Leap _ h0 h1 _).mono ?_; rintro e w ⟨rfl, rfl⟩)
    go_ret
    exact ⟨ret_int (by rw [H.out]; rfl), rfl⟩

end Go.Proofs.Ytinlpjcbhhpaeaa.WC