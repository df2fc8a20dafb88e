/- The calendar in plain whole numbers. No program in sight. -/
import Derived.WalkKit
namespace Go.Proofs.Ytinlpjcbhhpaeaa.Cal
def inB (n lo hi : Int) : Bool := decide (lo ≤ n) && decide (n ≤ hi)
theorem inB_yes {n lo hi : Int} (h : lo ≤ n ∧ n ≤ hi) : inB n lo hi = true := by simp [inB, h]
theorem inB_no {n lo hi : Int} (h : ¬ (lo ≤ n ∧ n ≤ hi)) : inB n lo hi = false := by
  unfold inB; rw [Bool.and_eq_false_iff, decide_eq_false_iff_not, decide_eq_false_iff_not]; omega
def leapB (y : Int) : Bool := (decide (y % 4 = 0) && !decide (y % 100 = 0)) || decide (y % 400 = 0)
/-- The number of the first day of a year. -/
def N (y : Int) : Int := 365 * (y - 2000) + ((y - 1) / 4 - (y - 1) / 100 + (y - 1) / 400) - 484
def lp (y : Int) : Int := if leapB y then 1 else 0
theorem lp_01 (y : Int) : 0 ≤ lp y ∧ lp y ≤ 1 := by unfold lp; split <;> omega
theorem N_succ (y : Int) : N (y + 1) = N y + 365 + lp y := by
  unfold N lp leapB
  by_cases h4 : y % 4 = 0 <;> by_cases h1 : y % 100 = 0 <;> by_cases h0 : y % 400 = 0 <;> simp [h4, h1, h0] <;> omega
theorem N_2000 : N 2000 = 0 := by decide
theorem N_lt {a b : Int} (h : a < b) : N a + 365 ≤ N b := by
  unfold N; omega
theorem N_bd {y : Int} (h0 : 1890 ≤ y) (h1 : y ≤ 2210) : -41000 ≤ N y ∧ N y ≤ 77000 := by unfold N; omega
/-- Days of a month. -/
def mon (y m : Int) : Int := if m = 2 then 28 + lp y else if m = 4 ∨ m = 6 ∨ m = 9 ∨ m = 11 then 30 else 31
theorem mon_bd (y m : Int) : 28 ≤ mon y m ∧ mon y m ≤ 31 := by
  have := lp_01 y
  unfold mon; split
  · omega
  · split <;> omega
/-- Days of a year ahead of a month. -/
def cum (y m : Int) : Int := (367 * m - 362) / 12 + if m ≤ 2 then 0 else lp y - 2
theorem cum_one (y : Int) : cum y 1 = 0 := by simp [cum]
theorem cum_succ (y m : Int) (h1 : 1 ≤ m) (h2 : m ≤ 12) : cum y (m + 1) = cum y m + mon y m := by
  have : m = 1 ∨ m = 2 ∨ m = 3 ∨ m = 4 ∨ m = 5 ∨ m = 6 ∨ m = 7 ∨ m = 8 ∨ m = 9 ∨ m = 10 ∨ m = 11 ∨ m = 12 := by omega
  rcases this with rfl | rfl | rfl | rfl | rfl | rfl | rfl | rfl | rfl | rfl | rfl | rfl <;> simp [cum, mon] <;> omega
theorem cum_bd (y m : Int) (h1 : 1 ≤ m) (h2 : m ≤ 13) : 0 ≤ cum y m ∧ cum y m ≤ 366 := by
  have := lp_01 y
  unfold cum; split <;> omega
theorem cum_13 (y : Int) : cum y 13 = 365 + lp y := by simp [cum]; omega
theorem cum_lt (y : Int) {a b : Int} (_h1 : 1 ≤ a) (h : a < b) (_h2 : b ≤ 13) : cum y a < cum y b := by
  have := lp_01 y
  unfold cum
  split <;> split <;> omega
/-- The number of a date. -/
def date (y m d : Int) : Int := N y + cum y m + d - 1
def wd (n : Int) : Int := (n + 5) % 7
theorem wd_bd (n : Int) : 0 ≤ wd n ∧ wd n ≤ 6 := by unfold wd; omega
theorem tmod_neg7 {a : Int} (h : a < 0) : (a.tmod 7 + 7) % 7 = a % 7 := by
  have e : a.tmod 7 = -((-a) % 7) := by
    have h1 : (-a).tmod 7 = (-a) % 7 := Int.tmod_eq_emod_of_nonneg (by omega)
    rw [← h1, Int.neg_tmod]; omega
  rw [e]; omega
theorem tmod_bd7 {a : Int} (h : a < 0) : -6 ≤ a.tmod 7 ∧ a.tmod 7 ≤ 0 := by
  have e : a.tmod 7 = -((-a) % 7) := by
    have h1 : (-a).tmod 7 = (-a) % 7 := Int.tmod_eq_emod_of_nonneg (by omega)
    rw [← h1, Int.neg_tmod]; omega
  omega
/-- y is the year of the day n. -/
def YearOf (n y : Int) : Prop := 1900 ≤ y ∧ y ≤ 2199 ∧ N y ≤ n ∧ n < N (y + 1)
theorem YearOf.one {n a b : Int} (h : YearOf n a) (g : YearOf n b) : a = b := by
  obtain ⟨_, _, h1, h2⟩ := h
  obtain ⟨_, _, g1, g2⟩ := g
  by_cases e : a = b
  · exact e
  · exfalso
    by_cases l : a < b
    · by_cases l2 : a + 1 = b
      · rw [l2] at h2; omega
      · have := N_lt (show a + 1 < b by omega); omega
    · by_cases l2 : b + 1 = a
      · rw [l2] at g2; omega
      · have := N_lt (show b + 1 < a by omega); omega
/-- (y, m, d) is the date of the day n. -/
def DateIs (n y m d : Int) : Prop := YearOf n y ∧ 1 ≤ m ∧ m ≤ 12 ∧ 1 ≤ d ∧ d ≤ mon y m ∧ n = date y m d
theorem DateIs.one {n a b c a' b' c' : Int} (h : DateIs n a b c) (g : DateIs n a' b' c') : a = a' ∧ b = b' ∧ c = c' := by
  obtain ⟨hy, h1, h2, h3, h4, h5⟩ := h
  obtain ⟨gy, g1, g2, g3, g4, g5⟩ := g
  obtain rfl := hy.one gy
  unfold date at h5 g5
  have hb : b = b' := by
    by_cases e : b = b'
    · exact e
    · exfalso
      have hs := cum_succ a b h1 h2
      have gs := cum_succ a b' g1 g2
      by_cases l : b < b'
      · by_cases l2 : b + 1 = b'
        · rw [l2] at hs; omega
        · have := cum_lt a (show 1 ≤ b + 1 by omega) (show b + 1 < b' by omega) (by omega); omega
      · by_cases l2 : b' + 1 = b
        · rw [l2] at gs; omega
        · have := cum_lt a (show 1 ≤ b' + 1 by omega) (show b' + 1 < b by omega) (by omega); omega
  subst hb
  exact ⟨rfl, rfl, by omega⟩
theorem N_yes {y : Int} (h : leapB y = true) : N y + 365 + 1 = N (y + 1) := by have := N_succ y; unfold lp at this; rw [h, if_pos rfl] at this; omega
theorem N_no {y : Int} (h : leapB y = false) : N y + 365 = N (y + 1) := by have := N_succ y; unfold lp at this; rw [h, if_neg (by simp)] at this; omega
theorem lp_yes {y : Int} (h : leapB y = true) : lp y = 1 := by unfold lp; rw [h, if_pos rfl]
theorem lp_no {y : Int} (h : leapB y = false) : lp y = 0 := by unfold lp; rw [h, if_neg (by simp)]
theorem i64eq {a b : Int} (h : a = b) : Value.int .i64 a = Value.int .i64 b := by rw [h]
end Go.Proofs.Ytinlpjcbhhpaeaa.Cal
