/- Bits of float words: what is subnormal, what BitsOf tells. No program in sight. -/
import Derived.Test.YtkfhgjknmdlhbaaGreatDoorFw
namespace Go.Proofs.YtkfhgjknmdlhbaaGreatDoor.Fb
open Go Ieee Ft Fl Fs Fo Fw
open Go.RowKit (wrap64)

theorem and_expo (x : Nat) : x &&& 2139095040 = x / 8388608 % 256 * 8388608 := by
  have h1 : (x &&& 2139095040) / 2 ^ 23 = x / 2 ^ 23 % 2 ^ 8 := by
    rw [← Nat.shiftRight_eq_div_pow, Nat.shiftRight_and_distrib, ← Nat.and_two_pow_sub_one_eq_mod, Nat.shiftRight_eq_div_pow]
    rfl
  have h2 : (x &&& 2139095040) % 2 ^ 23 = 0 := by
    rw [Nat.and_mod_two_pow]
    exact Nat.and_zero _
  have := Nat.div_add_mod (x &&& 2139095040) (2 ^ 23)
  rw [h1, h2] at this
  omega

theorem i64_and_nat (a b : Nat) (ha : a < 4294967296) (hb : b < 4294967296) : bits .and .i64 (a : Int) (b : Int) = ((a &&& b : Nat) : Int) := by
  have hk : ∀ n : Int, 0 ≤ n → n < 2 ^ 32 → IntKind.i64.wrap n = n := by intro n h0 h1; rw [IntKind.wrap_i64]; omega
  exact (bits_nat .i64 32 (by decide) hk a b ha hb).1

/-- BitsOf. -/
def bitsB (x : Nat) : Int := if (FloatKind.f32.format.read x).isNaN then 2143289344 else x
/-- IsSubnormal. -/
def subB (x : Nat) : Bool := FloatKind.f32.format.order x 0 != some .eq && decide (x % 2147483648 < 8388608)

theorem bitsB_range {x : Nat} (hx : x < 4294967296) : 0 ≤ bitsB x ∧ bitsB x ≤ 4294967295 := by unfold bitsB; split <;> omega

theorem nan_rung {x : Nat} (h : (FloatKind.f32.format.read x).isNaN = true) : 2139095040 < x % 2147483648 := by
  rw [isNaN_read _ (binade_le _)] at h
  exact of_decide_eq_true h
theorem num_rung {x : Nat} (h : (FloatKind.f32.format.read x).isNaN = false) : x % 2147483648 ≤ 2139095040 := by
  rw [isNaN_read _ (binade_le _)] at h
  have h' : ¬ (2139095040 < x % 2147483648) := of_decide_eq_false h
  omega

theorem spec_sub {x : Nat} (hx : x < 4294967296) : (bits .and .i64 (bitsB x) 2139095040 == 0) = decide (x % 2147483648 < 8388608) := by
  rw [Bool.eq_iff_iff, beq_iff_eq, decide_eq_true_iff]
  cases hn : (FloatKind.f32.format.read x).isNaN
  · have e : bitsB x = x := by simp [bitsB, hn]
    have := num_rung hn
    rw [e, show (2139095040 : Int) = ((2139095040 : Nat) : Int) from rfl, i64_and_nat x _ hx (by decide), and_expo]
    omega
  · have e : bitsB x = ((2143289344 : Nat) : Int) := by simp [bitsB, hn]
    have := nan_rung hn
    rw [e, show (2139095040 : Int) = ((2139095040 : Nat) : Int) from rfl, i64_and_nat _ _ (by decide) (by decide), and_expo]
    omega

theorem abs_bits {r : Nat} (hr : r < 18446744073709551616) : (bits .andNot .u64 (r : Int) 9223372036854775808).toNat = r % 9223372036854775808 := by
  rw [show (9223372036854775808 : Int) = ((9223372036854775808 : Nat) : Int) from rfl, u64_andNot_nat r _ hr (by decide), Int.toNat_natCast]
  exact Nat.and_two_pow_sub_one_eq_mod r 63

theorem signbit_bits {r : Nat} (hr : r < 18446744073709551616) : decide (wrap64 (r : Int) < 0) = sgn double r := by
  show _ = sgn FloatKind.f64.format r
  rw [sgn_lt (k := .f64) hr]
  have : FloatKind.f64.format.signWeight = 9223372036854775808 := by decide
  rw [this]
  rw [decide_eq_decide]
  unfold wrap64
  omega

theorem mag_B : mag single 8388608 = 8388608 := by decide
theorem pow_meet (q c : Nat) (h : q - 1 + 52 = c + 23) : (4503599627370496 + 0) * 2 ^ (q - 1) = 8388608 * 2 ^ c := by
  have e : (4503599627370496 : Nat) = 2 ^ 52 := rfl
  have e' : (8388608 : Nat) = 2 ^ 23 := rfl
  rw [e, e', Nat.add_zero, ← Nat.pow_add, ← Nat.pow_add, Nat.add_comm 52, h, Nat.add_comm 23]
theorem mag_C : ∃ c, c = 925 ∧ mag double 4039728865751334912 = 8388608 * 2 ^ c := by
  obtain ⟨c, hc⟩ : ∃ c, c = 925 := ⟨_, rfl⟩
  refine ⟨c, hc, ?_⟩
  unfold mag
  rw [if_neg (by decide)]
  have h1 : 4039728865751334912 / double.binade = 897 := by decide
  have h2 : 4039728865751334912 % double.binade = 0 := by decide
  have h3 : double.binade = 4503599627370496 := by decide
  obtain ⟨q, hq⟩ : ∃ q, q = 897 := ⟨_, rfl⟩
  rw [h1, h2, h3, ← hq]
  exact pow_meet q c (by omega)

/-- 'math.Abs(float64(x)) < 0x1p-126'. -/
theorem impl_sub {x r : Nat} (h : FC .f32 .f64 (fl .f32 x) r) : (FloatKind.f64.format.order (r % 9223372036854775808) 4039728865751334912 == some .lt) = decide (x % 2147483648 < 8388608) := by
  have hr := FC_widen h
  have hsw : double.signWeight = 9223372036854775808 := by decide
  have hrun : rung double (r % 9223372036854775808) = rung double r := by
    unfold rung; rw [hsw]; exact Nat.mod_mod _ _
  have hsg : sgn double (r % 9223372036854775808) = false := by
    unfold sgn; rw [hsw, Nat.div_eq_of_lt (Nat.mod_lt _ (by decide))]; rfl
  have hC : rung double 4039728865751334912 = 4039728865751334912 := by decide
  have hCs : sgn double 4039728865751334912 = false := by decide
  have hsv : ∀ w, sgn double w = false → sv double w = mag double (rung double w) := fun w hw => by unfold sv; rw [hw]; rfl
  by_cases hx : rung single x ≤ single.infRung
  · have hn : rung double r ≤ double.infRung := by
      have h1 := fl_le (k := .f32) hx
      exact le_of_fl (k := .f64) (sgn_widen h1 hr).1
    have ho : FloatKind.f64.format.order (r % 9223372036854775808) 4039728865751334912 = some (compare (sv double (r % 9223372036854775808)) (sv double 4039728865751334912)) :=
      order_sv double (by decide) (by rw [hrun]; exact hn) (by decide)
    rw [ho, hsv _ hsg, hsv _ hCs, hrun, hC]
    obtain ⟨c, hc, hm⟩ := mag_C
    rw [hm]
    rw [Bool.eq_iff_iff, decide_eq_true_iff, beq_iff_eq, Option.some.injEq, compare_lt_iff]
    have key : mag double (rung double r) < 8388608 * 2 ^ c ↔ rung single x < 8388608 := by
      by_cases hi : rung single x < single.infRung
      · have h2 := (mag_widen hi hr).2
        rw [← hc] at h2
        rw [h2, Nat.mul_lt_mul_right (Nat.two_pow_pos _), ← mag_B]
        constructor
        · intro h3
          by_cases h4 : rung single x < 8388608
          · exact h4
          · have := mag_le single (show 8388608 ≤ rung single x by omega); omega
        · intro h3; exact mag_lt single h3
      · have he : rung single x = single.infRung := by omega
        have hi2 : rung double r = double.infRung := by
          have h1 := fl_le (k := .f32) hx
          rw [h1] at hr
          have e : r = double.write (single.read x) := by
            have := (fl_some hr).1; rw [this.symm]; rfl
          rw [e, read_inf single (by decide) he]
          exact rung_word' double _ (Nat.le_refl _)
        have hbig : 4039728865751334912 < double.infRung := by decide
        have := mag_lt double hbig
        rw [hm] at this
        rw [hi2, he]
        have h5 : ¬ single.infRung < 8388608 := by decide
        constructor
        · intro h6; omega
        · intro h6; exact absurd h6 h5
    have hr' : rung single x = x % 2147483648 := rfl
    rw [hr'] at key
    rw [← key]
    omega
  · have h1 : fl .f32 x = none := fl_gt (k := .f32) hx
    rw [h1] at hr
    have h2 := fl_none (k := .f64) hr
    have h3 : fl .f64 (r % 9223372036854775808) = none := by
      refine fl_gt (k := .f64) ?_
      show ¬ rung double (r % 9223372036854775808) ≤ double.infRung
      rw [hrun]
      intro h4
      have := (num_iff .f64 r).2 h4
      rw [this] at h2; cases h2
    rw [order_fl, h3]
    have hx' : ¬ x % 2147483648 ≤ 2139095040 := hx
    have : ¬ (x % 2147483648 < 8388608) := by omega
    simp [fcmp, this]

/-- What reads the same has the same bits. -/
theorem bitsB_eq {a b : Nat} : (bitsB a == bitsB b) = decide (fl .f32 a = fl .f32 b) := by
  rw [Bool.eq_iff_iff, beq_iff_eq, decide_eq_true_iff]
  unfold bitsB
  cases ha : (FloatKind.f32.format.read a).isNaN <;> cases hb : (FloatKind.f32.format.read b).isNaN
  · rw [fl_num ha, fl_num hb]; simp; omega
  · have := num_rung ha
    have h1 : (a : Int) ≠ 2143289344 := by omega
    rw [fl_num ha, fl_nan hb]; simp [h1]
  · have := num_rung hb
    have h1 : (2143289344 : Int) ≠ b := by omega
    rw [fl_num hb, fl_nan ha]; simp [h1]
  · rw [fl_nan ha, fl_nan hb]; simp
end Go.Proofs.YtkfhgjknmdlhbaaGreatDoor.Fb
