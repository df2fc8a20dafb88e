/- Flushing; square roots. No program in sight. -/
import Derived.Test.YtkfhgjknmdlhbaaGreatDoorFb
import Derived.Test.YtkfhgjknmdlhbaaGreatDoorFm
namespace Go.Proofs.YtkfhgjknmdlhbaaGreatDoor.Ff
open Go Ieee Ft Fl Fs Fo Fw Fb Fm

def flushV (x : Nat) : Option Nat := if x % 2147483648 < 8388608 then some (x / 2147483648 * 2147483648) else fl .f32 x

theorem and_sign (x : Nat) (hx : x < 4294967296) : x &&& 2147483648 = x / 2147483648 * 2147483648 := by
  have := nat_bit 31 x
  rw [show (2 : Nat) ^ 31 = 2147483648 from rfl] at this
  rw [this]
  have : x / 2147483648 < 2 := by omega
  rw [Nat.mod_eq_of_lt this]

theorem bitsB_small {x : Nat} (h : x % 2147483648 < 8388608) : bitsB x = x := by
  unfold bitsB
  cases hn : (FloatKind.f32.format.read x).isNaN
  · simp
  · have := nan_rung hn; omega

theorem flush_small {x : Nat} (hx : x < 4294967296) (h : x % 2147483648 < 8388608) : bits .and .i64 (bitsB x) 2147483648 = ((x / 2147483648 * 2147483648 : Nat) : Int) := by
  rw [bitsB_small h, show (2147483648 : Int) = ((2147483648 : Nat) : Int) from rfl, i64_and_nat x _ hx (by decide), and_sign x hx]

theorem fl_sign {x : Nat} (hx : x < 4294967296) : fl .f32 (x / 2147483648 * 2147483648) = some (x / 2147483648 * 2147483648) := by
  have : x / 2147483648 = 0 ∨ x / 2147483648 = 1 := by omega
  rcases this with h | h <;> rw [h] <;> rfl

theorem flush_yes {x : Nat} (hx : x < 4294967296) (h : x % 2147483648 < 8388608) : fl .f32 (x / 2147483648 * 2147483648) = flushV x := by
  unfold flushV; rw [if_pos h, fl_sign hx]
theorem flush_no {x : Nat} (h : ¬ x % 2147483648 < 8388608) : fl .f32 x = flushV x := by unfold flushV; rw [if_neg h]

theorem order_zero {x : Nat} (h : FloatKind.f32.format.order x 0 = some .eq) : x = x / 2147483648 * 2147483648 := by
  have hn : fl .f32 x = some x := by
    cases h1 : fl .f32 x with
    | none => rw [order_fl, h1] at h; cases h
    | some v => rw [(fl_some h1).1]
  rw [order_num hn (fl_zero .f32), Option.some.injEq, compare_eq_iff, sv_zero] at h
  have h1 := natAbs_sv single x
  have h2 : sv single x = 0 := h
  rw [h2] at h1
  have h3 : mag single (rung single x) = mag single 0 := by rw [← h1, mag_zero]; rfl
  have h4 := mag_inj single h3
  have h5 : rung single x = x % 2147483648 := rfl
  rw [h5] at h4
  omega

theorem flush_nosub {x : Nat} (hx : x < 4294967296) (h : subB x = false) : fl .f32 x = flushV x := by
  by_cases hs : x % 2147483648 < 8388608
  · unfold subB at h
    rw [decide_eq_true hs, Bool.and_true] at h
    have ho : FloatKind.f32.format.order x 0 = some .eq := by simpa using h
    have e := order_zero ho
    have := flush_yes hx hs
    rw [← e] at this; exact this
  · exact flush_no hs

theorem sub_small {x : Nat} (h : subB x = true) : x % 2147483648 < 8388608 := by
  unfold subB at h
  rw [Bool.and_eq_true, decide_eq_true_iff] at h
  exact h.2

/-- float32(copysign(0, float64(x))). -/
theorem flush_copy {x r s : Nat} (hx : x < 4294967296) (h : subB x = true) (h1 : FC .f32 .f64 (fl .f32 x) r)
    (h2 : FC .f64 .f32 (fl .f64 (r / 9223372036854775808 * 9223372036854775808)) s) : fl .f32 s = flushV x := by
  have hs := sub_small h
  have hn : fl .f32 x = some x := fl_le (k := .f32) (by show x % 2147483648 ≤ 2139095040; omega)
  have hw := sgn_widen hn (FC_widen h1)
  have hr := h1.2
  have e1 := sgn_lt (k := .f64) hr
  have e2 := sgn_lt (k := .f32) (x := x) hx
  have s1 : FloatKind.f64.format.signWeight = 9223372036854775808 := by decide
  have s2 : FloatKind.f32.format.signWeight = 2147483648 := by decide
  rw [s1] at e1
  rw [s2] at e2
  have e3 : decide (9223372036854775808 ≤ r) = decide (2147483648 ≤ x) := by rw [← e1, ← e2]; exact hw.2
  have hr' : r < 18446744073709551616 := hr
  rw [← flush_yes hx hs]
  by_cases hneg : 2147483648 ≤ x
  · have : 9223372036854775808 ≤ r := by simpa [hneg] using e3
    have q1 : r / 9223372036854775808 = 1 := by omega
    have q2 : x / 2147483648 = 1 := by omega
    rw [q1] at h2
    rw [q2]
    rw [h2.1 (by decide)]
    decide
  · have : ¬ 9223372036854775808 ≤ r := by simpa [hneg] using e3
    have q1 : r / 9223372036854775808 = 0 := by omega
    have q2 : x / 2147483648 = 0 := by omega
    rw [q1] at h2
    rw [q2]
    rw [h2.1 (by decide)]
    decide

theorem copy_bits {r : Nat} (hr : r < 18446744073709551616) : (bits .or .u64 (bits .andNot .u64 0 9223372036854775808) (bits .and .u64 (r : Int) 9223372036854775808)).toNat = r / 9223372036854775808 * 9223372036854775808 := by
  have h1 : bits .andNot .u64 0 9223372036854775808 = ((0 : Nat) : Int) := by decide
  have h2 : bits .and .u64 (r : Int) 9223372036854775808 = ((r / 9223372036854775808 * 9223372036854775808 : Nat) : Int) := by
    rw [show (9223372036854775808 : Int) = ((9223372036854775808 : Nat) : Int) from rfl, u64_and_nat r _ hr (by decide)]
    have := nat_bit 63 r
    rw [show (2 : Nat) ^ 63 = 9223372036854775808 from rfl] at this
    rw [this, Nat.mod_eq_of_lt (show r / 9223372036854775808 < 2 by omega)]
  have h3 : r / 9223372036854775808 * 9223372036854775808 < 18446744073709551616 := by omega
  rw [h1, h2, u64_or_nat 0 _ (by decide) h3, Int.toNat_natCast, Nat.zero_or]

/-- The square root. -/
def fsqrt (o : Option Nat) : Option Nat := o.bind fun x => double.sqrt x
theorem sqrt_num {x r : Nat} (h : double.sqrt x = some r) : fl .f64 r = some r := by
  unfold Format.sqrt at h
  cases hd : (double.read x).root (double.fractionBits + 2) with
  | none => rw [hd] at h; cases h
  | some d => rw [hd] at h; cases h; exact fl_num (k := .f64) (write_not_nan _ (by decide) d (root_num _ _ d hd))
theorem sqrt_nan {x : Nat} (h : fl .f64 x = none) : double.sqrt x = none := by
  have := fl_none h
  unfold Format.sqrt
  have hn : (double.read x).isNaN = true := this
  cases hd : double.read x <;> rw [hd] at hn <;> first | (cases hn; done) | rfl
theorem fsqrt_fl (x : Nat) : fsqrt (fl .f64 x) = double.sqrt x := by
  unfold fsqrt
  cases h : fl .f64 x with
  | none => rw [sqrt_nan h]; rfl
  | some v => rw [(fl_some h).1]; rfl

theorem rootFrom_sq (n : Nat) : ∀ todo root, root * root ≤ n → Datum.rootFrom n todo root * Datum.rootFrom n todo root ≤ n := by
  intro todo
  induction todo with
  | zero => intro root h; exact h
  | succ k ih =>
    intro root h
    unfold Datum.rootFrom
    refine ih _ ?_
    split
    · assumption
    · exact h

/-- The root of at most 2 ^ 128 is at most 2 ^ 65. -/
theorem bd_sqrt {o : Option Nat} {r : Nat} (h : Bd 128 o) (hv : fsqrt o = some r) : Bd 65 (some r) := by
  obtain ⟨x, rfl, hx, _⟩ := h
  have hf := Bd.fin (by omega) hx
  have hv' : double.sqrt x = some r := hv
  obtain ⟨m, a, hr, hm⟩ := read_fin double (by decide) hf
  have hmag := Bd.mag_le hx
  rw [← hm] at hmag
  unfold Format.sqrt at hv'
  rw [hr] at hv'
  simp only [Datum.root] at hv'
  by_cases h0 : m = 0
  · rw [if_pos h0] at hv'
    simp only [Option.map_some, Format.write, Option.some.injEq] at hv'
    rw [← hv', nearest_rr double _ _ _ 0 a (by show double.leastPlace + (a : Int) + ((0 : Nat) : Int) = double.leastPlace + (a : Int); omega), h0, Nat.zero_mul]
    exact word_bd (by omega) (rr_P2 (by omega) (Nat.zero_le _))
  rw [if_neg h0] at hv'
  cases hs : sgn double x
  case true => rw [hs, if_pos rfl] at hv'; cases hv'
  rw [hs, if_neg (by simp)] at hv'
  simp only [Option.map_some, Format.write, Option.some.injEq] at hv'
  generalize hmo : 2 * (double.fractionBits + 2) - m.log2 + ((double.leastPlace + (a : Int) - ((2 * (double.fractionBits + 2) - m.log2 : Nat) : Int)) % 2).toNat = more at hv'
  generalize hn : m <<< more = n at hv'
  have hsq := rootFrom_sq n (n.log2 / 2 + 1) 0 (by omega)
  generalize hw : Datum.rootFrom n (n.log2 / 2 + 1) 0 = whole at hv' hsq
  have hst : 2 * whole + (whole * whole != n).toNat ≤ 2 * whole + 1 := by cases (whole * whole != n) <;> simp
  generalize hq : 2 * whole + (whole * whole != n).toNat = q at hv' hst
  have hl : double.leastPlace = -1074 := by decide
  have hfb : double.fractionBits = 52 := by decide
  have heven : (double.leastPlace + (a : Int) - (more : Int)) % 2 = 0 := by omega
  generalize hz : (double.leastPlace + (a : Int) - (more : Int)) / 2 = z at hv'
  have hz2 : 2 * z = -1074 + (a : Int) - (more : Int) := by omega
  -- place z - 1: in units: choose d, k
  have hmb : more ≤ 110 := by omega
  have hzlo : -700 ≤ z := by omega
  obtain ⟨k, hk⟩ : ∃ k : Nat, (k : Int) = z + 1073 := ⟨(z + 1073).toNat, by omega⟩
  rw [← hv', nearest_rr double _ _ _ 0 k (by show z - 1 + ((0 : Nat) : Int) = double.leastPlace + (k : Int); omega)]
  refine word_bd (by omega) (rr_P2 (by omega) ?_)
  rw [Nat.shiftLeft_eq] at hn
  obtain ⟨C, hC⟩ : ∃ C : Nat, C = 1202 := ⟨_, rfl⟩
  obtain ⟨K, hK⟩ : ∃ K : Nat, K = 1137 := ⟨_, rfl⟩
  obtain ⟨Y, hY⟩ : ∃ Y : Nat, Y = 1072 := ⟨_, rfl⟩
  rw [show 128 + 1074 = C by omega] at hmag
  have ha : a ≤ C := by
    have h1 : 2 ^ a ≤ m * 2 ^ a := Nat.le_mul_of_pos_left _ (by omega)
    exact (Nat.pow_le_pow_iff_right (by omega)).1 (Nat.le_trans h1 hmag)
  have hA : whole * whole * 2 ^ a ≤ 2 ^ (C + more) := by
    have h1 : whole * whole * 2 ^ a ≤ n * 2 ^ a := Nat.mul_le_mul_right _ hsq
    rw [← hn, Nat.mul_right_comm m] at h1
    have h2 := Nat.mul_le_mul_right (2 ^ more) hmag
    rw [← Nat.pow_add] at h2
    exact Nat.le_trans h1 h2
  have hwle : whole * 2 ^ k ≤ 2 ^ K := by
    by_cases hw0 : whole * 2 ^ k ≤ 2 ^ K
    · exact hw0
    · exfalso
      have h1 : 2 ^ K * 2 ^ K < whole * 2 ^ k * (whole * 2 ^ k) := Nat.mul_lt_mul'' (by omega) (by omega)
      rw [← Nat.pow_add] at h1
      have h2 : whole * 2 ^ k * (whole * 2 ^ k) = whole * whole * 2 ^ (k + k) := by
        rw [Nat.mul_mul_mul_comm, ← Nat.pow_add]
      rw [h2] at h1
      have hkk : k + k + more = a + Y := by omega
      have h3 : whole * whole * 2 ^ (k + k) * 2 ^ more ≤ 2 ^ (C + more) * 2 ^ Y := by
        rw [Nat.mul_assoc, ← Nat.pow_add, hkk, Nat.pow_add 2 a Y, ← Nat.mul_assoc]
        exact Nat.mul_le_mul_right _ hA
      rw [← Nat.pow_add] at h3
      have h4 : 2 ^ (K + K) * 2 ^ more < whole * whole * 2 ^ (k + k) * 2 ^ more := Nat.mul_lt_mul_of_pos_right h1 (Nat.two_pow_pos _)
      rw [← Nat.pow_add] at h4
      have h5 : C + more + Y = K + K + more := by omega
      rw [h5] at h3
      omega
  have hk2 : 2 ^ k ≤ 2 ^ K := Nat.pow_le_pow_right (by omega) (by omega)
  have h6 : q * 2 ^ k ≤ (2 * whole + 1) * 2 ^ k := Nat.mul_le_mul_right _ hst
  have h7 : (2 * whole + 1) * 2 ^ k = whole * 2 ^ k + whole * 2 ^ k + 2 ^ k := by
    rw [Nat.add_mul, Nat.mul_assoc, Nat.one_mul]; omega
  rw [show 65 + 1074 + 0 = K + 1 + 1 by omega, Nat.pow_succ, Nat.pow_succ]
  generalize 2 ^ K = Z at *
  omega
end Go.Proofs.YtkfhgjknmdlhbaaGreatDoor.Ff
