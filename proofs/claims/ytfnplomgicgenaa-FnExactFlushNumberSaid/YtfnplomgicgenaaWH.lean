/- The walks: flushing and roots. -/
import Derived.Test.YtfnplomgicgenaaWB
import Derived.Test.YtfnplomgicgenaaFf
namespace Go.Proofs.Ytfnplomgicgenaa.WH
open Go.RowKit Fl Fs Fo Fw Fb Fm Ff WA WB

/-- 'returns a float of kind k with P; only draws were made'. -/
def RetF (k : FloatKind) (P : Nat → Prop) (w : World) (e : Ending) (w' : World) : Prop := ∃ r n, P r ∧ e = .returned (.float k r) ∧ w' = w.drewN n

theorem run_sqrt (x : Nat) (w : World) : ∃ r n, (callFunc 71 #[.float .f64 x]).run Try.prog w = .ok (.value (.float .f64 r)) (w.drewN n) ∧ FV .f64 (fsqrt (fl .f64 x)) r := by
  rw [run_callFunc_extern (e := Go.Extern.MathSqrt.sqrt) Try.func71 (by kernel_rfl) (by kernel_rfl) (by kernel_rfl) (by kernel_rfl), fsqrt_fl]
  conv in (Go.Extern.MathSqrt.sqrt _) => whnf
  cases h : Ieee.double.sqrt x with
  | some r =>
    refine ⟨r, 0, ?_, sqrt_num h, Ieee.Format.sqrt_lt _ h⟩
    have h' : FloatKind.f64.format.sqrt x = some r := h
    simp [h']; rfl
  | none =>
    refine ⟨_, 1, ?_, (cut_nan .f64 x x _).1, (cut_nan .f64 x x (w.tape w.drawn (.nanBits .f64 x x))).2⟩
    have h' : FloatKind.f64.format.sqrt x = none := h
    simp [h', Question.forced]; rfl

set_option maxHeartbeats 400000 in
theorem math_Sqrt (x : Nat) (w : World) : Calls Try.prog 51 #[.float .f64 x] w (RetF .f64 (FV .f64 (fsqrt (fl .f64 x))) w) := by
  obtain ⟨r, n, hr, hv⟩ := run_sqrt x w
  have H := Lib.hid hv
  clear hv
  go_enter Try.func51, Try.ntmps51
  go_wp2
  go_ret
  exact ⟨r, n, H.out, rfl, rfl⟩

set_option maxHeartbeats 400000 in
theorem math_Copysign (r : Nat) (hr : r < 18446744073709551616) (w : World) : Calls Try.prog 41 #[.float .f64 0, .float .f64 r] w fun e w' => e = .returned (.float .f64 (r / 9223372036854775808 * 9223372036854775808)) ∧ w = w' := by
  have H := Lib.hid (copy_bits hr)
  go_enter Try.func41, Try.ntmps41
  go_wp2
  go_ret
  exact ⟨ret_float H.out, rfl⟩

set_option maxHeartbeats 400000 in
theorem impl_FlushNumber (x : Nat) (hx : x < 4294967296) (w : World) : Calls Try.prog 14 #[.float .f32 x] w (RetF .f32 (fun r => fl .f32 r = flushV x) w) := by
  cases hs : subB x
  · have H := Lib.hid (flush_nosub hx hs)
    go_enter Try.func14, Try.ntmps14
    go_wp2_with (go_at_call 40; refine (impl_IsSubnormal _ _).mono ?_; rintro e w' ⟨rfl, n, rfl⟩)
    go_ret
    exact ⟨x, _, H.out, rfl, rfl⟩
  · have H := Lib.hid hs
    go_enter Try.func14, Try.ntmps14
    go_wp2_with fail
    refine (impl_IsSubnormal _ _).mono ?_
    rintro e w' ⟨rfl, n, rfl⟩
    rw [H.out]
    go_wp2_with (refine wpList_fconv _ _ _ rfl rfl .f32 .f64 (by decide) _ rfl (by rw [Try.underlying22]; rfl) Try.underlying25 ?_); intro r n hr
    go_wp2_with fail
    refine (math_Copysign _ (FC.lt (by assumption)) _).mono ?_
    rintro e w' ⟨rfl, rfl⟩
    go_wp2_with (refine wpList_fconv _ _ _ rfl rfl .f64 .f32 (by decide) _ rfl (by rw [Try.underlying25]; rfl) Try.underlying22 ?_); intro r2 n2 hr2
    go_wp2
    go_ret
    exact ⟨_, _, flush_copy hx H.out (by assumption) (by assumption), rfl, rfl⟩

set_option maxHeartbeats 400000 in
theorem spec_l01From (z : Nat) (hz : (z : Int) ≤ 4294967295) (w : World) : Calls Try.prog 65 #[.int .i64 z] w fun e w' => e = .returned (.float .f32 z) ∧ w = w' := by
  go_enter Try.func65, Try.ntmps65
  go_wp2
  go_ret
  exact ⟨rfl, rfl⟩
set_option maxHeartbeats 400000 in
theorem spec_l01Flush (x : Nat) (hx : x < 4294967296) (w : World) : Calls Try.prog 39 #[.float .f32 x] w (RetF .f32 (fun r => fl .f32 r = flushV x) w) := by
  have h0 := spec_sub hx
  by_cases hs : x % 2147483648 < 8388608
  · have h1 : (bits .and .i64 (bitsB x) 2139095040 == 0) = true := by rw [h0]; simpa using hs
    have h2 := flush_small hx hs
    have H := Lib.hid (flush_yes hx hs)
    obtain ⟨z, hz⟩ : ∃ z, x / 2147483648 * 2147483648 = z := ⟨_, rfl⟩
    have hzb : (z : Int) ≤ 4294967295 := by omega
    rw [hz] at h2 H
    clear hz h0 hs
    go_enter Try.func39, Try.ntmps39
    go_wp2_with (first | (go_at_call 64; refine (spec_l01Bits _ hx _).mono ?_; rintro e w' ⟨rfl, rfl⟩) | (go_at_call 65; refine (spec_l01From z hzb _).mono ?_; rintro e w' ⟨rfl, rfl⟩))
    go_ret
    exact ⟨z, 0, H.out, rfl, rfl⟩
  · have h1 : (bits .and .i64 (bitsB x) 2139095040 == 0) = false := by rw [h0]; simpa using hs
    have H := Lib.hid (flush_no hs)
    clear h0 hs
    go_enter Try.func39, Try.ntmps39
    go_wp2_with (go_at_call 64; refine (spec_l01Bits _ hx _).mono ?_; rintro e w' ⟨rfl, rfl⟩)
    go_ret
    exact ⟨x, 0, H.out, rfl, rfl⟩
theorem spec_FlushNumber (x : Nat) (hx : x < 4294967296) (w : World) : Calls Try.prog 13 #[.float .f32 x] w (RetF .f32 (fun r => fl .f32 r = flushV x) w) := by
  go_enter Try.func13, Try.ntmps13
  go_wp2_with (go_at_call 39; refine (spec_l01Flush _ hx _).mono ?_; rintro e w' ⟨r, n, hv, rfl, rfl⟩)
  go_ret
  exact ⟨_, _, by assumption, rfl, rfl⟩

/-- What a root of x may be. -/
def RootOf (x r : Nat) : Prop := ∃ y z, FC .f32 .f64 (fl .f32 x) y ∧ FV .f64 (fsqrt (fl .f64 y)) z ∧ FC .f64 .f32 (fl .f64 z) r
theorem widen_bd {x y : Nat} (h : FC .f32 .f64 (fl .f32 x) y) : Bd 128 (fl .f64 y) ∨ (fl .f64 y = none ∨ ∃ b, fl .f64 y = some b ∧ rung Ieee.double b = Ieee.double.infRung ∧ fconv .f32 .f64 (fl .f32 x) = some b) := by
  have hy := FC_widen h
  by_cases hx : rung Ieee.single x ≤ Ieee.single.infRung
  · have hn := fl_le (k := .f32) hx
    have hs := sgn_widen hn hy
    by_cases hi : rung Ieee.single x < Ieee.single.infRung
    · left
      obtain ⟨h1, h2⟩ := mag_widen hi hy
      refine ⟨y, hs.1, ?_, hs.1⟩
      obtain ⟨e1, he1, h3⟩ := mag_inf_single
      have h4 := Ft.mag_lt Ieee.single hi
      obtain ⟨c, hc⟩ : ∃ c, c = 925 := ⟨_, rfl⟩
      obtain ⟨q, hq⟩ : ∃ q, q = 128 := ⟨_, rfl⟩
      rw [← hc] at h2
      rw [← hq]
      by_cases hle : rung Ieee.double y ≤ P2 q
      · exact hle
      · exfalso
        have h5 := Ft.mag_lt Ieee.double (show P2 q < rung Ieee.double y by omega)
        rw [mag_P2, h2] at h5
        rw [h3] at h4
        have h6 : Ft.mag Ieee.single (rung Ieee.single x) * 2 ^ c < 2 ^ e1 * 2 ^ c := Nat.mul_lt_mul_of_pos_right h4 (Nat.two_pow_pos _)
        rw [← Nat.pow_add, show e1 + c = q + 1074 by omega] at h6
        omega
    · right; right
      have he : rung Ieee.single x = Ieee.single.infRung := by omega
      refine ⟨y, hs.1, ?_, by rw [← hy, hs.1]⟩
      rw [hn] at hy
      have e : y = Ieee.double.write (Ieee.single.read x) := by
        have := (fl_some hy).1; rw [this.symm]; rfl
      rw [e, read_inf Ieee.single (by decide) he]
      exact rung_word' Ieee.double _ (Nat.le_refl _)
  · right; left
    rw [hy, fl_gt (k := .f32) hx]; rfl

theorem over_inf {b : Nat} (h : rung Ieee.double b = Ieee.double.infRung) : over .f64 .f32 (some b) = false := by
  unfold over
  show (match Ieee.double.read b with | .number sg m e => (Ieee.single.read (Ieee.single.write (.number sg m e))).isInfinity | _ => false) = false
  rw [read_inf Ieee.double (by decide) h]

theorem sqrt_inf {b r : Nat} (h : rung Ieee.double b = Ieee.double.infRung) (hv : fsqrt (some b) = some r) : rung Ieee.double r = Ieee.double.infRung := by
  have hv' : Ieee.double.sqrt b = some r := hv
  unfold Ieee.Format.sqrt at hv'
  rw [read_inf Ieee.double (by decide) h] at hv'
  cases hs : sgn Ieee.double b <;> rw [hs] at hv' <;> simp [Ieee.Datum.root] at hv'
  rw [← hv']; decide

theorem root_same {x r s : Nat} (h1 : RootOf x r) (h2 : RootOf x s) : fl .f32 r = fl .f32 s := by
  obtain ⟨y, z, a1, a2, a3⟩ := h1
  obtain ⟨y', z', b1, b2, b3⟩ := h2
  have ey : fl .f64 y = fl .f64 y' := (FC_widen a1).trans (FC_widen b1).symm
  have ez : fl .f64 z = fl .f64 z' := by rw [a2.1, b2.1, ey]
  rw [← ez] at b3
  cases hz : fl .f64 z with
  | none => rw [hz] at a3 b3; exact narrow_none a3 b3
  | some v =>
    have hq : fsqrt (fl .f64 y) = some v := by rw [← a2.1, hz]
    rcases widen_bd a1 with hb | hn | ⟨b, hb, hr, _⟩
    · rw [hz] at a3 b3
      exact narrow_same ((bd_sqrt hb hq).mono (by omega)) a3 b3
    · rw [hn] at hq; cases hq
    · rw [hb] at hq
      have := sqrt_inf hr hq
      rw [hz] at a3 b3
      exact (a3.1 (over_inf this)).trans (b3.1 (over_inf this)).symm

set_option maxHeartbeats 400000 in
theorem impl_RootNumber (x : Nat) (w : World) : Calls Try.prog 25 #[.float .f32 x] w (RetF .f32 (RootOf x) w) := by
  go_enter Try.func25, Try.ntmps25
  go_wp2_with (first | (refine wpList_fconv _ _ _ rfl rfl .f32 .f64 (by decide) _ rfl (by rw [Try.underlying22]; rfl) Try.underlying25 ?_; intro r n hr) | (refine wpList_fconv _ _ _ rfl rfl .f64 .f32 (by decide) _ rfl (by rw [Try.underlying25]; rfl) Try.underlying22 ?_; intro r n hr) | (go_at_call 51; refine (math_Sqrt _ _).mono ?_; rintro e w' ⟨r, n, hv, rfl, rfl⟩))
  go_ret
  exact ⟨_, _, ⟨_, _, by assumption, by assumption, by assumption⟩, rfl, rfl⟩

theorem spec_l01Narrow (x : Nat) (w : World) : Calls Try.prog 68 #[.float .f64 x] w (RetF .f32 (FC .f64 .f32 (fl .f64 x)) w) := by
  go_enter Try.func68, Try.ntmps68
  go_wp2_with (refine wpList_fconv _ _ _ rfl rfl .f64 .f32 (by decide) _ rfl (by rw [Try.underlying25]; rfl) Try.underlying22 ?_; intro r n hr)
  go_ret
  exact ⟨_, _, by assumption, rfl, rfl⟩

set_option maxHeartbeats 400000 in
theorem spec_l01Sqrt (x : Nat) (w : World) : Calls Try.prog 50 #[.float .f32 x] w (RetF .f32 (RootOf x) w) := by
  go_enter Try.func50, Try.ntmps50
  go_wp2_with (first | (refine wpList_fconv _ _ _ rfl rfl .f32 .f64 (by decide) _ rfl (by rw [Try.underlying22]; rfl) Try.underlying25 ?_; intro r n hr) | (refine wpList_fconv _ _ _ rfl rfl .f64 .f32 (by decide) _ rfl (by rw [Try.underlying25]; rfl) Try.underlying22 ?_; intro r n hr) | (go_at_call 51; refine (math_Sqrt _ _).mono ?_; rintro e w' ⟨r, n, hv, rfl, rfl⟩) | (go_at_call 68; refine (spec_l01Narrow _ _).mono ?_; rintro e w' ⟨r, n, hv, rfl, rfl⟩))
  go_ret
  exact ⟨_, _, ⟨_, _, by assumption, by assumption, by assumption⟩, rfl, rfl⟩

theorem spec_RootNumber (x : Nat) (w : World) : Calls Try.prog 24 #[.float .f32 x] w (RetF .f32 (RootOf x) w) := by
  go_enter Try.func24, Try.ntmps24
  go_wp2_with (go_at_call 50; refine (spec_l01Sqrt _ _).mono ?_; rintro e w' ⟨r, n, hv, rfl, rfl⟩)
  go_ret
  exact ⟨_, _, by assumption, rfl, rfl⟩
end Go.Proofs.Ytfnplomgicgenaa.WH
