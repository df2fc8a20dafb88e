/- More walks: sameFloat, IsSubnormal, SameNumber, FromBits. -/
import Derived.Test.YtkfhgjknmdlhbaaGreatDoorWA
namespace Go.Proofs.YtkfhgjknmdlhbaaGreatDoor.WB
open Go.RowKit Fl Fs Fo Fw Fb WA

theorem gt_same {v : Option Nat} {r1 r2 : Nat} (h1 : FV .f64 v r1) (h2 : FV .f64 v r2) : ((FloatKind.f64.format.order r1 0 == some .gt) == (FloatKind.f64.format.order r2 0 == some .gt)) = true := by
  rw [order_fl, order_fl, h1.1, h2.1]; simp
theorem ret_float {k : FloatKind} {a b : Nat} (h : a = b) : Ending.returned (.float k a) = .returned (.float k b) := by rw [h]

set_option maxHeartbeats 400000 in
theorem math_Signbit (r : Nat) (hr : r < 18446744073709551616) (w : World) :
    Calls Tryz.prog 80 #[.float .f64 r] w fun e w' => e = .returned (.bool (sgn Ieee.double r)) ∧ w = w' := by
  have h := Lib.hid (signbit_bits hr)
  go_enter Tryz.func80, Tryz.ntmps80
  go_wp2
  go_ret
  exact ⟨ret_bool h.out, rfl⟩
set_option maxHeartbeats 400000 in
theorem math_Abs (r : Nat) (hr : r < 18446744073709551616) (w : World) :
    Calls Tryz.prog 65 #[.float .f64 r] w fun e w' => e = .returned (.float .f64 (r % 9223372036854775808)) ∧ w = w' := by
  have h := Lib.hid (abs_bits hr)
  go_enter Tryz.func65, Tryz.ntmps65
  go_wp2
  go_ret
  exact ⟨ret_float h.out, rfl⟩

theorem sub_no {x : Nat} (h : FloatKind.f32.format.order x 0 = some .eq) : false = subB x := by
  unfold subB; rw [h]; rfl
set_option maxHeartbeats 400000 in
theorem impl_IsSubnormal (x : Nat) (w : World) :
    Calls Tryz.prog 33 #[.float .f32 x] w fun e w' => e = .returned (.bool (subB x)) ∧ ∃ n, w' = w.drewN n := by
  by_cases hz : (FloatKind.f32.format.order x 0 != some .eq) = true
  · go_enter Tryz.func33, Tryz.ntmps33
    go_wp2_with (first | (refine wpList_fconv _ _ _ rfl rfl .f32 .f64 (by decide) _ rfl (by rw [Tryz.underlying28]; rfl) Tryz.underlying46 ?_; intro r n hr) | (go_at_call 65; refine (math_Abs _ (FC.lt ‹_›) _).mono ?_; rintro e w' ⟨rfl, rfl⟩))
    go_ret
    exact ⟨ret_bool (by unfold subB; rw [impl_sub (by assumption), hz, Bool.true_and]), _, rfl⟩
  · have h0 : FloatKind.f32.format.order x 0 = some .eq := by simpa using hz
    have H := Lib.hid h0
    have hz' : (FloatKind.f32.format.order x 0 != some .eq) = false := by simpa using hz
    clear hz h0
    go_enter Tryz.func33, Tryz.ntmps33
    go_wp2
    go_ret
    exact ⟨ret_bool (sub_no H.out), 0, rfl⟩

/-- SameNumber. -/
def sameB (a b : Nat) : Bool := decide (fl .f32 a = fl .f32 b)
theorem ne_self (x : Nat) : (FloatKind.f32.format.order x x != some .eq) = (FloatKind.f32.format.read x).isNaN := by
  rw [order_self]; cases (FloatKind.f32.format.read x).isNaN <;> rfl
set_option maxHeartbeats 400000 in
theorem spec_l01Same (a b : Nat) (ha : a < 4294967296) (hb : b < 4294967296) (w : World) :
    Calls Tryz.prog 43 #[.float .f32 a, .float .f32 b] w fun e w' => e = .returned (.bool (sameB a b)) ∧ w = w' := by
  have h := Lib.hid (bitsB_eq (a := a) (b := b))
  go_enter Tryz.func43, Tryz.ntmps43
  go_wp2_with (go_at_call 69; refine (spec_l01Bits _ (by assumption) _).mono ?_; rintro e w' ⟨rfl, rfl⟩)
  go_ret
  exact ⟨ret_bool h.out, rfl⟩
set_option maxHeartbeats 400000 in
theorem spec_SameNumber (a b : Nat) (ha : a < 4294967296) (hb : b < 4294967296) (w : World) :
    Calls Tryz.prog 10 #[.float .f32 a, .float .f32 b] w fun e w' => e = .returned (.bool (sameB a b)) ∧ w = w' := by
  go_enter Tryz.func10, Tryz.ntmps10
  go_wp2_with (go_at_call 43; refine (spec_l01Same _ _ (by assumption) (by assumption) _).mono ?_; rintro e w' ⟨rfl, rfl⟩)
  go_ret
  exact ⟨rfl, rfl⟩

theorem same_sgn {a b r s : Nat} (ha : (FloatKind.f32.format.read a).isNaN = false) (hb : (FloatKind.f32.format.read b).isNaN = false) (wa : a < 4294967296) (wb : b < 4294967296)
    (h1 : FC .f32 .f64 (fl .f32 a) r) (h2 : FC .f32 .f64 (fl .f32 b) s) (ho : FloatKind.f32.format.order a b = some .eq) : (sgn Ieee.double r == sgn Ieee.double s) = sameB a b := by
  have e := eq_iff_word (fl_num ha) (fl_num hb) wa wb
  rw [(sgn_widen (fl_num ha) (FC_widen h1)).2, (sgn_widen (fl_num hb) (FC_widen h2)).2]
  have e' : a = b ↔ sgn Ieee.single a = sgn Ieee.single b := ⟨fun h => (e.1 h).2, fun h => e.2 ⟨by rw [ho]; rfl, h⟩⟩
  unfold sameB
  rw [fl_num ha, fl_num hb, Bool.eq_iff_iff, beq_iff_eq, decide_eq_true_iff, Option.some.injEq, e']
theorem same_no {a b : Nat} (ha : (FloatKind.f32.format.read a).isNaN = false) (hb : (FloatKind.f32.format.read b).isNaN = false) (ho : ¬ FloatKind.f32.format.order a b = some .eq) : false = sameB a b := by
  symm
  unfold sameB
  rw [fl_num ha, fl_num hb, decide_eq_false_iff_not, Option.some.injEq]
  rintro rfl
  rw [order_self, ha] at ho
  exact ho rfl

set_option maxHeartbeats 800000 in
theorem impl_SameNumber (a b : Nat) (wa : a < 4294967296) (wb : b < 4294967296) (w : World) :
    Calls Tryz.prog 60 #[.float .f32 a, .float .f32 b] w fun e w' => e = .returned (.bool (sameB a b)) ∧ ∃ n, w' = w.drewN n := by
  have na := ne_self a
  have nb := ne_self b
  cases ha : (FloatKind.f32.format.read a).isNaN <;> cases hb : (FloatKind.f32.format.read b).isNaN <;> rw [ha] at na <;> rw [hb] at nb
  · have Ha := Lib.hid ha; have Hb := Lib.hid hb; clear ha hb
    by_cases ho : FloatKind.f32.format.order a b = some .eq
    · have Ho := Lib.hid ho
      have ho' : (FloatKind.f32.format.order a b == some .eq) = true := by rw [ho]; rfl
      clear ho
      go_enter Tryz.func60, Tryz.ntmps60
      go_wp2_with (first | (refine wpList_fconv _ _ _ rfl rfl .f32 .f64 (by decide) _ rfl (by rw [Tryz.underlying28]; rfl) Tryz.underlying46 ?_; intro r n hr) | (go_at_call 80; refine (math_Signbit _ (FC.lt (by assumption)) _).mono ?_; rintro e w' ⟨rfl, rfl⟩))
      go_ret
      exact ⟨ret_bool (same_sgn Ha.out Hb.out wa wb (by assumption) (by assumption) Ho.out), _, rfl⟩
    · have Ho := Lib.hid ho
      have ho' : (FloatKind.f32.format.order a b == some .eq) = false := by simpa using ho
      clear ho
      go_enter Tryz.func60, Tryz.ntmps60
      go_wp2
      go_ret
      exact ⟨ret_bool (same_no Ha.out Hb.out Ho.out), 0, rfl⟩
  · have e : false = sameB a b := by unfold sameB; rw [fl_num ha, fl_nan hb]; rfl
    have E := Lib.hid e; clear ha hb e
    go_enter Tryz.func60, Tryz.ntmps60
    go_wp2
    go_ret
    exact ⟨ret_bool E.out, 0, rfl⟩
  · have e : false = sameB a b := by unfold sameB; rw [fl_num hb, fl_nan ha]; rfl
    have E := Lib.hid e; clear ha hb e
    go_enter Tryz.func60, Tryz.ntmps60
    go_wp2
    go_ret
    exact ⟨ret_bool E.out, 0, rfl⟩
  · have e : true = sameB a b := by unfold sameB; rw [fl_nan ha, fl_nan hb]; rfl
    have E := Lib.hid e; clear ha hb e
    go_enter Tryz.func60, Tryz.ntmps60
    go_wp2
    go_ret
    exact ⟨ret_bool E.out, 0, rfl⟩

set_option maxHeartbeats 400000 in
theorem impl_FromBits_in (n : Int) (h0 : 0 ≤ n) (h1 : n ≤ 4294967295) (w : World) :
    Calls Tryz.prog 20 #[.int .i64 n] w fun e w' => e = .returned (.tuple #[.float .f32 n.toNat, .bool true]) ∧ w = w' := by
  go_enter Tryz.func20, Tryz.ntmps20
  go_wp2
  go_ret2
  exact ⟨rfl, rfl⟩
set_option maxHeartbeats 400000 in
theorem impl_FromBits_out (n : Int) (h0 : n < 0 ∨ 4294967295 < n) (w : World) :
    Calls Tryz.prog 20 #[.int .i64 n] w fun e w' => e = .returned (.tuple #[.float .f32 0, .bool false]) ∧ w = w' := by
  rcases h0 with h | h
  · go_enter Tryz.func20, Tryz.ntmps20
    go_wp2
    go_ret2
    exact ⟨rfl, rfl⟩
  · have h' : decide (n ≤ 4294967295) = false := by simp; omega
    go_enter Tryz.func20, Tryz.ntmps20
    go_wp2
    go_ret2
    exact ⟨rfl, rfl⟩
end Go.Proofs.YtkfhgjknmdlhbaaGreatDoor.WB
