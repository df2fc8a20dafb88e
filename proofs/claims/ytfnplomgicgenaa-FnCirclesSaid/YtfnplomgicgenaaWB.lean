/- More walks: sameFloat, IsSubnormal, SameNumber, FromBits. -/
import Derived.Test.YtfnplomgicgenaaWA
namespace Go.Proofs.Ytfnplomgicgenaa.WB
open Go.RowKit Fl Fs Fo Fw Fb WA

theorem gt_same {v : Option Nat} {r1 r2 : Nat} (h1 : FV .f64 v r1) (h2 : FV .f64 v r2) : ((FloatKind.f64.format.order r1 0 == some .gt) == (FloatKind.f64.format.order r2 0 == some .gt)) = true := by
  rw [order_fl, order_fl, h1.1, h2.1]; simp
theorem ret_float {k : FloatKind} {a b : Nat} (h : a = b) : Ending.returned (.float k a) = .returned (.float k b) := by rw [h]

set_option maxHeartbeats 400000 in
theorem sameFloat_yes (a b : Nat) (h : fl .f64 a = fl .f64 b) (w : World) :
    Calls Try.prog 15 #[.float .f64 a, .float .f64 b] w fun e w' => e = .returned (.bool true) ∧ ∃ n, w' = w.drewN n := by
  cases ha : fl .f64 a with
  | none =>
    have h1 : (FloatKind.f64.format.order a a != some .eq) = true := by rw [order_self, fl_none ha]; rfl
    have h2 : (FloatKind.f64.format.order b b != some .eq) = true := by rw [order_self, fl_none (by rw [← h, ha])]; rfl
    clear h ha
    go_enter Try.func15, Try.ntmps15
    go_wp2
    go_ret
    exact ⟨rfl, 0, rfl⟩
  | some v =>
    have e1 := (fl_some ha).1
    have e2 := (fl_some (h.symm.trans ha)).1
    obtain rfl : a = b := by omega
    have h1 : (FloatKind.f64.format.order a a != some .eq) = false := by rw [order_self, (fl_some ha).2]; rfl
    have h1' : (FloatKind.f64.format.order a a == some .eq) = true := by rw [order_self, (fl_some ha).2]; rfl
    clear h ha e1 e2
    by_cases hz : (FloatKind.f64.format.order a 0 == some .eq) = true
    · go_enter Try.func15, Try.ntmps15
      go_wp2_with (refine wpList_farith _ _ _ _ _ rfl rfl rfl _ _ _ rfl rfl ?_; intro r n hr)
      go_ret
      exact ⟨ret_bool (gt_same (by assumption) (by assumption)), _, rfl⟩
    · have hz' : (FloatKind.f64.format.order a 0 == some .eq) = false := by simpa using hz
      clear hz
      go_enter Try.func15, Try.ntmps15
      go_wp2
      go_ret
      exact ⟨rfl, 0, rfl⟩

set_option maxHeartbeats 400000 in
theorem math_Abs (r : Nat) (hr : r < 18446744073709551616) (w : World) :
    Calls Try.prog 48 #[.float .f64 r] w fun e w' => e = .returned (.float .f64 (r % 9223372036854775808)) ∧ w = w' := by
  have h := Lib.hid (abs_bits hr)
  go_enter Try.func48, Try.ntmps48
  go_wp2
  go_ret
  exact ⟨ret_float h.out, rfl⟩

theorem sub_no {x : Nat} (h : FloatKind.f32.format.order x 0 = some .eq) : false = subB x := by
  unfold subB; rw [h]; rfl
set_option maxHeartbeats 400000 in
theorem impl_IsSubnormal (x : Nat) (w : World) :
    Calls Try.prog 40 #[.float .f32 x] w fun e w' => e = .returned (.bool (subB x)) ∧ ∃ n, w' = w.drewN n := by
  by_cases hz : (FloatKind.f32.format.order x 0 != some .eq) = true
  · go_enter Try.func40, Try.ntmps40
    go_wp2_with (first | (refine wpList_fconv _ _ _ rfl rfl .f32 .f64 (by decide) _ rfl (by rw [Try.underlying22]; rfl) Try.underlying25 ?_; intro r n hr) | (go_at_call 48; refine (math_Abs _ (FC.lt ‹_›) _).mono ?_; rintro e w' ⟨rfl, rfl⟩))
    go_ret
    exact ⟨ret_bool (by unfold subB; rw [impl_sub (by assumption), hz, Bool.true_and]), _, rfl⟩
  · have h0 : FloatKind.f32.format.order x 0 = some .eq := by simpa using hz
    have H := Lib.hid h0
    have hz' : (FloatKind.f32.format.order x 0 != some .eq) = false := by simpa using hz
    clear hz h0
    go_enter Try.func40, Try.ntmps40
    go_wp2
    go_ret
    exact ⟨ret_bool (sub_no H.out), 0, rfl⟩

/-- SameNumber. -/
def sameB (a b : Nat) : Bool := decide (fl .f32 a = fl .f32 b)
theorem ne_self (x : Nat) : (FloatKind.f32.format.order x x != some .eq) = (FloatKind.f32.format.read x).isNaN := by
  rw [order_self]; cases (FloatKind.f32.format.read x).isNaN <;> rfl
set_option maxHeartbeats 400000 in
theorem spec_l01Same (a b : Nat) (ha : a < 4294967296) (hb : b < 4294967296) (w : World) :
    Calls Try.prog 63 #[.float .f32 a, .float .f32 b] w fun e w' => e = .returned (.bool (sameB a b)) ∧ w = w' := by
  have h := Lib.hid (bitsB_eq (a := a) (b := b))
  go_enter Try.func63, Try.ntmps63
  go_wp2_with (go_at_call 64; refine (spec_l01Bits _ (by assumption) _).mono ?_; rintro e w' ⟨rfl, rfl⟩)
  go_ret
  exact ⟨ret_bool h.out, rfl⟩
set_option maxHeartbeats 400000 in
theorem spec_SameNumber (a b : Nat) (ha : a < 4294967296) (hb : b < 4294967296) (w : World) :
    Calls Try.prog 38 #[.float .f32 a, .float .f32 b] w fun e w' => e = .returned (.bool (sameB a b)) ∧ w = w' := by
  go_enter Try.func38, Try.ntmps38
  go_wp2_with (go_at_call 63; refine (spec_l01Same _ _ (by assumption) (by assumption) _).mono ?_; rintro e w' ⟨rfl, rfl⟩)
  go_ret
  exact ⟨rfl, rfl⟩

theorem same_sgn {a b r s : Nat} (ha : (FloatKind.f32.format.read a).isNaN = false) (hb : (FloatKind.f32.format.read b).isNaN = false) (wa : a < 4294967296) (wb : b < 4294967296)
    (h1 : FC .f32 .f64 (fl .f32 a) r) (h2 : FC .f32 .f64 (fl .f32 b) s) (ho : FloatKind.f32.format.order a b = some .eq) : (sgn Ieee.double r == sgn Ieee.double s) = sameB a b := by
  have e := eq_iff_word (fl_num ha) (fl_num hb) wa wb
  rw [(sgn_widen (fl_num ha) (FC_widen h1)).2, (sgn_widen (fl_num hb) (FC_widen h2)).2]
  have e' : a = b ↔ sgn Ieee.single a = sgn Ieee.single b := ⟨fun h => (e.1 h).2, fun h => e.2 ⟨by rw [ho]; rfl, h⟩⟩
  unfold sameB
  rw [fl_num ha, fl_num hb, Bool.eq_iff_iff, beq_iff_eq, decide_eq_true_iff, Option.some.injEq, e']
theorem same_no {a b : Nat} (ha : (FloatKind.f32.format.read a).isNaN = false) (hb : (FloatKind.f32.format.read b).isNaN = false) (ho : ¬ FloatKind.f32.format.order a b = some .eq) : false = sameB a b := by
  symm
  unfold sameB
  rw [fl_num ha, fl_num hb, decide_eq_false_iff_not, Option.some.injEq]
  rintro rfl
  rw [order_self, ha] at ho
  exact ho rfl

end Go.Proofs.Ytfnplomgicgenaa.WB
