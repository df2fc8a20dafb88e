/- More walks: sameFloat, IsSubnormal, SameNumber, FromBits. -/
import Derived.Test.YtjkkfimkojmifaaDoorWA
namespace Go.Proofs.YtjkkfimkojmifaaDoor.WB
open Go.RowKit Fl Fs Fo Fw Fb WA

theorem gt_same {v : Option Nat} {r1 r2 : Nat} (h1 : FV .f64 v r1) (h2 : FV .f64 v r2) : ((FloatKind.f64.format.order r1 0 == some .gt) == (FloatKind.f64.format.order r2 0 == some .gt)) = true := by
  rw [order_fl, order_fl, h1.1, h2.1]; simp
theorem ret_float {k : FloatKind} {a b : Nat} (h : a = b) : Ending.returned (.float k a) = .returned (.float k b) := by rw [h]

set_option maxHeartbeats 400000 in
theorem sameFloat_yes (a b : Nat) (h : fl .f64 a = fl .f64 b) (w : World) :
    Calls Tryd.prog 45 #[.float .f64 a, .float .f64 b] w fun e w' => e = .returned (.bool true) ∧ ∃ n, w' = w.drewN n := by
  cases ha : fl .f64 a with
  | none =>
    have h1 : (FloatKind.f64.format.order a a != some .eq) = true := by rw [order_self, fl_none ha]; rfl
    have h2 : (FloatKind.f64.format.order b b != some .eq) = true := by rw [order_self, fl_none (by rw [← h, ha])]; rfl
    clear h ha
    go_enter Tryd.func45, Tryd.ntmps45
    go_wp2
    go_ret
    exact ⟨rfl, 0, rfl⟩
  | some v =>
    have e1 := (fl_some ha).1
    have e2 := (fl_some (h.symm.trans ha)).1
    obtain rfl : a = b := by omega
    have h1 : (FloatKind.f64.format.order a a != some .eq) = false := by rw [order_self, (fl_some ha).2]; rfl
    have h1' : (FloatKind.f64.format.order a a == some .eq) = true := by rw [order_self, (fl_some ha).2]; rfl
    clear h ha e1 e2
    by_cases hz : (FloatKind.f64.format.order a 0 == some .eq) = true
    · go_enter Tryd.func45, Tryd.ntmps45
      go_wp2_with (refine wpList_farith _ _ _ _ _ rfl rfl rfl _ _ _ rfl rfl ?_; intro r n hr)
      go_ret
      exact ⟨ret_bool (gt_same (by assumption) (by assumption)), _, rfl⟩
    · have hz' : (FloatKind.f64.format.order a 0 == some .eq) = false := by simpa using hz
      clear hz
      go_enter Tryd.func45, Tryd.ntmps45
      go_wp2
      go_ret
      exact ⟨rfl, 0, rfl⟩

theorem sub_no {x : Nat} (h : FloatKind.f32.format.order x 0 = some .eq) : false = subB x := by
  unfold subB; rw [h]; rfl
/-- SameNumber. -/
def sameB (a b : Nat) : Bool := decide (fl .f32 a = fl .f32 b)
theorem ne_self (x : Nat) : (FloatKind.f32.format.order x x != some .eq) = (FloatKind.f32.format.read x).isNaN := by
  rw [order_self]; cases (FloatKind.f32.format.read x).isNaN <;> rfl
theorem same_sgn {a b r s : Nat} (ha : (FloatKind.f32.format.read a).isNaN = false) (hb : (FloatKind.f32.format.read b).isNaN = false) (wa : a < 4294967296) (wb : b < 4294967296)
    (h1 : FC .f32 .f64 (fl .f32 a) r) (h2 : FC .f32 .f64 (fl .f32 b) s) (ho : FloatKind.f32.format.order a b = some .eq) : (sgn Ieee.double r == sgn Ieee.double s) = sameB a b := by
  have e := eq_iff_word (fl_num ha) (fl_num hb) wa wb
  rw [(sgn_widen (fl_num ha) (FC_widen h1)).2, (sgn_widen (fl_num hb) (FC_widen h2)).2]
  have e' : a = b ↔ sgn Ieee.single a = sgn Ieee.single b := ⟨fun h => (e.1 h).2, fun h => e.2 ⟨by rw [ho]; rfl, h⟩⟩
  unfold sameB
  rw [fl_num ha, fl_num hb, Bool.eq_iff_iff, beq_iff_eq, decide_eq_true_iff, Option.some.injEq, e']
theorem same_no {a b : Nat} (ha : (FloatKind.f32.format.read a).isNaN = false) (hb : (FloatKind.f32.format.read b).isNaN = false) (ho : ¬ FloatKind.f32.format.order a b = some .eq) : false = sameB a b := by
  symm
  unfold sameB
  rw [fl_num ha, fl_num hb, decide_eq_false_iff_not, Option.some.injEq]
  rintro rfl
  rw [order_self, ha] at ho
  exact ho rfl

end Go.Proofs.YtjkkfimkojmifaaDoor.WB
