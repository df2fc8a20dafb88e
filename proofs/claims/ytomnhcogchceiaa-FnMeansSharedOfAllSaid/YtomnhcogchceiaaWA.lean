/- The walks of seat a: numbers and their bits. -/
import Derived.Test.YtomnhcogchceiaaRows
import Derived.Test.YtomnhcogchceiaaFb
import Derived.Lib.Hide
namespace Go.Proofs.Ytomnhcogchceiaa.WA
open Go.RowKit Fl Fw Fb

/-- 'x - x == 0'. -/
def finB (x : Nat) : Bool := fcmp .f32 (fop .sub .f32 (fl .f32 x) (fl .f32 x)) (some 0) == some .eq
theorem finB_eq {x r : Nat} (h : FV .f32 (fop .sub .f32 (fl .f32 x) (fl .f32 x)) r) : (FloatKind.f32.format.order r 0 == some .eq) = finB x := by
  rw [order_fl, h.1, fl_zero]; rfl
theorem ret_bool {a b : Bool} (h : a = b) : Ending.returned (.bool a) = .returned (.bool b) := by rw [h]
theorem ret_int {k : IntKind} {a b : Int} (h : a = b) : Ending.returned (.int k a) = .returned (.int k b) := by rw [h]

set_option maxHeartbeats 400000 in
theorem impl_IsFinite (x : Nat) (w : World) :
    Calls Try.prog 20 #[.float .f32 x] w fun e w' => e = .returned (.bool (finB x)) ∧ ∃ n, w' = w.drewN n := by
  go_enter Try.func20, Try.ntmps20
  go_wp2_with (refine wpList_farith _ _ _ _ _ rfl rfl rfl _ _ _ rfl rfl ?_; intro r n hr)
  go_ret
  exact ⟨ret_bool (finB_eq hr), _, rfl⟩
set_option maxHeartbeats 400000 in
theorem spec_l01Finite (x : Nat) (w : World) :
    Calls Try.prog 23 #[.float .f32 x] w fun e w' => e = .returned (.bool (finB x)) ∧ ∃ n, w' = w.drewN n := by
  go_enter Try.func23, Try.ntmps23
  go_wp2_with (refine wpList_farith _ _ _ _ _ rfl rfl rfl _ _ _ rfl rfl ?_; intro r n hr)
  go_ret
  exact ⟨ret_bool (finB_eq hr), _, rfl⟩
end Go.Proofs.Ytomnhcogchceiaa.WA
