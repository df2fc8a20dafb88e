/- The walks of seat a: numbers and their bits. -/
import Derived.Test.YtkfhgjknmdlhbaaGreatDoorRows
import Derived.Test.YtkfhgjknmdlhbaaGreatDoorFb
import Derived.Lib.Hide
namespace Go.Proofs.YtkfhgjknmdlhbaaGreatDoor.WA
open Go.RowKit Fl Fw Fb

@[go_sem] theorem call_f32bits (x : Nat) (w : World) : (callFunc 56 #[.float .f32 x]).run Tryz.prog w = .ok (.value (.int .u32 x)) w := by
  rw [run_callFunc_extern (e := Go.Extern.MathFloatBits.float32bits) Tryz.func56 (by kernel_rfl) (by kernel_rfl) (by kernel_rfl) (by kernel_rfl)]; rfl
@[go_sem] theorem call_f32frombits (n : Int) (w : World) : (callFunc 55 #[.int .u32 n]).run Tryz.prog w = .ok (.value (.float .f32 n.toNat)) w := by
  rw [run_callFunc_extern (e := Go.Extern.MathFloatBits.float32frombits) Tryz.func55 (by kernel_rfl) (by kernel_rfl) (by kernel_rfl) (by kernel_rfl)]; rfl
@[go_sem] theorem call_f64bits (x : Nat) (w : World) : (callFunc 82 #[.float .f64 x]).run Tryz.prog w = .ok (.value (.int .u64 x)) w := by
  rw [run_callFunc_extern (e := Go.Extern.MathFloatBits.float64bits) Tryz.func82 (by kernel_rfl) (by kernel_rfl) (by kernel_rfl) (by kernel_rfl)]; rfl
@[go_sem] theorem call_f64frombits (n : Int) (w : World) : (callFunc 81 #[.int .u64 n]).run Tryz.prog w = .ok (.value (.float .f64 n.toNat)) w := by
  rw [run_callFunc_extern (e := Go.Extern.MathFloatBits.float64frombits) Tryz.func81 (by kernel_rfl) (by kernel_rfl) (by kernel_rfl) (by kernel_rfl)]; rfl

/-- 'x - x == 0'. -/
def finB (x : Nat) : Bool := fcmp .f32 (fop .sub .f32 (fl .f32 x) (fl .f32 x)) (some 0) == some .eq
theorem finB_eq {x r : Nat} (h : FV .f32 (fop .sub .f32 (fl .f32 x) (fl .f32 x)) r) : (FloatKind.f32.format.order r 0 == some .eq) = finB x := by
  rw [order_fl, h.1, fl_zero]; rfl
theorem ret_bool {a b : Bool} (h : a = b) : Ending.returned (.bool a) = .returned (.bool b) := by rw [h]
theorem ret_int {k : IntKind} {a b : Int} (h : a = b) : Ending.returned (.int k a) = .returned (.int k b) := by rw [h]

set_option maxHeartbeats 400000 in
theorem impl_IsFinite (x : Nat) (w : World) :
    Calls Tryz.prog 61 #[.float .f32 x] w fun e w' => e = .returned (.bool (finB x)) ∧ ∃ n, w' = w.drewN n := by
  go_enter Tryz.func61, Tryz.ntmps61
  go_wp2_with (refine wpList_farith _ _ _ _ _ rfl rfl rfl _ _ _ rfl rfl ?_; intro r n hr)
  go_ret
  exact ⟨ret_bool (finB_eq hr), _, rfl⟩
set_option maxHeartbeats 400000 in
theorem spec_l01Finite (x : Nat) (w : World) :
    Calls Tryz.prog 62 #[.float .f32 x] w fun e w' => e = .returned (.bool (finB x)) ∧ ∃ n, w' = w.drewN n := by
  go_enter Tryz.func62, Tryz.ntmps62
  go_wp2_with (refine wpList_farith _ _ _ _ _ rfl rfl rfl _ _ _ rfl rfl ?_; intro r n hr)
  go_ret
  exact ⟨ret_bool (finB_eq hr), _, rfl⟩
set_option maxHeartbeats 400000 in
theorem spec_IsFinite (x : Nat) (w : World) :
    Calls Tryz.prog 27 #[.float .f32 x] w fun e w' => e = .returned (.bool (finB x)) ∧ ∃ n, w' = w.drewN n := by
  go_enter Tryz.func27, Tryz.ntmps27
  go_wp2_with (go_at_call 62; refine (spec_l01Finite _ _).mono ?_; rintro e w' ⟨rfl, n, rfl⟩)
  go_ret
  exact ⟨rfl, _, rfl⟩

set_option maxHeartbeats 400000 in
theorem impl_BitsOf (x : Nat) (hx : x < 4294967296) (w : World) :
    Calls Tryz.prog 21 #[.float .f32 x] w fun e w' => e = .returned (.int .i64 (bitsB x)) ∧ w = w' := by
  have ho := order_self (k := .f32) (x := x)
  cases hn : (FloatKind.f32.format.read x).isNaN
  · have h1 : (FloatKind.f32.format.order x x != some .eq) = false := by rw [ho, hn]; rfl
    have h2 : bitsB x = x := by simp [bitsB, hn]
    have H := Lib.hid h2; clear h2 ho hn
    go_enter Tryz.func21, Tryz.ntmps21
    go_wp2
    go_ret
    exact ⟨ret_int H.out.symm, rfl⟩
  · have h1 : (FloatKind.f32.format.order x x != some .eq) = true := by rw [ho, hn]; rfl
    have h2 : bitsB x = 2143289344 := by simp [bitsB, hn]
    have H := Lib.hid h2; clear h2 ho hn
    go_enter Tryz.func21, Tryz.ntmps21
    go_wp2
    go_ret
    exact ⟨ret_int H.out.symm, rfl⟩
set_option maxHeartbeats 400000 in
theorem spec_l01Bits (x : Nat) (hx : x < 4294967296) (w : World) :
    Calls Tryz.prog 69 #[.float .f32 x] w fun e w' => e = .returned (.int .i64 (bitsB x)) ∧ w = w' := by
  have ho := order_self (k := .f32) (x := x)
  cases hn : (FloatKind.f32.format.read x).isNaN
  · have h1 : (FloatKind.f32.format.order x x != some .eq) = false := by rw [ho, hn]; rfl
    have h2 : bitsB x = x := by simp [bitsB, hn]
    have H := Lib.hid h2; clear h2 ho hn
    go_enter Tryz.func69, Tryz.ntmps69
    go_wp2
    go_ret
    exact ⟨ret_int H.out.symm, rfl⟩
  · have h1 : (FloatKind.f32.format.order x x != some .eq) = true := by rw [ho, hn]; rfl
    have h2 : bitsB x = 2143289344 := by simp [bitsB, hn]
    have H := Lib.hid h2; clear h2 ho hn
    go_enter Tryz.func69, Tryz.ntmps69
    go_wp2
    go_ret
    exact ⟨ret_int H.out.symm, rfl⟩
end Go.Proofs.YtkfhgjknmdlhbaaGreatDoor.WA
