/- The walks of seat a: numbers and their bits. -/
import Derived.Test.YtjkkfimkojmifaaDoorRows
import Derived.Test.YtjkkfimkojmifaaDoorFb
import Derived.Lib.Hide
namespace Go.Proofs.YtjkkfimkojmifaaDoor.WA
open Go.RowKit Fl Fw Fb

@[go_sem] theorem call_f32bits (x : Nat) (w : World) : (callFunc 77 #[.float .f32 x]).run Tryd.prog w = .ok (.value (.int .u32 x)) w := by
  rw [run_callFunc_extern (e := Go.Extern.MathFloatBits.float32bits) Tryd.func77 (by kernel_rfl) (by kernel_rfl) (by kernel_rfl) (by kernel_rfl)]; rfl
@[go_sem] theorem call_f32frombits (n : Int) (w : World) : (callFunc 71 #[.int .u32 n]).run Tryd.prog w = .ok (.value (.float .f32 n.toNat)) w := by
  rw [run_callFunc_extern (e := Go.Extern.MathFloatBits.float32frombits) Tryd.func71 (by kernel_rfl) (by kernel_rfl) (by kernel_rfl) (by kernel_rfl)]; rfl
/-- 'x - x == 0'. -/
def finB (x : Nat) : Bool := fcmp .f32 (fop .sub .f32 (fl .f32 x) (fl .f32 x)) (some 0) == some .eq
theorem finB_eq {x r : Nat} (h : FV .f32 (fop .sub .f32 (fl .f32 x) (fl .f32 x)) r) : (FloatKind.f32.format.order r 0 == some .eq) = finB x := by
  rw [order_fl, h.1, fl_zero]; rfl
theorem ret_bool {a b : Bool} (h : a = b) : Ending.returned (.bool a) = .returned (.bool b) := by rw [h]
theorem ret_int {k : IntKind} {a b : Int} (h : a = b) : Ending.returned (.int k a) = .returned (.int k b) := by rw [h]

set_option maxHeartbeats 400000 in
theorem impl_BitsOf (x : Nat) (hx : x < 4294967296) (w : World) :
    Calls Tryd.prog 60 #[.float .f32 x] w fun e w' => e = .returned (.int .i64 (bitsB x)) ∧ w = w' := by
  have ho := order_self (k := .f32) (x := x)
  cases hn : (FloatKind.f32.format.read x).isNaN
  · have h1 : (FloatKind.f32.format.order x x != some .eq) = false := by rw [ho, hn]; rfl
    have h2 : bitsB x = x := by simp [bitsB, hn]
    have H := Lib.hid h2; clear h2 ho hn
    go_enter Tryd.func60, Tryd.ntmps60
    go_wp2
    go_ret
    exact ⟨ret_int H.out.symm, rfl⟩
  · have h1 : (FloatKind.f32.format.order x x != some .eq) = true := by rw [ho, hn]; rfl
    have h2 : bitsB x = 2143289344 := by simp [bitsB, hn]
    have H := Lib.hid h2; clear h2 ho hn
    go_enter Tryd.func60, Tryd.ntmps60
    go_wp2
    go_ret
    exact ⟨ret_int H.out.symm, rfl⟩
set_option maxHeartbeats 400000 in
theorem spec_l01Bits (x : Nat) (hx : x < 4294967296) (w : World) :
    Calls Tryd.prog 68 #[.float .f32 x] w fun e w' => e = .returned (.int .i64 (bitsB x)) ∧ w = w' := by
  have ho := order_self (k := .f32) (x := x)
  cases hn : (FloatKind.f32.format.read x).isNaN
  · have h1 : (FloatKind.f32.format.order x x != some .eq) = false := by rw [ho, hn]; rfl
    have h2 : bitsB x = x := by simp [bitsB, hn]
    have H := Lib.hid h2; clear h2 ho hn
    go_enter Tryd.func68, Tryd.ntmps68
    go_wp2
    go_ret
    exact ⟨ret_int H.out.symm, rfl⟩
  · have h1 : (FloatKind.f32.format.order x x != some .eq) = true := by rw [ho, hn]; rfl
    have h2 : bitsB x = 2143289344 := by simp [bitsB, hn]
    have H := Lib.hid h2; clear h2 ho hn
    go_enter Tryd.func68, Tryd.ntmps68
    go_wp2
    go_ret
    exact ⟨ret_int H.out.symm, rfl⟩
end Go.Proofs.YtjkkfimkojmifaaDoor.WA
