/- Circles: products of phasors, by the kernel (2). -/
import Derived.Test.YtfnplomgicgenaaYa
namespace Go.Proofs.Ytfnplomgicgenaa.Yb2
open Go Ya
theorem n_32 : ((List.range 64).all (okN 32)) = true := by decide +kernel
theorem n_33 : ((List.range 64).all (okN 33)) = true := by decide +kernel
theorem n_34 : ((List.range 64).all (okN 34)) = true := by decide +kernel
theorem n_35 : ((List.range 64).all (okN 35)) = true := by decide +kernel
theorem n_36 : ((List.range 64).all (okN 36)) = true := by decide +kernel
theorem n_37 : ((List.range 64).all (okN 37)) = true := by decide +kernel
theorem n_38 : ((List.range 64).all (okN 38)) = true := by decide +kernel
theorem n_39 : ((List.range 64).all (okN 39)) = true := by decide +kernel
theorem n_40 : ((List.range 64).all (okN 40)) = true := by decide +kernel
theorem n_41 : ((List.range 64).all (okN 41)) = true := by decide +kernel
theorem n_42 : ((List.range 64).all (okN 42)) = true := by decide +kernel
theorem n_43 : ((List.range 64).all (okN 43)) = true := by decide +kernel
theorem n_44 : ((List.range 64).all (okN 44)) = true := by decide +kernel
theorem n_45 : ((List.range 64).all (okN 45)) = true := by decide +kernel
theorem n_46 : ((List.range 64).all (okN 46)) = true := by decide +kernel
theorem n_47 : ((List.range 64).all (okN 47)) = true := by decide +kernel
theorem all (m : Nat) (h0 : 32 ≤ m) (h1 : m < 48) : ((List.range 64).all (okN m)) = true := by
  rcases (show m = 32 ∨ m = 33 ∨ m = 34 ∨ m = 35 ∨ m = 36 ∨ m = 37 ∨ m = 38 ∨ m = 39 ∨ m = 40 ∨ m = 41 ∨ m = 42 ∨ m = 43 ∨ m = 44 ∨ m = 45 ∨ m = 46 ∨ m = 47 by omega) with rfl | rfl | rfl | rfl | rfl | rfl | rfl | rfl | rfl | rfl | rfl | rfl | rfl | rfl | rfl | rfl
  · exact n_32
  · exact n_33
  · exact n_34
  · exact n_35
  · exact n_36
  · exact n_37
  · exact n_38
  · exact n_39
  · exact n_40
  · exact n_41
  · exact n_42
  · exact n_43
  · exact n_44
  · exact n_45
  · exact n_46
  · exact n_47
end Go.Proofs.Ytfnplomgicgenaa.Yb2
