/- Circles: products of phasors, by the kernel (3). -/
import Derived.Test.YtfnplomgicgenaaYa
namespace Go.Proofs.Ytfnplomgicgenaa.Yb3
open Go Ya
theorem n_48 : ((List.range 64).all (okN 48)) = true := by decide +kernel
theorem n_49 : ((List.range 64).all (okN 49)) = true := by decide +kernel
theorem n_50 : ((List.range 64).all (okN 50)) = true := by decide +kernel
theorem n_51 : ((List.range 64).all (okN 51)) = true := by decide +kernel
theorem n_52 : ((List.range 64).all (okN 52)) = true := by decide +kernel
theorem n_53 : ((List.range 64).all (okN 53)) = true := by decide +kernel
theorem n_54 : ((List.range 64).all (okN 54)) = true := by decide +kernel
theorem n_55 : ((List.range 64).all (okN 55)) = true := by decide +kernel
theorem n_56 : ((List.range 64).all (okN 56)) = true := by decide +kernel
theorem n_57 : ((List.range 64).all (okN 57)) = true := by decide +kernel
theorem n_58 : ((List.range 64).all (okN 58)) = true := by decide +kernel
theorem n_59 : ((List.range 64).all (okN 59)) = true := by decide +kernel
theorem n_60 : ((List.range 64).all (okN 60)) = true := by decide +kernel
theorem n_61 : ((List.range 64).all (okN 61)) = true := by decide +kernel
theorem n_62 : ((List.range 64).all (okN 62)) = true := by decide +kernel
theorem n_63 : ((List.range 64).all (okN 63)) = true := by decide +kernel
theorem all (m : Nat) (h0 : 48 ≤ m) (h1 : m < 64) : ((List.range 64).all (okN m)) = true := by
  rcases (show m = 48 ∨ m = 49 ∨ m = 50 ∨ m = 51 ∨ m = 52 ∨ m = 53 ∨ m = 54 ∨ m = 55 ∨ m = 56 ∨ m = 57 ∨ m = 58 ∨ m = 59 ∨ m = 60 ∨ m = 61 ∨ m = 62 ∨ m = 63 by omega) with rfl | rfl | rfl | rfl | rfl | rfl | rfl | rfl | rfl | rfl | rfl | rfl | rfl | rfl | rfl | rfl
  · exact n_48
  · exact n_49
  · exact n_50
  · exact n_51
  · exact n_52
  · exact n_53
  · exact n_54
  · exact n_55
  · exact n_56
  · exact n_57
  · exact n_58
  · exact n_59
  · exact n_60
  · exact n_61
  · exact n_62
  · exact n_63
end Go.Proofs.Ytfnplomgicgenaa.Yb3
