/- Circles: products of phasors, by the kernel (0). -/
import Derived.Test.YtfnplomgicgenaaYa
namespace Go.Proofs.Ytfnplomgicgenaa.Yb0
open Go Ya
theorem n_0 : ((List.range 64).all (okN 0)) = true := by decide +kernel
theorem n_1 : ((List.range 64).all (okN 1)) = true := by decide +kernel
theorem n_2 : ((List.range 64).all (okN 2)) = true := by decide +kernel
theorem n_3 : ((List.range 64).all (okN 3)) = true := by decide +kernel
theorem n_4 : ((List.range 64).all (okN 4)) = true := by decide +kernel
theorem n_5 : ((List.range 64).all (okN 5)) = true := by decide +kernel
theorem n_6 : ((List.range 64).all (okN 6)) = true := by decide +kernel
theorem n_7 : ((List.range 64).all (okN 7)) = true := by decide +kernel
theorem n_8 : ((List.range 64).all (okN 8)) = true := by decide +kernel
theorem n_9 : ((List.range 64).all (okN 9)) = true := by decide +kernel
theorem n_10 : ((List.range 64).all (okN 10)) = true := by decide +kernel
theorem n_11 : ((List.range 64).all (okN 11)) = true := by decide +kernel
theorem n_12 : ((List.range 64).all (okN 12)) = true := by decide +kernel
theorem n_13 : ((List.range 64).all (okN 13)) = true := by decide +kernel
theorem n_14 : ((List.range 64).all (okN 14)) = true := by decide +kernel
theorem n_15 : ((List.range 64).all (okN 15)) = true := by decide +kernel
theorem all (m : Nat) (h0 : 0 ≤ m) (h1 : m < 16) : ((List.range 64).all (okN m)) = true := by
  rcases (show m = 0 ∨ m = 1 ∨ m = 2 ∨ m = 3 ∨ m = 4 ∨ m = 5 ∨ m = 6 ∨ m = 7 ∨ m = 8 ∨ m = 9 ∨ m = 10 ∨ m = 11 ∨ m = 12 ∨ m = 13 ∨ m = 14 ∨ m = 15 by omega) with rfl | rfl | rfl | rfl | rfl | rfl | rfl | rfl | rfl | rfl | rfl | rfl | rfl | rfl | rfl | rfl
  · exact n_0
  · exact n_1
  · exact n_2
  · exact n_3
  · exact n_4
  · exact n_5
  · exact n_6
  · exact n_7
  · exact n_8
  · exact n_9
  · exact n_10
  · exact n_11
  · exact n_12
  · exact n_13
  · exact n_14
  · exact n_15
end Go.Proofs.Ytfnplomgicgenaa.Yb0
