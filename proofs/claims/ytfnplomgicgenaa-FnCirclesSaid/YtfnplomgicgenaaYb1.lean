/- Circles: products of phasors, by the kernel (1). -/
import Derived.Test.YtfnplomgicgenaaYa
namespace Go.Proofs.Ytfnplomgicgenaa.Yb1
open Go Ya
theorem n_16 : ((List.range 64).all (okN 16)) = true := by decide +kernel
theorem n_17 : ((List.range 64).all (okN 17)) = true := by decide +kernel
theorem n_18 : ((List.range 64).all (okN 18)) = true := by decide +kernel
theorem n_19 : ((List.range 64).all (okN 19)) = true := by decide +kernel
theorem n_20 : ((List.range 64).all (okN 20)) = true := by decide +kernel
theorem n_21 : ((List.range 64).all (okN 21)) = true := by decide +kernel
theorem n_22 : ((List.range 64).all (okN 22)) = true := by decide +kernel
theorem n_23 : ((List.range 64).all (okN 23)) = true := by decide +kernel
theorem n_24 : ((List.range 64).all (okN 24)) = true := by decide +kernel
theorem n_25 : ((List.range 64).all (okN 25)) = true := by decide +kernel
theorem n_26 : ((List.range 64).all (okN 26)) = true := by decide +kernel
theorem n_27 : ((List.range 64).all (okN 27)) = true := by decide +kernel
theorem n_28 : ((List.range 64).all (okN 28)) = true := by decide +kernel
theorem n_29 : ((List.range 64).all (okN 29)) = true := by decide +kernel
theorem n_30 : ((List.range 64).all (okN 30)) = true := by decide +kernel
theorem n_31 : ((List.range 64).all (okN 31)) = true := by decide +kernel
theorem all (m : Nat) (h0 : 16 ≤ m) (h1 : m < 32) : ((List.range 64).all (okN m)) = true := by
  rcases (show m = 16 ∨ m = 17 ∨ m = 18 ∨ m = 19 ∨ m = 20 ∨ m = 21 ∨ m = 22 ∨ m = 23 ∨ m = 24 ∨ m = 25 ∨ m = 26 ∨ m = 27 ∨ m = 28 ∨ m = 29 ∨ m = 30 ∨ m = 31 by omega) with rfl | rfl | rfl | rfl | rfl | rfl | rfl | rfl | rfl | rfl | rfl | rfl | rfl | rfl | rfl | rfl
  · exact n_16
  · exact n_17
  · exact n_18
  · exact n_19
  · exact n_20
  · exact n_21
  · exact n_22
  · exact n_23
  · exact n_24
  · exact n_25
  · exact n_26
  · exact n_27
  · exact n_28
  · exact n_29
  · exact n_30
  · exact n_31
end Go.Proofs.Ytfnplomgicgenaa.Yb1
