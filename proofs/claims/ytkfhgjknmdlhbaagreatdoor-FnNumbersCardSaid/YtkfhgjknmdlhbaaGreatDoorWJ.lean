/- The walks: the reference's sine; SineTurns. -/
import Derived.Test.YtkfhgjknmdlhbaaGreatDoorWI
namespace Go.Proofs.YtkfhgjknmdlhbaaGreatDoor.WJ
open Go.RowKit Fl Fs Fo Fw Fb Fm Ff Fz WA WB WH WI
theorem rr_zero (f : Ieee.Format) : Ft.rr f 0 0 = 0 := by
  have := Ft.rr_mag f 0 0 (Nat.zero_le _)
  rwa [Ft.mag_zero, Nat.zero_mul] at this
theorem sub_self {k : FloatKind} {x : Nat} (h : rung k.format x < k.format.infRung) : fop .sub k (fl k x) (fl k x) = some 0 := by
  rw [fl_le (Nat.le_of_lt h)]
  have e : fop .sub k (some x) (some x) = k.format.sub x x := rfl
  rw [e, sub_fin k.format (binade_le k) h h, Int.sub_self]
  have : sumNeg (sgn k.format x) (!sgn k.format x) 0 = false := by unfold sumNeg; cases sgn k.format x <;> rfl
  rw [this]
  show some (k.format.word false (Ft.rr k.format 0 0)) = some 0
  rw [rr_zero]; rfl
theorem self_ok {x d : Nat} (h : rung Ieee.double x < Ieee.double.infRung) (hd : FV .f64 (fop .sub .f64 (fl .f64 x) (fl .f64 x)) d) : (FloatKind.f64.format.order d 0 != some .eq) = false := by
  have e := sub_self (k := .f64) (x := x) h
  rw [e] at hd
  have : d = 0 := (fl_some hd.1).1.symm
  rw [this]; decide
theorem p_step3 {u p q e r : Nat} {j : Nat} {kk : Int} (hj : j < 8) (hkk : kk = 8 - (j : Int)) (hp : FV .f64 (pV (fl .f64 u) j) p)
    (hr : FV .f64 (fop .sub .f64 (fl .f64 4607182418800017408) (fl .f64 e)) r) (he : FV .f64 (fop .quo .f64 (fl .f64 q) (fl .f64 (floatOfInt .f64 (2 * kk * (2 * kk + 1))))) e)
    (hq : FV .f64 (fop .mul .f64 (fl .f64 u) (fl .f64 p)) q) : FV .f64 (pV (fl .f64 u) (j + 1)) r := by
  subst hkk
  exact p_step2 hp hr he hj hq
theorem prod_bd {kk : Int} (h0 : 1 ≤ kk) (h1 : kk ≤ 8) : 0 ≤ 2 * kk * (2 * kk + 1) ∧ 2 * kk * (2 * kk + 1) ≤ 272 := by
  have : kk = 1 ∨ kk = 2 ∨ kk = 3 ∨ kk = 4 ∨ kk = 5 ∨ kk = 6 ∨ kk = 7 ∨ kk = 8 := by omega
  rcases this with rfl | rfl | rfl | rfl | rfl | rfl | rfl | rfl <;> decide

end Go.Proofs.YtkfhgjknmdlhbaaGreatDoor.WJ