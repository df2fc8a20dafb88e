/- For any two byte strings, the law FnCircles answers true; no condition. -/
import Derived.Test.YtfnplomgicgenaaRows
import Derived.Test.YtfnplomgicgenaaYf
import Derived.Test.YtfnplomgicgenaaMg
import Derived.WalkKit
import Derived.ProofKit
import Derived.OpenShut
namespace Go.Proofs.Ytfnplomgicgenaa.LY
open Go.ChangeShapes Go Go.WideShapes Go.ChangeAt Go.RowKit Fl Fs Fo Fw WA WB WH WI WK Fx WL WM WN WP WQ WR WS Md Mg Xc Ye Yf
open Ya (tT reT imT awT tuT whT wiT)
open Yc (pw)
set_option linter.unusedVariables false
theorem own : ownKnob Try.prog.godebug = none := by kernel_rfl
theorem laidOut : laidOutB Try.prog = true := by kernel_rfl
theorem cells_u8 : Try.prog.cellsOf 5 = 1 := by kernel_rfl
set_option maxRecDepth 100000 in
set_option maxHeartbeats 8000000 in
theorem fnCircles_walk (A0 : Option Addr) (c0 : Nat) (x0 : List Nat) (A1 : Option Addr) (c1 : Nat) (x1 : List Nat) (w : World) (h0 : RdB w w.heap.size A0 x0) (h1 : RdB w w.heap.size A1 x1) :
    Calls Try.prog 12 #[.slice A0 x0.length c0, .slice A1 x1.length c1] w fun e w' => e = .returned (.bool true) ∧ Below w.heap.size w w' := by
  have H0 := Lib.hid h0
  have H1 := Lib.hid h1
  clear h0 h1
  by_cases hl : x0.length ≤ 1048576 ∧ x1.length ≤ 1048576
  · obtain ⟨hl0, hl1⟩ := hl
    go_enter Try.func12, Try.ntmps12
    go_wp2_with fail
    refine (b10Long_no _ _ _ _ _ _ hl0 hl1 _).mono ?_
    rintro e w ⟨rfl, rfl⟩
    go_wp2_with fail
    refine (b10At_any x0 _ _ 0 256 (by omega) (by omega) (by omega) (by omega) _ _ (by exact H0.out) hl0).mono ?_
    rintro e w' ⟨i, hi, rfl, rfl⟩
    go_wp2_with fail
    refine (b10At_any x0 _ _ 1 256 (by omega) (by omega) (by omega) (by omega) _ _ (by exact H0.out) hl0).mono ?_
    rintro e w' ⟨j, hj, rfl, rfl⟩
    go_wp2_with (refine wpList_farith _ _ _ _ _ rfl rfl rfl _ _ _ rfl rfl ?_); intro x nx hx
    have HX := Lib.hid (x_turn (k := i + 128) (by omega) (by omega) hx)
    have LX := Lib.hid hx.2
    clear hx
    go_wp2_with fail
    refine (impl_PhasorOf x LX.out _).mono ?_
    rintro e w' ⟨a, b, na, ha, rfl, rfl⟩
    have HPX := Lib.hid (ph (k := i + 128) (by omega) HX.out ha)
    clear ha
    go_wp2_with (refine wpList_farith _ _ _ _ _ rfl rfl rfl _ _ _ rfl rfl ?_); intro y ny hy
    have HY := Lib.hid (x_turn (k := j + 128) (by omega) (by omega) hy)
    have LY := Lib.hid hy.2
    clear hy
    go_wp2_with fail
    refine (impl_PhasorOf y LY.out _).mono ?_
    rintro e w' ⟨c, d, nc, hc, rfl, rfl⟩
    have HPY := Lib.hid (ph (k := j + 128) (by omega) HY.out hc)
    clear hc
    go_wp2_with (refine wpList_farith _ _ _ _ _ rfl rfl rfl _ _ _ rfl rfl ?_); intro z nz hz
    have HZ := Lib.hid (x_turn (k := i + j) (by omega) (by omega) hz)
    have LZ := Lib.hid hz.2
    clear hz
    go_wp2_with fail
    refine (impl_PhasorOf z LZ.out _).mono ?_
    rintro e w' ⟨e1, f1, ne1, he1, rfl, rfl⟩
    have HPZ := Lib.hid (ph (k := i + j) (by omega) HZ.out he1)
    clear he1
    go_wp2_with fail
    refine (impl_AngleOf a b _).mono ?_
    rintro e w' ⟨g, ng, hg, rfl, rfl⟩
    have HGA := Lib.hid hg
    clear hg
    go_wp2_with (refine wpList_fconv _ _ _ rfl rfl .f32 .f64 (by decide) _ rfl (by rw [Try.underlying22]; rfl) Try.underlying25 ?_); intro u nu hu
    go_wp2_with (refine wpList_farith _ _ _ _ _ rfl rfl rfl _ _ _ rfl rfl ?_); intro v nv hv
    have HV := Lib.hid (show fl .f64 v = some (awT (i % 64)) by
      have := ang_ok (m := (i + 128) % 64) (Nat.mod_lt _ (by omega)) HPX.out.1 HPX.out.2 HGA.out hu hv
      rwa [show (i + 128) % 64 = i % 64 by omega] at this)
    clear hu hv
    go_wp2_with (refine wpList_farith _ _ _ _ _ rfl rfl rfl _ _ _ rfl rfl ?_); intro t nt ht
    have HT := Lib.hid (turn_ok (i := i) (by omega) (by omega) HV.out ht)
    clear ht
    go_wp2_with (refine wpList_farith _ _ _ _ _ rfl rfl rfl _ _ _ rfl rfl ?_); intro s ns hs
    have hcv := conv_fact (whole_ok (i := i) (by omega) HT.out hs)
    clear hs
    have HW := Lib.hid (show -1000 ≤ wiT i ∧ wiT i ≤ 100000 ∧ (wiT i - 10000).tmod 64 = 0 from ⟨(am (i := i) (by omega)).lo, (am (i := i) (by omega)).hi, (am (i := i) (by omega)).r⟩)
    generalize hW : wiT i = W at hcv HW
    have HWE := Lib.hid hW
    clear hW
    have hw0 := HW.out.1
    have hw1 := HW.out.2.1
    have hw2 := HW.out.2.2
    go_wp2_with fail
    refine (impl_PowerOf a b _).mono ?_
    rintro e w' ⟨p, np, hp, rfl, rfl⟩
    go_wp2_with (refine wpList_fconv _ _ _ rfl rfl .f32 .f64 (by decide) _ rfl (by rw [Try.underlying22]; rfl) Try.underlying25 ?_); intro q nq hq
    go_wp2_with fail
    refine (b10Gap_any q 4607182418800017408 _).mono ?_
    rintro e w' ⟨g1, ng1, hg1, rfl, rfl⟩
    have ht1 := pow_ok (m := (i + 128) % 64) (Nat.mod_lt _ (by omega)) HPX.out.1 HPX.out.2 hp hq hg1
    clear hp hq hg1
    go_wp2_with fail
    refine (impl_MulComplex a b c d _).mono ?_
    rintro e w' ⟨r1, s1, nr1, ⟨hr1, hs1⟩, rfl, rfl⟩
    have HN := Lib.hid (near_ok (m := (i + 128) % 64) (n := (j + 128) % 64) (e := e1) (f := f1) (Nat.mod_lt _ (by omega)) (Nat.mod_lt _ (by omega)) HPX.out.1 HPX.out.2 HPY.out.1 HPY.out.2
      (by rw [show ((i + 128) % 64 + (j + 128) % 64) % 64 = (i + j) % 64 by omega]; exact HPZ.out.1) (by rw [show ((i + 128) % 64 + (j + 128) % 64) % 64 = (i + j) % 64 by omega]; exact HPZ.out.2) hr1 hs1)
    clear hr1 hs1
    go_wp2_with fail
    refine (b10Near_yes r1 s1 e1 f1 4547007122018943789 HN.out.1 HN.out.2 _).mono ?_
    rintro e w' ⟨rfl, k1, rfl⟩
    go_wp2_with fail
    refine (b10Gap_any t _ _).mono ?_
    rintro e w' ⟨g2, ng2, hg2, rfl, rfl⟩
    have ht2 := gap_ok (i := i) (by omega) (by rw [HWE.out]) HT.out hg2
    clear hg2
    clear hcv
    by_cases h16 : ((i : Int) - 128).tmod 16 = 0
    · have HS := Lib.hid (side (m := (i + 128) % 64) (Nat.mod_lt _ (by omega)) (by have := Int.dvd_of_tmod_eq_zero h16; omega) HPX.out.1)
      have h16b : (((i : Int) - 128).tmod 16 == 0) = true := by simpa using h16
      rcases HS.out with hs0 | hs0
      · go_wp2_with (refine wpList_fconv _ _ _ rfl rfl .f32 .f64 (by decide) _ rfl (by rw [Try.underlying22]; rfl) Try.underlying25 ?_); intro y5 ny5 hy5
        go_wp2_with fail
        refine (b10Gap_any y5 0 _).mono ?_
        rintro e w' ⟨g5, ng5, hg5, rfl, rfl⟩
        have ht5 := hs0 y5 g5 hy5 hg5
        clear hs0 hy5 hg5 h16
        go_wp2_with fail
        refine (b10At_any x1 _ _ 0 200 (by omega) (by omega) (by omega) (by omega) _ _ (by exact H1.out) hl1).mono ?_
        rintro e w' ⟨k, hk, rfl, rfl⟩
        go_wp2_with (refine wpList_farith _ _ _ _ _ rfl rfl rfl _ _ _ rfl rfl ?_); intro x8 nx8 hx8
        have HX8 := Lib.hid (x_eighth (i := k) (by omega) (by omega) hx8)
        clear hx8
        go_wp2_with fail
        refine (b10At_any x1 _ _ 1 200 (by omega) (by omega) (by omega) (by omega) _ _ (by exact H1.out) hl1).mono ?_
        rintro e w' ⟨l, hl', rfl, rfl⟩
        go_wp2_with (refine wpList_farith _ _ _ _ _ rfl rfl rfl _ _ _ rfl rfl ?_); intro y8 ny8 hy8
        have HY8 := Lib.hid (x_eighth (i := l) (by omega) (by omega) hy8)
        clear hy8
        have HKX := Lib.hid (pw_ok (inS8 (i := k) (by omega)))
        have HKY := Lib.hid (pw_ok (inS8 (i := l) (by omega)))
        have HKP := Lib.hid (pw_ok (inSm (i := k) (j := l) (by omega) (by omega)))
        go_wp2_with fail
        refine (impl_TenthsOf_yes x8 (by rw [HX8.out]; exact HKX.out.1) _).mono ?_
        rintro e w' ⟨m1, nm1, hm1, rfl, rfl⟩
        have HM := Lib.hid (HKX.out.2.2 m1 (by rw [← HX8.out]; exact hm1))
        clear hm1
        go_wp2_with fail
        refine (impl_TenthsOf_yes y8 (by rw [HY8.out]; exact HKY.out.1) _).mono ?_
        rintro e w' ⟨n1, nn1, hn1, rfl, rfl⟩
        have HNN := Lib.hid (HKY.out.2.2 n1 (by rw [← HY8.out]; exact hn1))
        clear hn1
        go_wp2_with (refine wpList_farith _ _ _ _ _ rfl rfl rfl _ _ _ rfl rfl ?_); intro z8 nz8 hz8
        have HZ8 := Lib.hid (x_prod (i := k) (j := l) (by omega) (by omega) HX8.out HY8.out hz8)
        clear hz8
        go_wp2_with fail
        refine (impl_TenthsOf_yes z8 (by rw [HZ8.out]; exact HKP.out.1) _).mono ?_
        rintro e w' ⟨q1, nq1, hq1, rfl, rfl⟩
        have HQ := Lib.hid (HKP.out.2.2 q1 (by rw [← HZ8.out]; exact hq1))
        clear hq1
        go_wp2_with fail
        refine (impl_TenthsOf_yes 1065353216 one_norm _).mono ?_
        rintro e w' ⟨z1, nz1, hz1, rfl, rfl⟩
        obtain rfl := r_one hz1
        clear hz1
        obtain ⟨s1, s2⟩ := r_sum (by omega) (by omega) HM.out HNN.out HQ.out
        have b1 := (r_lo HM.out).1
        have b2 := (r_lo HNN.out).1
        have b3 := (r_lo HQ.out).1
        have b4 := r_hi (by omega) HM.out
        have b5 := r_hi (by omega) HNN.out
        have b6 := r_hi (Nat.le_trans (Nat.mul_le_mul (show k + 1 ≤ 200 by omega) (show l + 1 ≤ 200 by omega)) (by omega)) HQ.out
        have d1 : decide (m1 + n1 - q1 ≤ 1) = true := decide_eq_true s1
        have d2 : decide (q1 - m1 - n1 ≤ 1) = true := decide_eq_true s2
        go_wp2_with fail
        refine (impl_AngleOf 0 1065353216 _).mono ?_
        rintro e w' ⟨r9, nr9, hr9, rfl, rfl⟩
        obtain rfl := not_zero hr9
        clear hr9
        go_wp2_with fail
        refine (spec_SameNumber 1048576000 0 (by decide) (by decide) _).mono ?_
        rintro e w' ⟨rfl, rfl⟩
        have ds : sameB 1048576000 0 = false := by decide +kernel
        go_wp2
        go_ret
        exact ⟨rfl, upd (Below.refl _ _)⟩
      · go_wp2_with (refine wpList_fconv _ _ _ rfl rfl .f32 .f64 (by decide) _ rfl (by rw [Try.underlying22]; rfl) Try.underlying25 ?_); intro y5 ny5 hy5
        go_wp2_with fail
        refine (b10Gap_any y5 0 _).mono ?_
        rintro e w' ⟨g5, ng5, hg5, rfl, rfl⟩
        clear hy5 hg5
        cases hb : (FloatKind.f64.format.order g5 0 != some .eq)
        · clear hs0 h16
          go_wp2_with fail
          refine (b10At_any x1 _ _ 0 200 (by omega) (by omega) (by omega) (by omega) _ _ (by exact H1.out) hl1).mono ?_
          rintro e w' ⟨k, hk, rfl, rfl⟩
          go_wp2_with (refine wpList_farith _ _ _ _ _ rfl rfl rfl _ _ _ rfl rfl ?_); intro x8 nx8 hx8
          have HX8 := Lib.hid (x_eighth (i := k) (by omega) (by omega) hx8)
          clear hx8
          go_wp2_with fail
          refine (b10At_any x1 _ _ 1 200 (by omega) (by omega) (by omega) (by omega) _ _ (by exact H1.out) hl1).mono ?_
          rintro e w' ⟨l, hl', rfl, rfl⟩
          go_wp2_with (refine wpList_farith _ _ _ _ _ rfl rfl rfl _ _ _ rfl rfl ?_); intro y8 ny8 hy8
          have HY8 := Lib.hid (x_eighth (i := l) (by omega) (by omega) hy8)
          clear hy8
          have HKX := Lib.hid (pw_ok (inS8 (i := k) (by omega)))
          have HKY := Lib.hid (pw_ok (inS8 (i := l) (by omega)))
          have HKP := Lib.hid (pw_ok (inSm (i := k) (j := l) (by omega) (by omega)))
          go_wp2_with fail
          refine (impl_TenthsOf_yes x8 (by rw [HX8.out]; exact HKX.out.1) _).mono ?_
          rintro e w' ⟨m1, nm1, hm1, rfl, rfl⟩
          have HM := Lib.hid (HKX.out.2.2 m1 (by rw [← HX8.out]; exact hm1))
          clear hm1
          go_wp2_with fail
          refine (impl_TenthsOf_yes y8 (by rw [HY8.out]; exact HKY.out.1) _).mono ?_
          rintro e w' ⟨n1, nn1, hn1, rfl, rfl⟩
          have HNN := Lib.hid (HKY.out.2.2 n1 (by rw [← HY8.out]; exact hn1))
          clear hn1
          go_wp2_with (refine wpList_farith _ _ _ _ _ rfl rfl rfl _ _ _ rfl rfl ?_); intro z8 nz8 hz8
          have HZ8 := Lib.hid (x_prod (i := k) (j := l) (by omega) (by omega) HX8.out HY8.out hz8)
          clear hz8
          go_wp2_with fail
          refine (impl_TenthsOf_yes z8 (by rw [HZ8.out]; exact HKP.out.1) _).mono ?_
          rintro e w' ⟨q1, nq1, hq1, rfl, rfl⟩
          have HQ := Lib.hid (HKP.out.2.2 q1 (by rw [← HZ8.out]; exact hq1))
          clear hq1
          go_wp2_with fail
          refine (impl_TenthsOf_yes 1065353216 one_norm _).mono ?_
          rintro e w' ⟨z1, nz1, hz1, rfl, rfl⟩
          obtain rfl := r_one hz1
          clear hz1
          obtain ⟨s1, s2⟩ := r_sum (by omega) (by omega) HM.out HNN.out HQ.out
          have b1 := (r_lo HM.out).1
          have b2 := (r_lo HNN.out).1
          have b3 := (r_lo HQ.out).1
          have b4 := r_hi (by omega) HM.out
          have b5 := r_hi (by omega) HNN.out
          have b6 := r_hi (Nat.le_trans (Nat.mul_le_mul (show k + 1 ≤ 200 by omega) (show l + 1 ≤ 200 by omega)) (by omega)) HQ.out
          have d1 : decide (m1 + n1 - q1 ≤ 1) = true := decide_eq_true s1
          have d2 : decide (q1 - m1 - n1 ≤ 1) = true := decide_eq_true s2
          go_wp2_with fail
          refine (impl_AngleOf 0 1065353216 _).mono ?_
          rintro e w' ⟨r9, nr9, hr9, rfl, rfl⟩
          obtain rfl := not_zero hr9
          clear hr9
          go_wp2_with fail
          refine (spec_SameNumber 1048576000 0 (by decide) (by decide) _).mono ?_
          rintro e w' ⟨rfl, rfl⟩
          have ds : sameB 1048576000 0 = false := by decide +kernel
          go_wp2
          go_ret
          exact ⟨rfl, upd (Below.refl _ _)⟩
        · go_wp2_with (refine wpList_fconv _ _ _ rfl rfl .f32 .f64 (by decide) _ rfl (by rw [Try.underlying22]; rfl) Try.underlying25 ?_); intro y6 ny6 hy6
          go_wp2_with fail
          refine (b10Gap_any y6 0 _).mono ?_
          rintro e w' ⟨g6, ng6, hg6, rfl, rfl⟩
          have ht6 := hs0 y6 g6 hy6 hg6
          clear hs0 hy6 hg6 h16
          go_wp2_with fail
          refine (b10At_any x1 _ _ 0 200 (by omega) (by omega) (by omega) (by omega) _ _ (by exact H1.out) hl1).mono ?_
          rintro e w' ⟨k, hk, rfl, rfl⟩
          go_wp2_with (refine wpList_farith _ _ _ _ _ rfl rfl rfl _ _ _ rfl rfl ?_); intro x8 nx8 hx8
          have HX8 := Lib.hid (x_eighth (i := k) (by omega) (by omega) hx8)
          clear hx8
          go_wp2_with fail
          refine (b10At_any x1 _ _ 1 200 (by omega) (by omega) (by omega) (by omega) _ _ (by exact H1.out) hl1).mono ?_
          rintro e w' ⟨l, hl', rfl, rfl⟩
          go_wp2_with (refine wpList_farith _ _ _ _ _ rfl rfl rfl _ _ _ rfl rfl ?_); intro y8 ny8 hy8
          have HY8 := Lib.hid (x_eighth (i := l) (by omega) (by omega) hy8)
          clear hy8
          have HKX := Lib.hid (pw_ok (inS8 (i := k) (by omega)))
          have HKY := Lib.hid (pw_ok (inS8 (i := l) (by omega)))
          have HKP := Lib.hid (pw_ok (inSm (i := k) (j := l) (by omega) (by omega)))
          go_wp2_with fail
          refine (impl_TenthsOf_yes x8 (by rw [HX8.out]; exact HKX.out.1) _).mono ?_
          rintro e w' ⟨m1, nm1, hm1, rfl, rfl⟩
          have HM := Lib.hid (HKX.out.2.2 m1 (by rw [← HX8.out]; exact hm1))
          clear hm1
          go_wp2_with fail
          refine (impl_TenthsOf_yes y8 (by rw [HY8.out]; exact HKY.out.1) _).mono ?_
          rintro e w' ⟨n1, nn1, hn1, rfl, rfl⟩
          have HNN := Lib.hid (HKY.out.2.2 n1 (by rw [← HY8.out]; exact hn1))
          clear hn1
          go_wp2_with (refine wpList_farith _ _ _ _ _ rfl rfl rfl _ _ _ rfl rfl ?_); intro z8 nz8 hz8
          have HZ8 := Lib.hid (x_prod (i := k) (j := l) (by omega) (by omega) HX8.out HY8.out hz8)
          clear hz8
          go_wp2_with fail
          refine (impl_TenthsOf_yes z8 (by rw [HZ8.out]; exact HKP.out.1) _).mono ?_
          rintro e w' ⟨q1, nq1, hq1, rfl, rfl⟩
          have HQ := Lib.hid (HKP.out.2.2 q1 (by rw [← HZ8.out]; exact hq1))
          clear hq1
          go_wp2_with fail
          refine (impl_TenthsOf_yes 1065353216 one_norm _).mono ?_
          rintro e w' ⟨z1, nz1, hz1, rfl, rfl⟩
          obtain rfl := r_one hz1
          clear hz1
          obtain ⟨s1, s2⟩ := r_sum (by omega) (by omega) HM.out HNN.out HQ.out
          have b1 := (r_lo HM.out).1
          have b2 := (r_lo HNN.out).1
          have b3 := (r_lo HQ.out).1
          have b4 := r_hi (by omega) HM.out
          have b5 := r_hi (by omega) HNN.out
          have b6 := r_hi (Nat.le_trans (Nat.mul_le_mul (show k + 1 ≤ 200 by omega) (show l + 1 ≤ 200 by omega)) (by omega)) HQ.out
          have d1 : decide (m1 + n1 - q1 ≤ 1) = true := decide_eq_true s1
          have d2 : decide (q1 - m1 - n1 ≤ 1) = true := decide_eq_true s2
          go_wp2_with fail
          refine (impl_AngleOf 0 1065353216 _).mono ?_
          rintro e w' ⟨r9, nr9, hr9, rfl, rfl⟩
          obtain rfl := not_zero hr9
          clear hr9
          go_wp2_with fail
          refine (spec_SameNumber 1048576000 0 (by decide) (by decide) _).mono ?_
          rintro e w' ⟨rfl, rfl⟩
          have ds : sameB 1048576000 0 = false := by decide +kernel
          go_wp2
          go_ret
          exact ⟨rfl, upd (Below.refl _ _)⟩
    · have h16' : (((i : Int) - 128).tmod 16 == 0) = false := by simpa using h16
      clear h16
      go_wp2_with fail
      refine (b10At_any x1 _ _ 0 200 (by omega) (by omega) (by omega) (by omega) _ _ (by exact H1.out) hl1).mono ?_
      rintro e w' ⟨k, hk, rfl, rfl⟩
      go_wp2_with (refine wpList_farith _ _ _ _ _ rfl rfl rfl _ _ _ rfl rfl ?_); intro x8 nx8 hx8
      have HX8 := Lib.hid (x_eighth (i := k) (by omega) (by omega) hx8)
      clear hx8
      go_wp2_with fail
      refine (b10At_any x1 _ _ 1 200 (by omega) (by omega) (by omega) (by omega) _ _ (by exact H1.out) hl1).mono ?_
      rintro e w' ⟨l, hl', rfl, rfl⟩
      go_wp2_with (refine wpList_farith _ _ _ _ _ rfl rfl rfl _ _ _ rfl rfl ?_); intro y8 ny8 hy8
      have HY8 := Lib.hid (x_eighth (i := l) (by omega) (by omega) hy8)
      clear hy8
      have HKX := Lib.hid (pw_ok (inS8 (i := k) (by omega)))
      have HKY := Lib.hid (pw_ok (inS8 (i := l) (by omega)))
      have HKP := Lib.hid (pw_ok (inSm (i := k) (j := l) (by omega) (by omega)))
      go_wp2_with fail
      refine (impl_TenthsOf_yes x8 (by rw [HX8.out]; exact HKX.out.1) _).mono ?_
      rintro e w' ⟨m1, nm1, hm1, rfl, rfl⟩
      have HM := Lib.hid (HKX.out.2.2 m1 (by rw [← HX8.out]; exact hm1))
      clear hm1
      go_wp2_with fail
      refine (impl_TenthsOf_yes y8 (by rw [HY8.out]; exact HKY.out.1) _).mono ?_
      rintro e w' ⟨n1, nn1, hn1, rfl, rfl⟩
      have HNN := Lib.hid (HKY.out.2.2 n1 (by rw [← HY8.out]; exact hn1))
      clear hn1
      go_wp2_with (refine wpList_farith _ _ _ _ _ rfl rfl rfl _ _ _ rfl rfl ?_); intro z8 nz8 hz8
      have HZ8 := Lib.hid (x_prod (i := k) (j := l) (by omega) (by omega) HX8.out HY8.out hz8)
      clear hz8
      go_wp2_with fail
      refine (impl_TenthsOf_yes z8 (by rw [HZ8.out]; exact HKP.out.1) _).mono ?_
      rintro e w' ⟨q1, nq1, hq1, rfl, rfl⟩
      have HQ := Lib.hid (HKP.out.2.2 q1 (by rw [← HZ8.out]; exact hq1))
      clear hq1
      go_wp2_with fail
      refine (impl_TenthsOf_yes 1065353216 one_norm _).mono ?_
      rintro e w' ⟨z1, nz1, hz1, rfl, rfl⟩
      obtain rfl := r_one hz1
      clear hz1
      obtain ⟨s1, s2⟩ := r_sum (by omega) (by omega) HM.out HNN.out HQ.out
      have b1 := (r_lo HM.out).1
      have b2 := (r_lo HNN.out).1
      have b3 := (r_lo HQ.out).1
      have b4 := r_hi (by omega) HM.out
      have b5 := r_hi (by omega) HNN.out
      have b6 := r_hi (Nat.le_trans (Nat.mul_le_mul (show k + 1 ≤ 200 by omega) (show l + 1 ≤ 200 by omega)) (by omega)) HQ.out
      have d1 : decide (m1 + n1 - q1 ≤ 1) = true := decide_eq_true s1
      have d2 : decide (q1 - m1 - n1 ≤ 1) = true := decide_eq_true s2
      go_wp2_with fail
      refine (impl_AngleOf 0 1065353216 _).mono ?_
      rintro e w' ⟨r9, nr9, hr9, rfl, rfl⟩
      obtain rfl := not_zero hr9
      clear hr9
      go_wp2_with fail
      refine (spec_SameNumber 1048576000 0 (by decide) (by decide) _).mono ?_
      rintro e w' ⟨rfl, rfl⟩
      have ds : sameB 1048576000 0 = false := by decide +kernel
      go_wp2
      go_ret
      exact ⟨rfl, upd (Below.refl _ _)⟩
  · go_enter Try.func12, Try.ntmps12
    go_wp2_with fail
    refine (b10Long_yes _ _ _ _ _ _ hl _).mono ?_
    rintro e w ⟨rfl, rfl⟩
    go_wp2
    go_ret
    exact ⟨rfl, Below.refl _ _⟩
set_option maxRecDepth 100000 in
theorem fnCircles_lifted (os : Os) (started : os.Started) (H : Type) (enc : TypeId × Value → H) :
    ReturnsInHanded {} Try.checked os 12 .any (Rows.fnCirclesSpec.pre6 enc Try.prog Try.f12 Rows.fnCirclesRow.domain false) (Rows.fnCirclesSpec.post enc Try.prog Try.f12 false true false false) := by
  refine returnsInHanded_of_change (C := Try.checked) own started (by kernel_rfl) Try.func12
    (ChangeSpec.witness6 (enc := enc) (C := Try.checked) false ⟨#[], #[.slice none 0 0, .slice none 0 0], []⟩ 8 (by kernel_rfl) (by kernel_rfl) (by kernel_rfl) (by kernel_rfl)) ?_
  intro W base args ds gs before hval0 hW hcnd hsz
  have hval : ∀ (j : Nat) t v, Try.f12.params[j]? = some t → args[j]? = some v → Value.okWide Try.prog W .any base t v := hval0
  have hW' := hW
  obtain ⟨p, q, hA0, hV, rfl, hfz, hnd⟩ := hW
  have hA : DataW.TrodAll enc Try.prog W 0 (fun _ => true) true Try.f12.params.toList args.toList ds p := hA0
  rw [Try.params12] at hA hval
  obtain ⟨v0, vs0, d0, ds0, p0, q0, hargs, rfl, rfl, h0, r0⟩ := trodAll_cons hA
  obtain ⟨v1, vs1, d1, ds1, p1, q1, rfl, rfl, rfl, h1, r1⟩ := trodAll_cons r0
  obtain ⟨rfl, rfl, rfl⟩ := trodAll_nil r1
  obtain rfl : args = #[v0, v1] := by cases args; simp_all
  obtain ⟨rfl, rfl⟩ := trodVars_none hV
  obtain ⟨A0, c0, x0, rfl, u0⟩ := open_bytes Try.underlying27 Try.underlying5 cells_u8 (hval 0 27 v0 rfl rfl) h0
  obtain ⟨A1, c1, x1, rfl, u1⟩ := open_bytes Try.underlying27 Try.underlying5 cells_u8 (hval 1 27 v1 rfl rfl) h1
  clear hA0 hval0
  simp only [List.append_nil] at hW'
  refine (fnCircles_walk A0 c0 x0 A1 c1 x1 W u0 u1).mono fun e W' ⟨he, hb⟩ => ?_
  subst he
  have hlt := hW'.lt
  exact ⟨_, rfl, post_new hW' (fun _ _ _ => (trodAll_cons_mk (shut_bool Try.underlying4 _) trodAll_mk0)) (fun sp hsp => (trodAll_cons_mk (WideElems.Trod_stays laidOut (by kernel_rfl) (of_decide_eq_true (by kernel_rfl)) h0 (fun x hx => hb.same (hlt x (by simp [hx]))) (fun x hx => hsp x (by simp [hx]))) (trodAll_cons_mk (WideElems.Trod_stays laidOut (by kernel_rfl) (of_decide_eq_true (by kernel_rfl)) h1 (fun x hx => hb.same (hlt x (by simp [hx]))) (fun x hx => hsp x (by simp [hx]))) trodAll_mk0))) (fun _ _ => rfl) (by simp) hb
    (ok_one (by kernel_rfl) rfl (okWide_bool_mk Try.underlying4 _))⟩

/-- The given statement. -/
theorem fnCircles_holds : Rows.FnCirclesSaid :=
  OpenClaim.holds_of_wide 12 Try.f12 rfl rfl rfl rfl rfl rfl rfl ⟨rfl, rfl, rfl, rfl, rfl⟩ rfl rfl rfl rfl rfl (by kernel_rfl) Try.func12 (by kernel_rfl)
    (of_decide_eq_true (by kernel_rfl)) (by unfold Func.isWrapper; first | (rw [if_pos (by decide +kernel)]; kernel_rfl) | (rw [if_neg (by decide +kernel)]; exact ⟨rfl, rfl⟩))
    (fun os started H enc _ => fnCircles_lifted os started H enc)
end Go.Proofs.Ytfnplomgicgenaa.LY
