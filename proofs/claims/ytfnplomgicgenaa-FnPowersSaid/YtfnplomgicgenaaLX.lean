/- For any two byte strings, the law FnPowers answers true; no condition. -/
import Derived.Test.YtfnplomgicgenaaRows
import Derived.Test.YtfnplomgicgenaaXb
import Derived.Test.YtfnplomgicgenaaXc
import Derived.Test.YtfnplomgicgenaaMg
import Derived.WalkKit
import Derived.ProofKit
import Derived.OpenShut
namespace Go.Proofs.Ytfnplomgicgenaa.LX
open Go.ChangeShapes Go Go.WideShapes Go.ChangeAt Go.RowKit Fl Fs Fo Fw WA WB WH WI WK Fx WL WM Md Mg Xa Xb Xc
set_option linter.unusedVariables false
theorem own : ownKnob Try.prog.godebug = none := by kernel_rfl
theorem laidOut : laidOutB Try.prog = true := by kernel_rfl
theorem cells_u8 : Try.prog.cellsOf 5 = 1 := by kernel_rfl
theorem x_ok {k : Nat} (h : k < 129) : (FloatKind.f32.format.order (xT k) 1128792064 == some .gt) = false ∧ (FloatKind.f32.format.order (xT k) 3276275712 == some .lt) = false := by
  have := x_at h
  simp only [okX, Bool.and_eq_true, beq_iff_eq] at this
  exact ⟨this.1.1.1.1.1.1.2, this.1.1.1.1.1.2⟩
theorem x_fl {k : Nat} (h : k < 129) : fl .f32 (xT k) = some (xT k) ∧ fl .f32 (eT k) = some (eT k) ∧ wide (eT k) = some (wT k) ∧ fop .mul .f64 (some 4562254508917369340) (some (wT k)) = some (cT k) := by
  have := x_at h
  simp only [okX, Bool.and_eq_true, beq_iff_eq] at this
  exact ⟨this.1.1.1.1.1.1.1.2, this.1.1.2, this.1.2, this.2⟩
theorem x_val {i r : Nat} (hi : (i : Int) < 65) (hr : FV .f32 (fop .quo .f32 (fl .f32 (floatOfInt .f32 ((i : Int) - 32))) (fl .f32 1090519040)) r) : r = xT (i + 32) := by
  have := x_at (i := i + 32) (by omega)
  simp only [okX, Bool.and_eq_true, beq_iff_eq] at this
  have h1 := this.1.1.1.1.1.1.1.1
  have e : (((i + 32 : Nat) : Int) - 64) = (i : Int) - 32 := by omega
  rw [e] at h1
  have e2 : fl .f32 (floatOfInt .f32 ((i : Int) - 32)) = some (floatOfInt .f32 ((i : Int) - 32)) := fl_num (write_not_nan _ (binade_le .f32) (.number _ _ _) rfl)
  have e3 : fl .f32 1090519040 = some 1090519040 := rfl
  have h := hr.1
  rw [e2, e3, h1] at h
  exact (fl_some h).1.symm
theorem exp_val {k x r : Nat} (hk : k < 129) (hx : x = xT k) (h : ExpRet x r) : r = eT k := by
  subst hx
  have := x_at hk
  simp only [okX, Bool.and_eq_true, beq_iff_eq] at this
  obtain ⟨s, hs, hr⟩ := h
  rw [hs] at hr
  have h1 := hr.1 this.1.1.1.1.2
  rw [this.1.1.1.2] at h1
  exact (fl_some h1).1.symm
theorem add_val {i j x y z : Nat} (hi : (i : Int) < 65) (hj : (j : Int) < 65) (hx : x = xT (i + 32)) (hy : y = xT (j + 32)) (hz : FV .f32 (fop .add .f32 (fl .f32 x) (fl .f32 y)) z) : z = xT (i + j) := by
  have := p_at (i := i) (j := j) (by omega) (by omega)
  simp only [okP, Bool.and_eq_true, beq_iff_eq] at this
  have h := hz.1
  rw [hx, hy, (x_fl (k := i + 32) (by omega)).1, (x_fl (k := j + 32) (by omega)).1, this.1] at h
  exact (fl_some h).1.symm
theorem l_ok {i : Nat} (hi : (i : Int) < 65) : Normal (eT (i + 32)) ∧ over .f64 .f32 (logN (wid (eT (i + 32)))) = false ∧ ltC (Xb.gapV (fconv .f32 .f64 (logT (eT (i + 32)))) (wide (xT (i + 32)))) (some 4562254508917369340) = true ∧ (FloatKind.f32.format.order (eT (i + 32)) 0 == some .gt) = true := by
  have := l_at (i := i) (by omega)
  simp only [okL, Bool.and_eq_true, beq_iff_eq, decide_eq_true_eq, Bool.not_eq_true'] at this
  exact ⟨⟨this.1.1.1.1, this.1.1.1.2.1, this.1.1.1.2.2⟩, this.1.1.2, this.1.2, by rw [this.2]; rfl⟩
theorem lt32 {x : Nat} (h : fl .f32 x = some x) (hr : ∃ o, FV .f32 o x) : x < 4294967296 := hr.choose_spec.2
theorem gap_one {i x l p q g : Nat} (hi : (i : Int) < 65) (hx : x = xT (i + 32)) (hl : fl .f32 l = logT (eT (i + 32))) (hp : FC .f32 .f64 (fl .f32 l) p) (hq : FC .f32 .f64 (fl .f32 x) q) (hg : FV .f64 (Xc.gapV (fl .f64 p) (fl .f64 q)) g) :
    (FloatKind.f64.format.order g 4562254508917369340 == some .lt) = true := by
  rw [order_fl, hg.1, FC_widen hp, FC_widen hq, hl, hx, (x_fl (k := i + 32) (by omega)).1]
  exact (l_ok hi).2.2.1
theorem gap_two {i j a b c u v m s g t r : Nat} (hi : (i : Int) < 65) (hj : (j : Int) < 65) (ha : a = eT (i + 32)) (hb : b = eT (j + 32)) (hc : c = eT (i + j)) (hu : FC .f32 .f64 (fl .f32 a) u) (hv : FC .f32 .f64 (fl .f32 b) v)
    (hm : FV .f64 (fop .mul .f64 (fl .f64 u) (fl .f64 v)) m) (hs : FC .f32 .f64 (fl .f32 c) s) (hg : FV .f64 (Xc.gapV (fl .f64 m) (fl .f64 s)) g) (ht : FC .f32 .f64 (fl .f32 c) t) (hr : FV .f64 (fop .mul .f64 (fl .f64 4562254508917369340) (fl .f64 t)) r) :
    (FloatKind.f64.format.order g r == some .lt) = true := by
  have := p_at (i := i) (j := j) (by omega) (by omega)
  simp only [okP, Bool.and_eq_true, beq_iff_eq] at this
  have e1 := x_fl (k := i + 32) (by omega)
  have e2 := x_fl (k := j + 32) (by omega)
  have e3 := x_fl (k := i + j) (by omega)
  have w1 : fconv .f32 .f64 (fl .f32 a) = some (wT (i + 32)) := by rw [ha, e1.2.1]; exact e1.2.2.1
  have w2 : fconv .f32 .f64 (fl .f32 b) = some (wT (j + 32)) := by rw [hb, e2.2.1]; exact e2.2.2.1
  have w3 : fconv .f32 .f64 (fl .f32 c) = some (wT (i + j)) := by rw [hc, e3.2.1]; exact e3.2.2.1
  rw [order_fl, hg.1, hr.1, hm.1, FC_widen hu, FC_widen hv, FC_widen hs, FC_widen ht, w1, w2, w3, show fl .f64 4562254508917369340 = some 4562254508917369340 from rfl, e3.2.2.2]
  exact this.2
theorem zero_exp {r : Nat} (h : ExpRet 0 r) : (FloatKind.f32.format.order r 1065353216 == some .eq) = true := by
  have e : (0 : Nat) = xT 64 := by decide +kernel
  rw [exp_val (k := 64) (by omega) e h]
  decide +kernel
theorem one_log0 {r : Nat} (h : LogRes 1065353216 r) : (FloatKind.f32.format.order r 0 == some .eq) = true := by
  rw [order_fl, log_val one_log.2.1 one_log.2.2.1 h]
  exact one_log.2.2.2
set_option maxHeartbeats 4000000 in
theorem fnPowers_walk (A0 : Option Addr) (c0 : Nat) (x0 : List Nat) (A1 : Option Addr) (c1 : Nat) (x1 : List Nat) (w : World) (h0 : RdB w w.heap.size A0 x0) (h1 : RdB w w.heap.size A1 x1) :
    Calls Try.prog 5 #[.slice A0 x0.length c0, .slice A1 x1.length c1] w fun e w' => e = .returned (.bool true) ∧ Below w.heap.size w w' := by
  have H0 := Lib.hid h0
  have H1 := Lib.hid h1
  clear h0 h1
  by_cases hl : x0.length ≤ 1048576 ∧ x1.length ≤ 1048576
  · obtain ⟨hl0, hl1⟩ := hl
    go_enter Try.func5, Try.ntmps5
    go_wp2_with fail
    refine (b10Long_no _ _ _ _ _ _ hl0 hl1 _).mono ?_
    rintro e w ⟨rfl, rfl⟩
    go_wp2_with fail
    refine (b10At_any x0 _ _ 0 65 (by omega) (by omega) (by omega) (by omega) _ _ (by exact H0.out) hl0).mono ?_
    rintro e w ⟨i, hi, rfl, rfl⟩
    go_wp2_with (refine wpList_farith _ _ _ _ _ rfl rfl rfl _ _ _ rfl rfl ?_); intro x nx hx
    have HX := Lib.hid (x_val hi hx)
    have HXW := Lib.hid hx.2
    clear hx
    go_wp2_with fail
    refine (b10At_any x1 _ _ 0 65 (by omega) (by omega) (by omega) (by omega) _ _ (by exact H1.out) hl1).mono ?_
    rintro e w' ⟨j, hj, rfl, rfl⟩
    go_wp2_with (refine wpList_farith _ _ _ _ _ rfl rfl rfl _ _ _ rfl rfl ?_); intro y ny hy
    have HY := Lib.hid (x_val hj hy)
    clear hy
    go_wp2_with fail
    refine (impl_ExpNumber x (by rw [HX.out]; exact (x_ok (k := i + 32) (by omega)).1) (by rw [HX.out]; exact (x_ok (k := i + 32) (by omega)).2) _).mono ?_
    rintro e w' ⟨a, na, ha, rfl, rfl⟩
    have HAW := Lib.hid ha.choose_spec.2.2
    have HA := Lib.hid (exp_val (k := i + 32) (by omega) HX.out ha)
    clear ha
    go_wp2_with fail
    refine (impl_ExpNumber y (by rw [HY.out]; exact (x_ok (k := j + 32) (by omega)).1) (by rw [HY.out]; exact (x_ok (k := j + 32) (by omega)).2) _).mono ?_
    rintro e w' ⟨b, nb, hb, rfl, rfl⟩
    have HB := Lib.hid (exp_val (k := j + 32) (by omega) HY.out hb)
    clear hb
    go_wp2_with (refine wpList_farith _ _ _ _ _ rfl rfl rfl _ _ _ rfl rfl ?_); intro z nz hz
    have HZ := Lib.hid (add_val hi hj HX.out HY.out hz)
    clear hz
    go_wp2_with fail
    refine (impl_ExpNumber z (by rw [HZ.out]; exact (x_ok (k := i + j) (by omega)).1) (by rw [HZ.out]; exact (x_ok (k := i + j) (by omega)).2) _).mono ?_
    rintro e w' ⟨c, nc, hc, rfl, rfl⟩
    have HC := Lib.hid (exp_val (k := i + j) (by omega) HZ.out hc)
    clear hc
    go_wp2_with fail
    refine (impl_LogNumber a HAW.out _).mono ?_
    rintro e w' ⟨l, nl, hl, rfl, rfl⟩
    have HL := Lib.hid (log_val (l_ok hi).1 (l_ok hi).2.1 (by rw [← HA.out]; exact hl))
    clear hl
    go_wp2_with (refine wpList_fconv _ _ _ rfl rfl .f32 .f64 (by decide) _ rfl (by rw [Try.underlying22]; rfl) Try.underlying25 ?_); intro p np hp
    go_wp2_with (refine wpList_fconv _ _ _ rfl rfl .f32 .f64 (by decide) _ rfl (by rw [Try.underlying22]; rfl) Try.underlying25 ?_); intro q nq hq
    go_wp2_with fail
    refine (b10Gap_any p q _).mono ?_
    rintro e w' ⟨g, ng, hg, rfl, rfl⟩
    have ht1 := gap_one hi HX.out HL.out hp hq hg
    clear hp hq hg
    have ht3 : (FloatKind.f32.format.order a 0 == some .gt) = true := by rw [HA.out]; exact (l_ok hi).2.2.2
    go_wp2_with (refine wpList_fconv _ _ _ rfl rfl .f32 .f64 (by decide) _ rfl (by rw [Try.underlying22]; rfl) Try.underlying25 ?_); intro u nu hu
    go_wp2_with (refine wpList_fconv _ _ _ rfl rfl .f32 .f64 (by decide) _ rfl (by rw [Try.underlying22]; rfl) Try.underlying25 ?_); intro v nv hv
    go_wp2_with (refine wpList_farith _ _ _ _ _ rfl rfl rfl _ _ _ rfl rfl ?_); intro m nm hm
    go_wp2_with (refine wpList_fconv _ _ _ rfl rfl .f32 .f64 (by decide) _ rfl (by rw [Try.underlying22]; rfl) Try.underlying25 ?_); intro s ns hs
    go_wp2_with fail
    refine (b10Gap_any m s _).mono ?_
    rintro e w' ⟨g2, ng2, hg2, rfl, rfl⟩
    go_wp2_with (refine wpList_fconv _ _ _ rfl rfl .f32 .f64 (by decide) _ rfl (by rw [Try.underlying22]; rfl) Try.underlying25 ?_); intro t nt ht
    go_wp2_with (refine wpList_farith _ _ _ _ _ rfl rfl rfl _ _ _ rfl rfl ?_); intro r nr hr
    have ht2 := gap_two hi hj HA.out HB.out HC.out hu hv hm hs hg2 ht hr
    clear hu hv hm hs hg2 ht hr
    go_wp2_with fail
    refine (impl_ExpNumber 0 (by decide +kernel) (by decide +kernel) _).mono ?_
    rintro e w' ⟨e0, ne0, he0, rfl, rfl⟩
    have ht4 := zero_exp he0
    clear he0
    go_wp2_with fail
    refine (impl_LogNumber 1065353216 (by decide) _).mono ?_
    rintro e w' ⟨l0, nl0, hl0', rfl, rfl⟩
    have ht5 := one_log0 hl0'
    clear hl0'
    go_wp2
    go_ret
    exact ⟨rfl, upd (Below.refl _ _)⟩
  · go_enter Try.func5, Try.ntmps5
    go_wp2_with fail
    refine (b10Long_yes _ _ _ _ _ _ hl _).mono ?_
    rintro e w ⟨rfl, rfl⟩
    go_wp2
    go_ret
    exact ⟨rfl, Below.refl _ _⟩
set_option maxRecDepth 100000 in
theorem fnPowers_lifted (os : Os) (started : os.Started) (H : Type) (enc : TypeId × Value → H) :
    ReturnsInHanded {} Try.checked os 5 .any (Rows.fnPowersSpec.pre6 enc Try.prog Try.f5 Rows.fnPowersRow.domain false) (Rows.fnPowersSpec.post enc Try.prog Try.f5 false true false false) := by
  refine returnsInHanded_of_change (C := Try.checked) own started (by kernel_rfl) Try.func5
    (ChangeSpec.witness6 (enc := enc) (C := Try.checked) false ⟨#[], #[.slice none 0 0, .slice none 0 0], []⟩ 8 (by kernel_rfl) (by kernel_rfl) (by kernel_rfl) (by kernel_rfl)) ?_
  intro W base args ds gs before hval0 hW hcnd hsz
  have hval : ∀ (j : Nat) t v, Try.f5.params[j]? = some t → args[j]? = some v → Value.okWide Try.prog W .any base t v := hval0
  have hW' := hW
  obtain ⟨p, q, hA0, hV, rfl, hfz, hnd⟩ := hW
  have hA : DataW.TrodAll enc Try.prog W 0 (fun _ => true) true Try.f5.params.toList args.toList ds p := hA0
  rw [Try.params5] at hA hval
  obtain ⟨v0, vs0, d0, ds0, p0, q0, hargs, rfl, rfl, h0, r0⟩ := trodAll_cons hA
  obtain ⟨v1, vs1, d1, ds1, p1, q1, rfl, rfl, rfl, h1, r1⟩ := trodAll_cons r0
  obtain ⟨rfl, rfl, rfl⟩ := trodAll_nil r1
  obtain rfl : args = #[v0, v1] := by cases args; simp_all
  obtain ⟨rfl, rfl⟩ := trodVars_none hV
  obtain ⟨A0, c0, x0, rfl, u0⟩ := open_bytes Try.underlying27 Try.underlying5 cells_u8 (hval 0 27 v0 rfl rfl) h0
  obtain ⟨A1, c1, x1, rfl, u1⟩ := open_bytes Try.underlying27 Try.underlying5 cells_u8 (hval 1 27 v1 rfl rfl) h1
  clear hA0 hval0
  simp only [List.append_nil] at hW'
  refine (fnPowers_walk A0 c0 x0 A1 c1 x1 W u0 u1).mono fun e W' ⟨he, hb⟩ => ?_
  subst he
  have hlt := hW'.lt
  exact ⟨_, rfl, post_new hW' (fun _ _ _ => (trodAll_cons_mk (shut_bool Try.underlying4 _) trodAll_mk0)) (fun sp hsp => (trodAll_cons_mk (WideElems.Trod_stays laidOut (by kernel_rfl) (of_decide_eq_true (by kernel_rfl)) h0 (fun x hx => hb.same (hlt x (by simp [hx]))) (fun x hx => hsp x (by simp [hx]))) (trodAll_cons_mk (WideElems.Trod_stays laidOut (by kernel_rfl) (of_decide_eq_true (by kernel_rfl)) h1 (fun x hx => hb.same (hlt x (by simp [hx]))) (fun x hx => hsp x (by simp [hx]))) trodAll_mk0))) (fun _ _ => rfl) (by simp) hb
    (ok_one (by kernel_rfl) rfl (okWide_bool_mk Try.underlying4 _))⟩

/-- The given statement. -/
theorem fnPowers_holds : Rows.FnPowersSaid :=
  OpenClaim.holds_of_wide 5 Try.f5 rfl rfl rfl rfl rfl rfl rfl ⟨rfl, rfl, rfl, rfl, rfl⟩ rfl rfl rfl rfl rfl (by kernel_rfl) Try.func5 (by kernel_rfl)
    (of_decide_eq_true (by kernel_rfl)) (by unfold Func.isWrapper; first | (rw [if_pos (by decide +kernel)]; kernel_rfl) | (rw [if_neg (by decide +kernel)]; exact ⟨rfl, rfl⟩))
    (fun os started H enc _ => fnPowers_lifted os started H enc)
end Go.Proofs.Ytfnplomgicgenaa.LX
