/- For any slice of slices of float32 and any two numbers of workers, the law FnMeansSharedOfAll answers true; no condition. -/
import Derived.Test.YtomnhcogchceiaaRows
import Derived.Test.YtomnhcogchceiaaMt
import Derived.Test.YtomnhcogchceiaaMg
import Derived.WalkKit
import Derived.ProofKit
import Derived.OpenShut
namespace Go.Proofs.Ytomnhcogchceiaa.LV
open Go.ChangeShapes Go.WideShapes Go.ChangeAt Go.RowKit Fl WA WB Md Me Mf Mg Mi Mj Mk Ml Ms Mt
set_option linter.unusedVariables false
theorem own : ownKnob Try.prog.godebug = none := by kernel_rfl
theorem laidOut : laidOutB Try.prog = true := by kernel_rfl
theorem cells_sl : Try.prog.cellsOf 23 = 1 := by kernel_rfl
theorem cells_f32 : Try.prog.cellsOf 29 = 1 := by kernel_rfl
theorem short_of {rs : List Nat} {O : List (Option Nat)} {b : Bool} {L : Nat} (h : rs.map (fl .f32) = if b then O else []) (hO : O.length ≤ L) : rs.length ≤ L := by
  have e := congrArg List.length h
  rw [List.length_map] at e
  rw [e]
  cases b
  · simp
  · exact hO
theorem sh_same {ls : List Row} {a b : Int} (ha : 1 ≤ a ∧ a ≤ 8) (hb : 1 ≤ b ∧ b ≤ 8) : shB ls a = shB ls b := by
  unfold shB
  rw [decide_eq_true ha.1, decide_eq_true ha.2, decide_eq_true hb.1, decide_eq_true hb.2]
set_option maxHeartbeats 4000000 in
theorem fnMeansSharedOfAll_walk (A0 : Option Addr) (c0 : Nat) (x0 : List Row) (a1 : Int) {p1 : Prop} (k1 : p1) (a2 : Int) {p2 : Prop} (k2 : p2) (w : World) (h0 : RdS w w.heap.size A0 x0) : Calls Try.prog 3 #[.slice A0 x0.length c0, .int .i64 a1, .int .i64 a2] w fun e w' => e = .returned (.bool true) ∧ Below w.heap.size w w' := by
  have H0 := Lib.hid h0
  clear h0
  by_cases hl : x0.length ≤ 10000
  case neg =>
    go_enter Try.func3, Try.ntmps3
    go_wp2
    go_ret
    exact ⟨rfl, Below.refl _ _⟩
  have hl2 : x0.length ≤ 1048576 := by omega
  have HM := Lib.hid (show (meanO x0).length ≤ 1048576 by unfold meanO; rw [List.length_map]; exact hl2)
  by_cases hr : (1 ≤ a1 ∧ a1 ≤ 8) ∧ (1 ≤ a2 ∧ a2 ≤ 8)
  · have hsame := sh_same (ls := x0) hr.1 hr.2
    obtain ⟨⟨r1, r2⟩, r3, r4⟩ := hr
    have q1 : decide (a1 < 1) = false := decide_eq_false (by omega)
    have q2 : decide ((8 : Int) < a1) = false := decide_eq_false (by omega)
    have q3 : decide (a2 < 1) = false := decide_eq_false (by omega)
    have q4 : decide ((8 : Int) < a2) = false := decide_eq_false (by omega)
    cases hb : shB x0 a1
    · have HB1 := Lib.hid hb
      have HB2 := Lib.hid (hsame.symm.trans hb)
      clear hb hsame
      go_enter Try.func3, Try.ntmps3
      go_wp2_with fail
      refine (impl_MeansShared x0 _ _ _ (by exact H0.out) hl2 a1).mono ?_
      rw [HB1.out]
      rintro e w1 ⟨xs, Axs, cxs, hv1, rfl, ho1, hb1⟩
      have Vxs := Lib.hid hv1
      have Oxs := Lib.hid ho1
      have B1 := Lib.hid hb1
      clear hv1 ho1 hb1
      go_wp2_with fail
      refine (impl_MeansShared x0 _ _ _ (by exact (H0.out.below B1.out).more B1.out.size) hl2 a2).mono ?_
      rw [HB2.out]
      rintro e w2 ⟨ys, Ays, cys, hv2, rfl, ho2, hb2⟩
      have Vys := Lib.hid hv2
      have Oys := Lib.hid ho2
      have Oxs' := Lib.hid (Oxs.out.below (by first | exact hb2 | exact und' hb2))
      clear Oxs
      have Oxs := Oxs'
      clear Oxs'
      have B2 := Lib.hid (B1.out.trans (Below.mono (by first | exact hb2 | exact und' hb2) B1.out.size))
      clear hv2 ho2 hb2
      go_wp2_with fail
      refine (spec_MeansShared x0 _ _ _ (by exact (H0.out.below B2.out).more B2.out.size) hl2 a1).mono ?_
      rw [HB1.out]
      rintro e w3 ⟨zs, Azs, czs, hv3, rfl, ho3, hb3⟩
      have Vzs := Lib.hid hv3
      have Ozs := Lib.hid ho3
      have Oxs' := Lib.hid (Oxs.out.below (by first | exact hb3 | exact und' hb3))
      clear Oxs
      have Oxs := Oxs'
      clear Oxs'
      have Oys' := Lib.hid (Oys.out.below (by first | exact hb3 | exact und' hb3))
      clear Oys
      have Oys := Oys'
      clear Oys'
      have B3 := Lib.hid (B2.out.trans (Below.mono (by first | exact hb3 | exact und' hb3) B2.out.size))
      clear hv3 ho3 hb3
      go_wp2
      go_ret
      exact ⟨rfl, B3.out⟩
    · have HB1 := Lib.hid hb
      have HB2 := Lib.hid (hsame.symm.trans hb)
      clear hb hsame
      go_enter Try.func3, Try.ntmps3
      go_wp2_with fail
      refine (impl_MeansShared x0 _ _ _ (by exact H0.out) hl2 a1).mono ?_
      rw [HB1.out]
      rintro e w1 ⟨xs, Axs, cxs, hv1, rfl, ho1, hb1⟩
      have Vxs := Lib.hid hv1
      have Oxs := Lib.hid ho1
      have B1 := Lib.hid hb1
      clear hv1 ho1 hb1
      go_wp2_with fail
      refine (impl_MeansShared x0 _ _ _ (by exact (H0.out.below B1.out).more B1.out.size) hl2 a2).mono ?_
      rw [HB2.out]
      rintro e w2 ⟨ys, Ays, cys, hv2, rfl, ho2, hb2⟩
      have Vys := Lib.hid hv2
      have Oys := Lib.hid ho2
      have Oxs' := Lib.hid (Oxs.out.below (by first | exact hb2 | exact und' hb2))
      clear Oxs
      have Oxs := Oxs'
      clear Oxs'
      have B2 := Lib.hid (B1.out.trans (Below.mono (by first | exact hb2 | exact und' hb2) B1.out.size))
      clear hv2 ho2 hb2
      go_wp2_with fail
      refine (spec_MeansShared x0 _ _ _ (by exact (H0.out.below B2.out).more B2.out.size) hl2 a1).mono ?_
      rw [HB1.out]
      rintro e w3 ⟨zs, Azs, czs, hv3, rfl, ho3, hb3⟩
      have Vzs := Lib.hid hv3
      have Ozs := Lib.hid ho3
      have Oxs' := Lib.hid (Oxs.out.below (by first | exact hb3 | exact und' hb3))
      clear Oxs
      have Oxs := Oxs'
      clear Oxs'
      have Oys' := Lib.hid (Oys.out.below (by first | exact hb3 | exact und' hb3))
      clear Oys
      have Oys := Oys'
      clear Oys'
      have B3 := Lib.hid (B2.out.trans (Below.mono (by first | exact hb3 | exact und' hb3) B2.out.size))
      clear hv3 ho3 hb3
      have hlx : xs.length ≤ 1048576 := short_of (b := true) (O := meanO x0) (by simpa using Vxs.out) HM.out
      have hal : Me.Alike xs zs := Vxs.out.trans Vzs.out.symm
      have HAL := Lib.hid hal
      clear hal
      go_wp2_with fail
      refine (sameAll32_yes xs zs _ _ _ _ _ _ (by exact Oxs.out.rd) (by exact Ozs.out.rd) hlx HAL.out).mono ?_
      rintro e w' ⟨kzs, rfl, rfl⟩
      have hal2 : Me.Alike xs ys := Vxs.out.trans Vys.out.symm
      have HAL2 := Lib.hid hal2
      clear hal2
      go_wp2_with fail
      refine (sameAll32_yes xs ys _ _ _ _ _ _ (by exact Oxs.out.rd) (by exact Oys.out.rd) hlx HAL2.out).mono ?_
      rintro e w' ⟨kys, rfl, rfl⟩
      go_wp2
      go_ret
      exact ⟨rfl, upd' B3.out⟩
  · cases hb : shB x0 a1
    · have HB1 := Lib.hid hb
      clear hb
      go_enter Try.func3, Try.ntmps3
      go_wp2_with fail
      refine (impl_MeansShared x0 _ _ _ (by exact H0.out) hl2 a1).mono ?_
      rw [HB1.out]
      rintro e w1 ⟨xs, Axs, cxs, hv1, rfl, ho1, hb1⟩
      have Vxs := Lib.hid hv1
      have Oxs := Lib.hid ho1
      have B1 := Lib.hid hb1
      clear hv1 ho1 hb1
      go_wp2_with fail
      refine (impl_MeansShared x0 _ _ _ (by exact (H0.out.below B1.out).more B1.out.size) hl2 a2).mono ?_
      rintro e w2 ⟨ys, Ays, cys, hv2, rfl, ho2, hb2⟩
      have Vys := Lib.hid hv2
      have Oys := Lib.hid ho2
      have Oxs' := Lib.hid (Oxs.out.below (by first | exact hb2 | exact und' hb2))
      clear Oxs
      have Oxs := Oxs'
      clear Oxs'
      have B2 := Lib.hid (B1.out.trans (Below.mono (by first | exact hb2 | exact und' hb2) B1.out.size))
      clear hv2 ho2 hb2
      go_wp2_with fail
      refine (spec_MeansShared x0 _ _ _ (by exact (H0.out.below B2.out).more B2.out.size) hl2 a1).mono ?_
      rw [HB1.out]
      rintro e w3 ⟨zs, Azs, czs, hv3, rfl, ho3, hb3⟩
      have Vzs := Lib.hid hv3
      have Ozs := Lib.hid ho3
      have Oxs' := Lib.hid (Oxs.out.below (by first | exact hb3 | exact und' hb3))
      clear Oxs
      have Oxs := Oxs'
      clear Oxs'
      have Oys' := Lib.hid (Oys.out.below (by first | exact hb3 | exact und' hb3))
      clear Oys
      have Oys := Oys'
      clear Oys'
      have B3 := Lib.hid (B2.out.trans (Below.mono (by first | exact hb3 | exact und' hb3) B2.out.size))
      clear hv3 ho3 hb3
      go_wp2
      all_goals first | (go_ret; first | exact ⟨rfl, upd' B3.out⟩ | exact ⟨rfl, B3.out⟩) | (exfalso; omega)
    · have HB1 := Lib.hid hb
      clear hb
      go_enter Try.func3, Try.ntmps3
      go_wp2_with fail
      refine (impl_MeansShared x0 _ _ _ (by exact H0.out) hl2 a1).mono ?_
      rw [HB1.out]
      rintro e w1 ⟨xs, Axs, cxs, hv1, rfl, ho1, hb1⟩
      have Vxs := Lib.hid hv1
      have Oxs := Lib.hid ho1
      have B1 := Lib.hid hb1
      clear hv1 ho1 hb1
      go_wp2_with fail
      refine (impl_MeansShared x0 _ _ _ (by exact (H0.out.below B1.out).more B1.out.size) hl2 a2).mono ?_
      rintro e w2 ⟨ys, Ays, cys, hv2, rfl, ho2, hb2⟩
      have Vys := Lib.hid hv2
      have Oys := Lib.hid ho2
      have Oxs' := Lib.hid (Oxs.out.below (by first | exact hb2 | exact und' hb2))
      clear Oxs
      have Oxs := Oxs'
      clear Oxs'
      have B2 := Lib.hid (B1.out.trans (Below.mono (by first | exact hb2 | exact und' hb2) B1.out.size))
      clear hv2 ho2 hb2
      go_wp2_with fail
      refine (spec_MeansShared x0 _ _ _ (by exact (H0.out.below B2.out).more B2.out.size) hl2 a1).mono ?_
      rw [HB1.out]
      rintro e w3 ⟨zs, Azs, czs, hv3, rfl, ho3, hb3⟩
      have Vzs := Lib.hid hv3
      have Ozs := Lib.hid ho3
      have Oxs' := Lib.hid (Oxs.out.below (by first | exact hb3 | exact und' hb3))
      clear Oxs
      have Oxs := Oxs'
      clear Oxs'
      have Oys' := Lib.hid (Oys.out.below (by first | exact hb3 | exact und' hb3))
      clear Oys
      have Oys := Oys'
      clear Oys'
      have B3 := Lib.hid (B2.out.trans (Below.mono (by first | exact hb3 | exact und' hb3) B2.out.size))
      clear hv3 ho3 hb3
      have hlx : xs.length ≤ 1048576 := short_of (b := true) (O := meanO x0) (by simpa using Vxs.out) HM.out
      have hal : Me.Alike xs zs := Vxs.out.trans Vzs.out.symm
      have HAL := Lib.hid hal
      clear hal
      go_wp2_with fail
      refine (sameAll32_yes xs zs _ _ _ _ _ _ (by exact Oxs.out.rd) (by exact Ozs.out.rd) hlx HAL.out).mono ?_
      rintro e w' ⟨kzs, rfl, rfl⟩
      go_wp2
      all_goals first | (go_ret; first | exact ⟨rfl, upd' B3.out⟩ | exact ⟨rfl, B3.out⟩) | (exfalso; omega)
set_option maxRecDepth 100000 in
theorem fnMeansSharedOfAll_lifted (os : Os) (started : os.Started) (H : Type) (enc : TypeId × Value → H) :
    ReturnsInHanded {} Try.checked os 3 .any (Rows.fnMeansSharedOfAllSpec.pre6 enc Try.prog Try.f3 Rows.fnMeansSharedOfAllRow.domain false) (Rows.fnMeansSharedOfAllSpec.post enc Try.prog Try.f3 false true false false) := by
  refine returnsInHanded_of_change (C := Try.checked) own started (by kernel_rfl) Try.func3
    (ChangeSpec.witness6 (enc := enc) (C := Try.checked) false ⟨#[], #[.slice none 0 0, .int .i64 0, .int .i64 0], []⟩ 8 (by kernel_rfl) (by kernel_rfl) (by kernel_rfl) (by kernel_rfl)) ?_
  intro W base args ds gs before hval0 hW hcnd hsz
  have hval : ∀ (j : Nat) t v, Try.f3.params[j]? = some t → args[j]? = some v → Value.okWide Try.prog W .any base t v := hval0
  have hW' := hW
  obtain ⟨p, q, hA0, hV, rfl, hfz, hnd⟩ := hW
  have hA : DataW.TrodAll enc Try.prog W 0 (fun _ => true) true Try.f3.params.toList args.toList ds p := hA0
  rw [Try.params3] at hA hval
  obtain ⟨v0, vs0, d0, ds0, p0, q0, hargs, rfl, rfl, h0, r0⟩ := trodAll_cons hA
  obtain ⟨v1, vs1, d1, ds1, p1, q1, rfl, rfl, rfl, h1, r1⟩ := trodAll_cons r0
  obtain ⟨v2, vs2, d2, ds2, p2, q2, rfl, rfl, rfl, h2, r2⟩ := trodAll_cons r1
  obtain ⟨rfl, rfl, rfl⟩ := trodAll_nil r2
  obtain rfl : args = #[v0, v1, v2] := by cases args; simp_all
  obtain ⟨rfl, rfl⟩ := trodVars_none hV
  obtain ⟨A0, c0, x0, rfl, u0⟩ := open_rows Try.underlying22 Try.underlying23 Try.underlying29 cells_sl cells_f32 (hval 0 22 v0 rfl rfl) h0
  obtain ⟨a1, rfl, rfl, rfl, w1⟩ := open_int Try.underlying2 (hval 1 2 v1 rfl rfl) h1
  obtain ⟨a2, rfl, rfl, rfl, w2⟩ := open_int Try.underlying2 (hval 2 2 v2 rfl rfl) h2
  clear hA0 hval0
  simp only [List.append_nil] at hW'
  refine (fnMeansSharedOfAll_walk A0 c0 x0 a1 w1 a2 w2 W u0).mono fun e W' ⟨he, hb⟩ => ?_
  subst he
  have hlt := hW'.lt
  exact ⟨_, rfl, post_new hW' (fun _ _ _ => (trodAll_cons_mk (shut_bool Try.underlying4 _) trodAll_mk0)) (fun sp hsp => (trodAll_cons_mk (WideElems.Trod_stays laidOut (by kernel_rfl) (of_decide_eq_true (by kernel_rfl)) h0 (fun x hx => hb.same (hlt x (by simp [hx]))) (fun x hx => hsp x (by simp [hx]))) (trodAll_cons_mk (shut_int Try.underlying2 w1) (trodAll_cons_mk (shut_int Try.underlying2 w2) trodAll_mk0)))) (fun _ _ => rfl) (by simp) hb
    (ok_one (by kernel_rfl) rfl (okWide_bool_mk Try.underlying4 _))⟩

/-- The given statement. -/
theorem fnMeansSharedOfAll_holds : Rows.FnMeansSharedOfAllSaid :=
  OpenClaim.holds_of_wide 3 Try.f3 rfl rfl rfl rfl rfl rfl rfl ⟨rfl, rfl, rfl, rfl, rfl⟩ rfl rfl rfl rfl rfl (by kernel_rfl) Try.func3 (by kernel_rfl)
    (of_decide_eq_true (by kernel_rfl)) (by unfold Func.isWrapper; first | (rw [if_pos (by decide +kernel)]; kernel_rfl) | (rw [if_neg (by decide +kernel)]; exact ⟨rfl, rfl⟩))
    (fun os started H enc _ => fnMeansSharedOfAll_lifted os started H enc)
end Go.Proofs.Ytomnhcogchceiaa.LV
