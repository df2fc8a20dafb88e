/- The program's TenthsOf and AngleTurns are the reference's, for every argument; no condition. -/
import Derived.Test.YtfnplomgicgenaaRows
import Derived.Test.YtfnplomgicgenaaWQ
import Derived.WalkKit
import Derived.ProofKit
import Derived.OpenShut
namespace Go.Proofs.Ytfnplomgicgenaa.LG
open Go.ChangeShapes Go.WideShapes Go.ChangeAt Go.RowKit Fl Fw Fb Fm Ff WA WB WH WK WM WN WP WQ
set_option linter.unusedVariables false
theorem own : ownKnob Try.prog.godebug = none := by kernel_rfl
theorem grown_drewN (w : World) (n : Nat) : Grown w (w.drewN n) := Grown.refl w
theorem same_wide {r s y z : Nat} (h1 : FC .f32 .f64 (fl .f32 r) y) (h2 : FC .f32 .f64 (fl .f32 s) z) (e : fl .f32 r = fl .f32 s) : fl .f64 y = fl .f64 z := by
  rw [FC_widen h1, FC_widen h2, e]
set_option maxHeartbeats 400000 in
theorem fnExactTenthsOf_walk (a0 : Nat) (w0 : (Lit.float .f32 a0).wf = true) (w : World) : Calls Try.prog 10 #[.float .f32 a0] w fun e w' => e = .returned (.bool true) ∧ Grown w w' := by
  have hx : a0 < 4294967296 := of_decide_eq_true w0
  by_cases hn : Normal a0
  · have HN := Lib.hid hn
    clear hn
    go_enter Try.func10, Try.ntmps10
    go_wp2_with fail
    refine (spec_TenthsOf_yes _ HN.out _).mono ?_
    rintro e w' ⟨n, k, ht, rfl, rfl⟩
    have HT := Lib.hid ht
    clear ht
    go_wp2_with fail
    refine (impl_TenthsOf_yes _ HN.out _).mono ?_
    rintro e w' ⟨m, k2, hm, rfl, rfl⟩
    obtain rfl := HT.out.one hm HN.out
    clear hm
    go_wp2
    go_ret
    exact ⟨rfl, grown_drewN _ _⟩
  · have HN := Lib.hid hn
    clear hn
    go_enter Try.func10, Try.ntmps10
    go_wp2_with (first | (go_at_call 30; refine (spec_TenthsOf_no _ HN.out _).mono ?_; rintro e w' ⟨rfl, n, rfl⟩) | (go_at_call 31; refine (impl_TenthsOf_no _ HN.out _).mono ?_; rintro e w' ⟨rfl, n, rfl⟩))
    go_ret
    exact ⟨rfl, grown_drewN _ _⟩
set_option maxRecDepth 100000 in
theorem fnExactTenthsOf_lifted (os : Os) (started : os.Started) (H : Type) (enc : TypeId × Value → H) :
    ReturnsInHanded {} Try.checked os 10 .any (Rows.fnExactTenthsOfSpec.pre6 enc Try.prog Try.f10 Rows.fnExactTenthsOfRow.domain false) (Rows.fnExactTenthsOfSpec.post enc Try.prog Try.f10 false true false false) := by
  refine returnsInHanded_of_change (C := Try.checked) own started (by kernel_rfl) Try.func10
    (ChangeSpec.witness6 (enc := enc) (C := Try.checked) false ⟨#[], #[.float .f32 0], []⟩ 8 (by kernel_rfl) (by kernel_rfl) (by kernel_rfl) (by kernel_rfl)) ?_
  intro W base args ds gs before hval0 hW hcnd hsz
  have hval : ∀ (j : Nat) t v, Try.f10.params[j]? = some t → args[j]? = some v → Value.okWide Try.prog W .any base t v := hval0
  have hW' := hW
  obtain ⟨p, q, hA0, hV, rfl, hfz, hnd⟩ := hW
  have hA : DataW.TrodAll enc Try.prog W 0 (fun _ => true) true Try.f10.params.toList args.toList ds p := hA0
  rw [Try.params10] at hA hval
  obtain ⟨v0, vs0, d0, ds0, p0, q0, hargs, rfl, rfl, h0, r0⟩ := trodAll_cons hA
  obtain ⟨rfl, rfl, rfl⟩ := trodAll_nil r0
  obtain rfl : args = #[v0] := by cases args; simp_all
  obtain ⟨rfl, rfl⟩ := trodVars_none hV
  obtain ⟨a0, rfl, rfl, rfl, w0⟩ := open_float Try.underlying22 (hval 0 22 v0 rfl rfl) h0
  clear hA0 hval0
  simp only [List.append_nil] at hW'
  refine (fnExactTenthsOf_walk a0 w0 W).mono fun e W' ⟨he, hg⟩ => ?_
  subst he
  exact ⟨_, rfl, post_of_same (pa := []) (pv := []) hW' (fun _ _ _ => (trodAll_cons_mk (shut_bool Try.underlying4 _) trodAll_mk0)) (fun sp _ => (trodAll_cons_mk (shut_float Try.underlying22 w0) trodAll_mk0)) (fun _ _ => rfl) rfl
    (hg.frame _) hg.2.1 (ok_one (by kernel_rfl) rfl (okWide_bool_mk Try.underlying4 _))⟩

/-- The given statement. -/
theorem fnExactTenthsOf_holds : Rows.FnExactTenthsOfSaid :=
  OpenClaim.holds_of_wide 10 Try.f10 rfl rfl rfl rfl rfl rfl rfl ⟨rfl, rfl, rfl, rfl, rfl⟩ rfl rfl rfl rfl rfl (by kernel_rfl) Try.func10 (by kernel_rfl)
    (of_decide_eq_true (by kernel_rfl)) (by unfold Func.isWrapper; first | (rw [if_pos (by decide +kernel)]; kernel_rfl) | (rw [if_neg (by decide +kernel)]; exact ⟨rfl, rfl⟩))
    (fun os started H enc _ => fnExactTenthsOf_lifted os started H enc)
set_option maxHeartbeats 400000 in
theorem fnExactAngleTurns_walk (a0 : Nat) (w0 : (Lit.float .f32 a0).wf = true) (a1 : Nat) (w1 : (Lit.float .f32 a1).wf = true) (w : World) : Calls Try.prog 11 #[.float .f32 a0, .float .f32 a1] w fun e w' => e = .returned (.bool true) ∧ Grown w w' := by
  have hy : a0 < 4294967296 := of_decide_eq_true w0
  have hx : a1 < 4294967296 := of_decide_eq_true w1
  go_enter Try.func11, Try.ntmps11
  go_wp2_with (first | (go_at_call 32; refine (spec_AngleTurns _ _ hy hx _).mono ?_; rintro e w' ⟨r, n, hv, rfl, rfl⟩) | (go_at_call 33; refine (impl_AngleTurns _ _ _).mono ?_; rintro e w' ⟨r, n, hv, rfl, rfl⟩) | (refine wpList_fconv _ _ _ rfl rfl .f32 .f64 (by decide) _ rfl (by rw [Try.underlying22]; rfl) Try.underlying25 ?_; intro r n hr) | (go_at_call 15; refine (sameFloat_yes _ _ (same_wide (by assumption) (by assumption) (Eq.trans (b := angT a0 a1) (by assumption) (Eq.symm (by assumption)))) _).mono ?_; rintro e w' ⟨rfl, n, rfl⟩))
  go_ret
  exact ⟨rfl, grown_drewN _ _⟩
set_option maxRecDepth 100000 in
theorem fnExactAngleTurns_lifted (os : Os) (started : os.Started) (H : Type) (enc : TypeId × Value → H) :
    ReturnsInHanded {} Try.checked os 11 .any (Rows.fnExactAngleTurnsSpec.pre6 enc Try.prog Try.f11 Rows.fnExactAngleTurnsRow.domain false) (Rows.fnExactAngleTurnsSpec.post enc Try.prog Try.f11 false true false false) := by
  refine returnsInHanded_of_change (C := Try.checked) own started (by kernel_rfl) Try.func11
    (ChangeSpec.witness6 (enc := enc) (C := Try.checked) false ⟨#[], #[.float .f32 0, .float .f32 0], []⟩ 8 (by kernel_rfl) (by kernel_rfl) (by kernel_rfl) (by kernel_rfl)) ?_
  intro W base args ds gs before hval0 hW hcnd hsz
  have hval : ∀ (j : Nat) t v, Try.f11.params[j]? = some t → args[j]? = some v → Value.okWide Try.prog W .any base t v := hval0
  have hW' := hW
  obtain ⟨p, q, hA0, hV, rfl, hfz, hnd⟩ := hW
  have hA : DataW.TrodAll enc Try.prog W 0 (fun _ => true) true Try.f11.params.toList args.toList ds p := hA0
  rw [Try.params11] at hA hval
  obtain ⟨v0, vs0, d0, ds0, p0, q0, hargs, rfl, rfl, h0, r0⟩ := trodAll_cons hA
  obtain ⟨v1, vs1, d1, ds1, p1, q1, rfl, rfl, rfl, h1, r1⟩ := trodAll_cons r0
  obtain ⟨rfl, rfl, rfl⟩ := trodAll_nil r1
  obtain rfl : args = #[v0, v1] := by cases args; simp_all
  obtain ⟨rfl, rfl⟩ := trodVars_none hV
  obtain ⟨a0, rfl, rfl, rfl, w0⟩ := open_float Try.underlying22 (hval 0 22 v0 rfl rfl) h0
  obtain ⟨a1, rfl, rfl, rfl, w1⟩ := open_float Try.underlying22 (hval 1 22 v1 rfl rfl) h1
  clear hA0 hval0
  simp only [List.append_nil] at hW'
  refine (fnExactAngleTurns_walk a0 w0 a1 w1 W).mono fun e W' ⟨he, hg⟩ => ?_
  subst he
  exact ⟨_, rfl, post_of_same (pa := []) (pv := []) hW' (fun _ _ _ => (trodAll_cons_mk (shut_bool Try.underlying4 _) trodAll_mk0)) (fun sp _ => (trodAll_cons_mk (shut_float Try.underlying22 w0) (trodAll_cons_mk (shut_float Try.underlying22 w1) trodAll_mk0))) (fun _ _ => rfl) rfl
    (hg.frame _) hg.2.1 (ok_one (by kernel_rfl) rfl (okWide_bool_mk Try.underlying4 _))⟩

/-- The given statement. -/
theorem fnExactAngleTurns_holds : Rows.FnExactAngleTurnsSaid :=
  OpenClaim.holds_of_wide 11 Try.f11 rfl rfl rfl rfl rfl rfl rfl ⟨rfl, rfl, rfl, rfl, rfl⟩ rfl rfl rfl rfl rfl (by kernel_rfl) Try.func11 (by kernel_rfl)
    (of_decide_eq_true (by kernel_rfl)) (by unfold Func.isWrapper; first | (rw [if_pos (by decide +kernel)]; kernel_rfl) | (rw [if_neg (by decide +kernel)]; exact ⟨rfl, rfl⟩))
    (fun os started H enc _ => fnExactAngleTurns_lifted os started H enc)
end Go.Proofs.Ytfnplomgicgenaa.LG
