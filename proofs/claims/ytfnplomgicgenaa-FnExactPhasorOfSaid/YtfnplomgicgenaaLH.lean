/- The program's PhasorOf is the reference's, for every argument; no condition. -/
import Derived.Test.YtfnplomgicgenaaRows
import Derived.Test.YtfnplomgicgenaaWS
import Derived.WalkKit
import Derived.ProofKit
import Derived.OpenShut
namespace Go.Proofs.Ytfnplomgicgenaa.LH
open Go.ChangeShapes Go.WideShapes Go.ChangeAt Go.RowKit Fl Fw Fb Fm Ff Fc WA WB WH WR WS
set_option linter.unusedVariables false
theorem own : ownKnob Try.prog.godebug = none := by kernel_rfl
theorem grown_drewN (w : World) (n : Nat) : Grown w (w.drewN n) := Grown.refl w
theorem same_wide {r s y z : Nat} (h1 : FC .f32 .f64 (fl .f32 r) y) (h2 : FC .f32 .f64 (fl .f32 s) z) (e : fl .f32 r = fl .f32 s) : fl .f64 y = fl .f64 z := by
  rw [FC_widen h1, FC_widen h2, e]
theorem sameComplex_yes (a b c d : Nat) (h1 : fl .f64 a = fl .f64 c) (h2 : fl .f64 b = fl .f64 d) (w : World) :
    Calls Try.prog 29 #[.complex .f64 a b, .complex .f64 c d] w fun e w' => e = .returned (.bool true) ∧ ∃ n, w' = w.drewN n := by
  have H1 := Lib.hid h1
  have H2 := Lib.hid h2
  clear h1 h2
  go_enter Try.func29, Try.ntmps29
  go_wp2_with fail
  refine (sameFloat_yes a c H1.out _).mono ?_; rintro e w' ⟨rfl, n, rfl⟩
  go_wp2_with fail
  refine (sameFloat_yes b d H2.out _).mono ?_; rintro e w' ⟨rfl, n, rfl⟩
  go_wp2
  go_ret
  exact ⟨rfl, _, rfl⟩
set_option maxHeartbeats 400000 in
theorem fnExactPhasorOf_walk (a0 : Nat) (w0 : (Lit.float .f64 a0).wf = true) (w : World) : Calls Try.prog 9 #[.float .f64 a0] w fun e w' => e = .returned (.bool true) ∧ Grown w w' := by
  have hx : a0 < 18446744073709551616 := of_decide_eq_true w0
  go_enter Try.func9, Try.ntmps9
  go_wp2_with fail
  refine (spec_PhasorOf a0 _).mono ?_; rintro e w' ⟨a, b, n, hv, rfl, rfl⟩
  have HV := Lib.hid hv
  clear hv
  go_wp2_with fail
  refine (impl_PhasorOf a0 hx _).mono ?_; rintro e w' ⟨c, d, m, hu, rfl, rfl⟩
  obtain ⟨e1, e2⟩ := hu.same HV.out
  have E1 := Lib.hid e1
  have E2 := Lib.hid e2
  clear hu e1 e2
  go_wp2_with (refine wpList_cconv _ _ _ rfl rfl .f32 .f64 (by decide) _ _ rfl (by rw [Try.underlying31]; rfl) Try.underlying34 ?_); intro r1 r2 n1 h1 h2
  go_wp2_with (refine wpList_cconv _ _ _ rfl rfl .f32 .f64 (by decide) _ _ rfl (by rw [Try.underlying31]; rfl) Try.underlying34 ?_); intro s1 s2 n2 k1 k2
  go_wp2_with fail
  refine (sameComplex_yes r1 r2 s1 s2 (same_wide h1 k1 E1.out) (same_wide h2 k2 E2.out) _).mono ?_; rintro e w' ⟨rfl, q, rfl⟩
  go_wp2
  go_ret
  exact ⟨rfl, grown_drewN _ _⟩
set_option maxRecDepth 100000 in
theorem fnExactPhasorOf_lifted (os : Os) (started : os.Started) (H : Type) (enc : TypeId × Value → H) :
    ReturnsInHanded {} Try.checked os 9 .any (Rows.fnExactPhasorOfSpec.pre6 enc Try.prog Try.f9 Rows.fnExactPhasorOfRow.domain false) (Rows.fnExactPhasorOfSpec.post enc Try.prog Try.f9 false true false false) := by
  refine returnsInHanded_of_change (C := Try.checked) own started (by kernel_rfl) Try.func9
    (ChangeSpec.witness6 (enc := enc) (C := Try.checked) false ⟨#[], #[.float .f64 0], []⟩ 8 (by kernel_rfl) (by kernel_rfl) (by kernel_rfl) (by kernel_rfl)) ?_
  intro W base args ds gs before hval0 hW hcnd hsz
  have hval : ∀ (j : Nat) t v, Try.f9.params[j]? = some t → args[j]? = some v → Value.okWide Try.prog W .any base t v := hval0
  have hW' := hW
  obtain ⟨p, q, hA0, hV, rfl, hfz, hnd⟩ := hW
  have hA : DataW.TrodAll enc Try.prog W 0 (fun _ => true) true Try.f9.params.toList args.toList ds p := hA0
  rw [Try.params9] at hA hval
  obtain ⟨v0, vs0, d0, ds0, p0, q0, hargs, rfl, rfl, h0, r0⟩ := trodAll_cons hA
  obtain ⟨rfl, rfl, rfl⟩ := trodAll_nil r0
  obtain rfl : args = #[v0] := by cases args; simp_all
  obtain ⟨rfl, rfl⟩ := trodVars_none hV
  obtain ⟨a0, rfl, rfl, rfl, w0⟩ := open_float Try.underlying25 (hval 0 25 v0 rfl rfl) h0
  clear hA0 hval0
  simp only [List.append_nil] at hW'
  refine (fnExactPhasorOf_walk a0 w0 W).mono fun e W' ⟨he, hg⟩ => ?_
  subst he
  exact ⟨_, rfl, post_of_same (pa := []) (pv := []) hW' (fun _ _ _ => (trodAll_cons_mk (shut_bool Try.underlying4 _) trodAll_mk0)) (fun sp _ => (trodAll_cons_mk (shut_float Try.underlying25 w0) trodAll_mk0)) (fun _ _ => rfl) rfl
    (hg.frame _) hg.2.1 (ok_one (by kernel_rfl) rfl (okWide_bool_mk Try.underlying4 _))⟩

/-- The given statement. -/
theorem fnExactPhasorOf_holds : Rows.FnExactPhasorOfSaid :=
  OpenClaim.holds_of_wide 9 Try.f9 rfl rfl rfl rfl rfl rfl rfl ⟨rfl, rfl, rfl, rfl, rfl⟩ rfl rfl rfl rfl rfl (by kernel_rfl) Try.func9 (by kernel_rfl)
    (of_decide_eq_true (by kernel_rfl)) (by unfold Func.isWrapper; first | (rw [if_pos (by decide +kernel)]; kernel_rfl) | (rw [if_neg (by decide +kernel)]; exact ⟨rfl, rfl⟩))
    (fun os started H enc _ => fnExactPhasorOf_lifted os started H enc)
end Go.Proofs.Ytfnplomgicgenaa.LH
