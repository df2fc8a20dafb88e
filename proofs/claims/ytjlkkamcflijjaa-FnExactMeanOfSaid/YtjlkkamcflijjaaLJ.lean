/- The program's MeanOf is the reference's, for every argument; no condition. -/
import Derived.Test.YtjlkkamcflijjaaRows
import Derived.Test.YtjlkkamcflijjaaMj
import Derived.Test.YtjlkkamcflijjaaMg
import Derived.WalkKit
import Derived.ProofKit
import Derived.OpenShut
namespace Go.Proofs.Ytjlkkamcflijjaa.LJ
open Go.ChangeShapes Go.WideShapes Go.ChangeAt Go.RowKit Fl WA WB Md Me Mf Mg Mi Mj
set_option linter.unusedVariables false
theorem own : ownKnob Try.prog.godebug = none := by kernel_rfl
theorem laidOut : laidOutB Try.prog = true := by kernel_rfl
theorem cells_f32 : Try.prog.cellsOf 23 = 1 := by kernel_rfl
set_option maxHeartbeats 1000000 in
theorem fnExactMeanOf_walk (A0 : Option Addr) (c0 : Nat) (x0 : List Nat) (w : World) (h0 : Rd w w.heap.size A0 x0) : Calls Try.prog 6 #[.slice A0 x0.length c0] w fun e w' => e = .returned (.bool true) ∧ Below w.heap.size w w' := by
  have H0 := Lib.hid h0
  clear h0
  by_cases hl : x0.length ≤ 1048576
  · go_enter Try.func6, Try.ntmps6
    go_wp2_with fail
    refine (toFloat32S_any x0 A0 c0 _ H0.out hl).mono ?_
    rintro e w1 ⟨g1, hg1, rfl, ho1, hb1⟩
    have R1 := Lib.hid (Rd.of_own ho1)
    have B1 := Lib.hid hb1
    clear ho1 hb1
    go_wp2_with fail
    refine (spec_MeanOf x0 _ _ _ w1.heap.size (by exact R1.out) hl).mono ?_
    rintro e w' ⟨r, n, hr, rfl, rfl⟩
    have HR := Lib.hid hr
    clear hr
    go_wp2_with fail
    refine (toFloat32S_any x0 A0 c0 _ (by exact (H0.out.below B1.out).more B1.out.size) hl).mono ?_
    rintro e w2 ⟨g2, hg2, rfl, ho2, hb2⟩
    have R2 := Lib.hid (Rd.of_own ho2)
    have B2 := Lib.hid (B1.out.trans (Below.mono (und hb2) B1.out.size))
    clear ho2 hb2
    go_wp2_with fail
    refine (impl_MeanOf x0 _ _ _ w2.heap.size (by exact R2.out) hl).mono ?_
    rintro e w' ⟨s, m, hs, rfl, rfl⟩
    have HG := Lib.hid hs
    clear hs
    have hs := HG.out
    clear HG
    have HE := Lib.hid (show fl .f32 s = fl .f32 r from hs.1.trans HR.out.1.symm)
    clear hs HR
    go_wp2_with (refine wpList_fconv _ _ _ rfl rfl .f32 .f64 (by decide) _ rfl (by rw [Try.underlying23]; rfl) Try.underlying28 ?_); intro p np hp
    go_wp2_with (refine wpList_fconv _ _ _ rfl rfl .f32 .f64 (by decide) _ rfl (by rw [Try.underlying23]; rfl) Try.underlying28 ?_); intro q nq hq
    have HPQ := Lib.hid (same_wide hp hq HE.out)
    clear hp hq
    go_wp2_with fail
    refine (sameFloat_yes p q HPQ.out _).mono ?_
    rintro e w' ⟨rfl, k, rfl⟩
    go_wp2_with fail
    refine (toFloat32S_any x0 A0 c0 _ (by exact (H0.out.below B2.out).more B2.out.size) hl).mono ?_
    rintro e w3 ⟨g3, hg3, rfl, ho3, hb3⟩
    have R3 := Lib.hid (Rd.of_own ho3)
    have R2' := Lib.hid ((R2.out.below (und hb3)).more hb3.size)
    have B3 := Lib.hid (B2.out.trans (Below.mono (und hb3) B2.out.size))
    clear ho3 hb3
    go_wp2_with fail
    refine (eqFloat32S_yes x0 x0 _ _ _ _ _ w3.heap.size (by exact R2'.out) (by exact R3.out) hl (Alike.rfl' _)).mono ?_
    rintro e w' ⟨k2, rfl, rfl⟩
    go_wp2
    go_ret
    exact ⟨rfl, upd B3.out⟩
  · go_enter Try.func6, Try.ntmps6
    go_wp2
    go_ret
    exact ⟨rfl, Below.refl _ _⟩
set_option maxRecDepth 100000 in
theorem fnExactMeanOf_lifted (os : Os) (started : os.Started) (H : Type) (enc : TypeId × Value → H) :
    ReturnsInHanded {} Try.checked os 6 .any (Rows.fnExactMeanOfSpec.pre6 enc Try.prog Try.f6 Rows.fnExactMeanOfRow.domain false) (Rows.fnExactMeanOfSpec.post enc Try.prog Try.f6 false true false false) := by
  refine returnsInHanded_of_change (C := Try.checked) own started (by kernel_rfl) Try.func6
    (ChangeSpec.witness6 (enc := enc) (C := Try.checked) false ⟨#[], #[.slice none 0 0], []⟩ 8 (by kernel_rfl) (by kernel_rfl) (by kernel_rfl) (by kernel_rfl)) ?_
  intro W base args ds gs before hval0 hW hcnd hsz
  have hval : ∀ (j : Nat) t v, Try.f6.params[j]? = some t → args[j]? = some v → Value.okWide Try.prog W .any base t v := hval0
  have hW' := hW
  obtain ⟨p, q, hA0, hV, rfl, hfz, hnd⟩ := hW
  have hA : DataW.TrodAll enc Try.prog W 0 (fun _ => true) true Try.f6.params.toList args.toList ds p := hA0
  rw [Try.params6] at hA hval
  obtain ⟨v0, vs0, d0, ds0, p0, q0, hargs, rfl, rfl, h0, r0⟩ := trodAll_cons hA
  obtain ⟨rfl, rfl, rfl⟩ := trodAll_nil r0
  obtain rfl : args = #[v0] := by cases args; simp_all
  obtain ⟨rfl, rfl⟩ := trodVars_none hV
  obtain ⟨A0, c0, x0, rfl, u0, w0⟩ := open_f32s Try.underlying22 Try.underlying23 cells_f32 (hval 0 22 v0 rfl rfl) h0
  clear hA0 hval0
  simp only [List.append_nil] at hW'
  refine (fnExactMeanOf_walk A0 c0 x0 W u0).mono fun e W' ⟨he, hb⟩ => ?_
  subst he
  have hlt := hW'.lt
  exact ⟨_, rfl, post_new hW' (fun _ _ _ => (trodAll_cons_mk (shut_bool Try.underlying4 _) trodAll_mk0)) (fun sp hsp => (trodAll_cons_mk (WideElems.Trod_stays laidOut (by kernel_rfl) (of_decide_eq_true (by kernel_rfl)) h0 (fun x hx => hb.same (hlt x (by simp [hx]))) (fun x hx => hsp x (by simp [hx]))) trodAll_mk0)) (fun _ _ => rfl) (by simp) hb
    (ok_one (by kernel_rfl) rfl (okWide_bool_mk Try.underlying4 _))⟩

/-- The given statement. -/
theorem fnExactMeanOf_holds : Rows.FnExactMeanOfSaid :=
  OpenClaim.holds_of_wide 6 Try.f6 rfl rfl rfl rfl rfl rfl rfl ⟨rfl, rfl, rfl, rfl, rfl⟩ rfl rfl rfl rfl rfl (by kernel_rfl) Try.func6 (by kernel_rfl)
    (of_decide_eq_true (by kernel_rfl)) (by unfold Func.isWrapper; first | (rw [if_pos (by decide +kernel)]; kernel_rfl) | (rw [if_neg (by decide +kernel)]; exact ⟨rfl, rfl⟩))
    (fun os started H enc _ => fnExactMeanOf_lifted os started H enc)
end Go.Proofs.Ytjlkkamcflijjaa.LJ
