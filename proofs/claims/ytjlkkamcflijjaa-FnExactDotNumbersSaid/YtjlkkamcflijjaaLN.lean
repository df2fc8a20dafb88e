/- The program's DotNumbers is the reference's, for every argument; no condition. -/
import Derived.Test.YtjlkkamcflijjaaRows
import Derived.Test.YtjlkkamcflijjaaMh
import Derived.Test.YtjlkkamcflijjaaMg
import Derived.WalkKit
import Derived.ProofKit
import Derived.OpenShut
namespace Go.Proofs.Ytjlkkamcflijjaa.LN
open Go.ChangeShapes Go.WideShapes Go.ChangeAt Go.RowKit Fl WA WB Md Me Mf Mg Mh
set_option linter.unusedVariables false
theorem own : ownKnob Try.prog.godebug = none := by kernel_rfl
theorem laidOut : laidOutB Try.prog = true := by kernel_rfl
theorem cells_f32 : Try.prog.cellsOf 23 = 1 := by kernel_rfl
theorem dn0 {B n : Nat} {w w' : World} (h : Below B (w.drewN n) w') : Below B (w.drewN n) w' := h
set_option maxHeartbeats 2000000 in
theorem fnExactDotNumbers_walk (A0 : Option Addr) (c0 : Nat) (x0 : List Nat) (A1 : Option Addr) (c1 : Nat) (x1 : List Nat) (w : World) (h0 : Rd w w.heap.size A0 x0) (h1 : Rd w w.heap.size A1 x1) : Calls Try.prog 3 #[.slice A0 x0.length c0, .slice A1 x1.length c1] w fun e w' => e = .returned (.bool true) ∧ Below w.heap.size w w' := by
  have H0 := Lib.hid h0
  have H1 := Lib.hid h1
  clear h0 h1
  by_cases hl0 : x0.length ≤ 1048576
  case neg =>
    go_enter Try.func3, Try.ntmps3
    go_wp2
    go_ret
    exact ⟨rfl, Below.refl _ _⟩
  by_cases hl1 : x1.length ≤ 1048576
  case neg =>
    go_enter Try.func3, Try.ntmps3
    go_wp2
    go_ret
    exact ⟨rfl, Below.refl _ _⟩
  by_cases hd : x0.length ≤ 256 ∧ x1.length = x0.length
  · obtain ⟨hda, hdb⟩ := hd
    have HD := Lib.hid hdb
    have HA := Lib.hid (show (x0.length : Int) ≤ 256 by omega)
    clear hdb hda
    go_enter Try.func3, Try.ntmps3
    go_wp2_with fail
    refine (toFloat32S_any x0 A0 c0 _ (by exact H0.out) hl0).mono ?_
    rintro e w1 ⟨g1, hg1, rfl, ho1, hb1⟩
    have R1 := Lib.hid (Rd.of_own ho1)
    have B1 := Lib.hid hb1
    clear ho1 hb1
    go_wp2_with fail
    refine (toFloat32S_any x1 A1 c1 _ (by exact (H1.out.below B1.out).more B1.out.size) hl1).mono ?_
    rintro e w2 ⟨g2, hg2, rfl, ho2, hb2⟩
    have R2 := Lib.hid (Rd.of_own ho2)
    have R1' := Lib.hid ((R1.out.below hb2).more hb2.size)
    clear R1
    have R1 := Lib.hid R1'.out
    clear R1'
    have B2 := Lib.hid (B1.out.trans (Below.mono hb2 B1.out.size))
    clear ho2 hb2
    go_wp2_with fail
    refine (spec_Dot_yes x0 x1 _ _ _ _ _ w2.heap.size (by exact R1.out) (by exact R2.out) hl0 hl1 HA.out HD.out).mono ?_
    rintro e w' ⟨r, n, hr, rfl, rfl⟩
    have HR := Lib.hid hr
    clear hr
    go_wp2_with fail
    refine (toFloat32S_any x0 A0 c0 _ (by exact (H0.out.below B2.out).more B2.out.size) hl0).mono ?_
    rintro e w3 ⟨g3, hg3, rfl, ho3, hb3⟩
    skip
    have R3 := Lib.hid (Rd.of_own ho3)
    have B3 := Lib.hid (B2.out.trans (Below.mono (und (n := _) hb3) B2.out.size))
    clear ho3 hb3
    go_wp2_with fail
    refine (toFloat32S_any x1 A1 c1 _ (by exact (H1.out.below B3.out).more B3.out.size) hl1).mono ?_
    rintro e w4 ⟨g4, hg4, rfl, ho4, hb4⟩
    skip
    have R4 := Lib.hid (Rd.of_own ho4)
    have R3' := Lib.hid ((R3.out.below hb4).more hb4.size)
    clear R3
    have R3 := Lib.hid R3'.out
    clear R3'
    have B4 := Lib.hid (B3.out.trans (Below.mono hb4 B3.out.size))
    clear ho4 hb4
    go_wp2_with fail
    refine (impl_Dot_yes x0 x1 _ _ _ _ _ w4.heap.size (by exact R3.out) (by exact R4.out) hl0 hl1 HA.out HD.out).mono ?_
    rintro e w' ⟨s, m, hs, rfl, rfl⟩
    have HE := Lib.hid (show fl .f32 s = fl .f32 r from hs.1.trans HR.out.1.symm)
    clear hs HR
    go_wp2_with (refine wpList_fconv _ _ _ rfl rfl .f32 .f64 (by decide) _ rfl (by rw [Try.underlying23]; rfl) Try.underlying28 ?_); intro p np hp
    go_wp2_with (refine wpList_fconv _ _ _ rfl rfl .f32 .f64 (by decide) _ rfl (by rw [Try.underlying23]; rfl) Try.underlying28 ?_); intro q nq hq
    have HPQ := Lib.hid (same_wide hp hq HE.out)
    clear hp hq
    go_wp2_with fail
    refine (sameFloat_yes p q HPQ.out _).mono ?_
    rintro e w' ⟨rfl, k, rfl⟩
    go_wp2_with fail
    refine (toFloat32S_any x0 A0 c0 _ (by exact (H0.out.below B4.out).more B4.out.size) hl0).mono ?_
    rintro e w5 ⟨g5, hg5, rfl, ho5, hb5⟩
    skip
    have R5 := Lib.hid (Rd.of_own ho5)
    have R3' := Lib.hid ((R3.out.below (und (n := _) hb5)).more hb5.size)
    clear R3
    have R3 := Lib.hid R3'.out
    clear R3'
    have R4' := Lib.hid ((R4.out.below (und (n := _) hb5)).more hb5.size)
    clear R4
    have R4 := Lib.hid R4'.out
    clear R4'
    have B5 := Lib.hid (B4.out.trans (Below.mono (und (n := _) hb5) B4.out.size))
    clear ho5 hb5
    go_wp2_with fail
    refine (eqFloat32S_yes x0 x0 _ _ _ _ _ w5.heap.size (by exact R3.out) (by exact R5.out) hl0 (Alike.rfl' _)).mono ?_
    rintro e w' ⟨k2, rfl, rfl⟩
    go_wp2_with fail
    refine (toFloat32S_any x1 A1 c1 _ (by exact (H1.out.below B5.out).more B5.out.size) hl1).mono ?_
    rintro e w6 ⟨g6, hg6, rfl, ho6, hb6⟩
    skip
    have R6 := Lib.hid (Rd.of_own ho6)
    have R4' := Lib.hid ((R4.out.below (und (n := _) hb6)).more hb6.size)
    clear R4
    have R4 := Lib.hid R4'.out
    clear R4'
    have B6 := Lib.hid (B5.out.trans (Below.mono (und (n := _) hb6) B5.out.size))
    clear ho6 hb6
    go_wp2_with fail
    refine (eqFloat32S_yes x1 x1 _ _ _ _ _ w6.heap.size (by exact R4.out) (by exact R6.out) hl1 (Alike.rfl' _)).mono ?_
    rintro e w' ⟨k3, rfl, rfl⟩
    go_wp2
    go_ret
    exact ⟨rfl, upd B6.out⟩
  · have HD := Lib.hid hd
    clear hd
    go_enter Try.func3, Try.ntmps3
    go_wp2_with fail
    refine (toFloat32S_any x0 A0 c0 _ (by exact H0.out) hl0).mono ?_
    rintro e w1 ⟨g1, hg1, rfl, ho1, hb1⟩
    have R1 := Lib.hid (Rd.of_own ho1)
    have B1 := Lib.hid hb1
    clear ho1 hb1
    go_wp2_with fail
    refine (toFloat32S_any x1 A1 c1 _ (by exact (H1.out.below B1.out).more B1.out.size) hl1).mono ?_
    rintro e w2 ⟨g2, hg2, rfl, ho2, hb2⟩
    have R2 := Lib.hid (Rd.of_own ho2)
    have R1' := Lib.hid ((R1.out.below hb2).more hb2.size)
    clear R1
    have R1 := Lib.hid R1'.out
    clear R1'
    have B2 := Lib.hid (B1.out.trans (Below.mono hb2 B1.out.size))
    clear ho2 hb2
    go_wp2_with fail
    refine (spec_Dot_no x0 x1 _ _ _ _ _ w2.heap.size (by exact R1.out) (by exact R2.out) hl0 hl1 HD.out).mono ?_
    rintro e w' ⟨r, n, rfl, rfl, rfl⟩
    skip
    go_wp2_with fail
    refine (toFloat32S_any x0 A0 c0 _ (by exact (H0.out.below B2.out).more B2.out.size) hl0).mono ?_
    rintro e w3 ⟨g3, hg3, rfl, ho3, hb3⟩
    skip
    have R3 := Lib.hid (Rd.of_own ho3)
    have B3 := Lib.hid (B2.out.trans (Below.mono (und (n := _) hb3) B2.out.size))
    clear ho3 hb3
    go_wp2_with fail
    refine (toFloat32S_any x1 A1 c1 _ (by exact (H1.out.below B3.out).more B3.out.size) hl1).mono ?_
    rintro e w4 ⟨g4, hg4, rfl, ho4, hb4⟩
    skip
    have R4 := Lib.hid (Rd.of_own ho4)
    have R3' := Lib.hid ((R3.out.below hb4).more hb4.size)
    clear R3
    have R3 := Lib.hid R3'.out
    clear R3'
    have B4 := Lib.hid (B3.out.trans (Below.mono hb4 B3.out.size))
    clear ho4 hb4
    go_wp2_with fail
    refine (impl_Dot_no x0 x1 _ _ _ _ _ w4.heap.size (by exact R3.out) (by exact R4.out) hl0 hl1 HD.out).mono ?_
    rintro e w' ⟨s, m, rfl, rfl, rfl⟩
    skip
    skip
    go_wp2_with (refine wpList_fconv _ _ _ rfl rfl .f32 .f64 (by decide) _ rfl (by rw [Try.underlying23]; rfl) Try.underlying28 ?_); intro p np hp
    go_wp2_with (refine wpList_fconv _ _ _ rfl rfl .f32 .f64 (by decide) _ rfl (by rw [Try.underlying23]; rfl) Try.underlying28 ?_); intro q nq hq
    have HPQ := Lib.hid (same_wide hp hq rfl)
    clear hp hq
    go_wp2_with fail
    refine (sameFloat_yes p q HPQ.out _).mono ?_
    rintro e w' ⟨rfl, k, rfl⟩
    go_wp2_with fail
    refine (toFloat32S_any x0 A0 c0 _ (by exact (H0.out.below B4.out).more B4.out.size) hl0).mono ?_
    rintro e w5 ⟨g5, hg5, rfl, ho5, hb5⟩
    skip
    have R5 := Lib.hid (Rd.of_own ho5)
    have R3' := Lib.hid ((R3.out.below (und (n := _) hb5)).more hb5.size)
    clear R3
    have R3 := Lib.hid R3'.out
    clear R3'
    have R4' := Lib.hid ((R4.out.below (und (n := _) hb5)).more hb5.size)
    clear R4
    have R4 := Lib.hid R4'.out
    clear R4'
    have B5 := Lib.hid (B4.out.trans (Below.mono (und (n := _) hb5) B4.out.size))
    clear ho5 hb5
    go_wp2_with fail
    refine (eqFloat32S_yes x0 x0 _ _ _ _ _ w5.heap.size (by exact R3.out) (by exact R5.out) hl0 (Alike.rfl' _)).mono ?_
    rintro e w' ⟨k2, rfl, rfl⟩
    go_wp2_with fail
    refine (toFloat32S_any x1 A1 c1 _ (by exact (H1.out.below B5.out).more B5.out.size) hl1).mono ?_
    rintro e w6 ⟨g6, hg6, rfl, ho6, hb6⟩
    skip
    have R6 := Lib.hid (Rd.of_own ho6)
    have R4' := Lib.hid ((R4.out.below (und (n := _) hb6)).more hb6.size)
    clear R4
    have R4 := Lib.hid R4'.out
    clear R4'
    have B6 := Lib.hid (B5.out.trans (Below.mono (und (n := _) hb6) B5.out.size))
    clear ho6 hb6
    go_wp2_with fail
    refine (eqFloat32S_yes x1 x1 _ _ _ _ _ w6.heap.size (by exact R4.out) (by exact R6.out) hl1 (Alike.rfl' _)).mono ?_
    rintro e w' ⟨k3, rfl, rfl⟩
    go_wp2
    go_ret
    exact ⟨rfl, upd B6.out⟩
set_option maxRecDepth 100000 in
theorem fnExactDotNumbers_lifted (os : Os) (started : os.Started) (H : Type) (enc : TypeId × Value → H) :
    ReturnsInHanded {} Try.checked os 3 .any (Rows.fnExactDotNumbersSpec.pre6 enc Try.prog Try.f3 Rows.fnExactDotNumbersRow.domain false) (Rows.fnExactDotNumbersSpec.post enc Try.prog Try.f3 false true false false) := by
  refine returnsInHanded_of_change (C := Try.checked) own started (by kernel_rfl) Try.func3
    (ChangeSpec.witness6 (enc := enc) (C := Try.checked) false ⟨#[], #[.slice none 0 0, .slice none 0 0], []⟩ 8 (by kernel_rfl) (by kernel_rfl) (by kernel_rfl) (by kernel_rfl)) ?_
  intro W base args ds gs before hval0 hW hcnd hsz
  have hval : ∀ (j : Nat) t v, Try.f3.params[j]? = some t → args[j]? = some v → Value.okWide Try.prog W .any base t v := hval0
  have hW' := hW
  obtain ⟨p, q, hA0, hV, rfl, hfz, hnd⟩ := hW
  have hA : DataW.TrodAll enc Try.prog W 0 (fun _ => true) true Try.f3.params.toList args.toList ds p := hA0
  rw [Try.params3] at hA hval
  obtain ⟨v0, vs0, d0, ds0, p0, q0, hargs, rfl, rfl, h0, r0⟩ := trodAll_cons hA
  obtain ⟨v1, vs1, d1, ds1, p1, q1, rfl, rfl, rfl, h1, r1⟩ := trodAll_cons r0
  obtain ⟨rfl, rfl, rfl⟩ := trodAll_nil r1
  obtain rfl : args = #[v0, v1] := by cases args; simp_all
  obtain ⟨rfl, rfl⟩ := trodVars_none hV
  obtain ⟨A0, c0, x0, rfl, u0, w0⟩ := open_f32s Try.underlying22 Try.underlying23 cells_f32 (hval 0 22 v0 rfl rfl) h0
  obtain ⟨A1, c1, x1, rfl, u1, w1⟩ := open_f32s Try.underlying22 Try.underlying23 cells_f32 (hval 1 22 v1 rfl rfl) h1
  clear hA0 hval0
  simp only [List.append_nil] at hW'
  refine (fnExactDotNumbers_walk A0 c0 x0 A1 c1 x1 W u0 u1).mono fun e W' ⟨he, hb⟩ => ?_
  subst he
  have hlt := hW'.lt
  exact ⟨_, rfl, post_new hW' (fun _ _ _ => (trodAll_cons_mk (shut_bool Try.underlying4 _) trodAll_mk0)) (fun sp hsp => (trodAll_cons_mk (WideElems.Trod_stays laidOut (by kernel_rfl) (of_decide_eq_true (by kernel_rfl)) h0 (fun x hx => hb.same (hlt x (by simp [hx]))) (fun x hx => hsp x (by simp [hx]))) (trodAll_cons_mk (WideElems.Trod_stays laidOut (by kernel_rfl) (of_decide_eq_true (by kernel_rfl)) h1 (fun x hx => hb.same (hlt x (by simp [hx]))) (fun x hx => hsp x (by simp [hx]))) trodAll_mk0))) (fun _ _ => rfl) (by simp) hb
    (ok_one (by kernel_rfl) rfl (okWide_bool_mk Try.underlying4 _))⟩

/-- The given statement. -/
theorem fnExactDotNumbers_holds : Rows.FnExactDotNumbersSaid :=
  OpenClaim.holds_of_wide 3 Try.f3 rfl rfl rfl rfl rfl rfl rfl ⟨rfl, rfl, rfl, rfl, rfl⟩ rfl rfl rfl rfl rfl (by kernel_rfl) Try.func3 (by kernel_rfl)
    (of_decide_eq_true (by kernel_rfl)) (by unfold Func.isWrapper; first | (rw [if_pos (by decide +kernel)]; kernel_rfl) | (rw [if_neg (by decide +kernel)]; exact ⟨rfl, rfl⟩))
    (fun os started H enc _ => fnExactDotNumbers_lifted os started H enc)
end Go.Proofs.Ytjlkkamcflijjaa.LN
