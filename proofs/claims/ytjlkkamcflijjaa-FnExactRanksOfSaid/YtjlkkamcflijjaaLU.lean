/- The program's RanksOf is the reference's, for every argument; no condition. -/
import Derived.Test.YtjlkkamcflijjaaRows
import Derived.Test.YtjlkkamcflijjaaMq
import Derived.Test.YtjlkkamcflijjaaMg
import Derived.WalkKit
import Derived.ProofKit
import Derived.OpenShut
namespace Go.Proofs.Ytjlkkamcflijjaa.LU
open Go.ChangeShapes Go.WideShapes Go.ChangeAt Go.RowKit Fl WA WB Md Me Mf Mg Mi Mj Mk Ml Mo Mq
set_option linter.unusedVariables false
theorem own : ownKnob Try.prog.godebug = none := by kernel_rfl
theorem laidOut : laidOutB Try.prog = true := by kernel_rfl
theorem cells_f32 : Try.prog.cellsOf 23 = 1 := by kernel_rfl
theorem short_of {rs : List Nat} {O : List (Option Nat)} {b : Bool} {L : Nat} (h : rs.map (fl .f32) = if b then O else []) (hO : O.length ≤ L) : rs.length ≤ L := by
  have e := congrArg List.length h
  rw [List.length_map] at e
  rw [e]
  cases b
  · simp
  · exact hO
set_option maxHeartbeats 4000000 in
theorem fnExactRanksOf_walk (A0 : Option Addr) (c0 : Nat) (x0 : List Nat) (w : World) (h0 : Rd w w.heap.size A0 x0) : Calls Try.prog 11 #[.slice A0 x0.length c0] w fun e w' => e = .returned (.bool true) ∧ Below w.heap.size w w' := by
  have H0 := Lib.hid h0
  clear h0
  by_cases hl0 : x0.length ≤ 1048576
  case neg =>
    go_enter Try.func11, Try.ntmps11
    go_wp2
    go_ret
    exact ⟨rfl, Below.refl _ _⟩
  go_enter Try.func11, Try.ntmps11
  have BB := Lib.hid (Below.refl w.heap.size w)
  go_wp2_with fail
  refine (toFloat32S_any x0 A0 c0 _ (by exact (H0.out.below BB.out).more BB.out.size) hl0).mono ?_
  rintro e w1 ⟨g1, hg1, rfl, ho1, hb1⟩
  have O1 : Hid (Own w1 _ (some ⟨g1, 0, none⟩) x0.length x0) := Lib.hid ho1
  clear ho1 hg1
  have GE1 := Lib.hid (fun a ha => Nat.le_trans BB.out.size (O1.out.ge a ha))
  have BB' := Lib.hid (BB.out.trans (Below.mono (by first | exact hb1 | exact und' hb1) BB.out.size))
  clear BB
  have BB := BB'
  clear BB'
  clear hb1
  go_wp2_with fail
  refine (spec_RanksOf x0 _ _ _ (by exact O1.out.rd) hl0  ).mono ?_
  rintro e w2 ⟨ws, Aws, cws, hv2, rfl, ho2, hb2⟩
  have O2 := Lib.hid ho2
  have Vws := Lib.hid hv2
  clear ho2 hv2
  have hlws : ws.length ≤ 1048576 := short_of Vws.out (by rw [rank_len (Nat.le_refl _)]; exact hl0)
  have GE2 := Lib.hid (fun a ha => Nat.le_trans BB.out.size (O2.out.ge a ha))
  have AP1_2 := Lib.hid (apart O1.out O2.out (Nat.le_refl _))
  have O1' := Lib.hid (O1.out.below (by first | exact hb2 | exact und' hb2))
  clear O1
  have O1 := O1'
  clear O1'
  have BB' := Lib.hid (BB.out.trans (Below.mono (by first | exact hb2 | exact und' hb2) BB.out.size))
  clear BB
  have BB := BB'
  clear BB'
  clear hb2
  clear O1
  go_wp2_with fail
  refine (toFloat32S_any x0 A0 c0 _ (by exact (H0.out.below BB.out).more BB.out.size) hl0).mono ?_
  rintro e w3 ⟨g3, hg3, rfl, ho3, hb3⟩
  have O3 : Hid (Own w3 _ (some ⟨g3, 0, none⟩) x0.length x0) := Lib.hid ho3
  clear ho3 hg3
  have GE3 := Lib.hid (fun a ha => Nat.le_trans BB.out.size (O3.out.ge a ha))
  have AP2_3 := Lib.hid (apart O2.out O3.out (Nat.le_refl _))
  have O2' := Lib.hid (O2.out.below (by first | exact hb3 | exact und' hb3))
  clear O2
  have O2 := O2'
  clear O2'
  have BB' := Lib.hid (BB.out.trans (Below.mono (by first | exact hb3 | exact und' hb3) BB.out.size))
  clear BB
  have BB := BB'
  clear BB'
  clear hb3
  go_wp2_with fail
  refine (impl_RanksOf x0 _ _ _ (by exact O3.out.rd) hl0  ).mono ?_
  rintro e w4 ⟨gs, Ags, cgs, hv4, rfl, ho4, hb4⟩
  have O4 := Lib.hid ho4
  have Vgs := Lib.hid hv4
  clear ho4 hv4
  have hlgs : gs.length ≤ 1048576 := short_of Vgs.out (by rw [rank_len (Nat.le_refl _)]; exact hl0)
  have GE4 := Lib.hid (fun a ha => Nat.le_trans BB.out.size (O4.out.ge a ha))
  have AP2_4 := Lib.hid (apart O2.out O4.out (Nat.le_refl _))
  have AP3_4 := Lib.hid (apart O3.out O4.out (Nat.le_refl _))
  have O2' := Lib.hid (O2.out.below (by first | exact hb4 | exact und' hb4))
  clear O2
  have O2 := O2'
  clear O2'
  have O3' := Lib.hid (O3.out.below (by first | exact hb4 | exact und' hb4))
  clear O3
  have O3 := O3'
  clear O3'
  have BB' := Lib.hid (BB.out.trans (Below.mono (by first | exact hb4 | exact und' hb4) BB.out.size))
  clear BB
  have BB := BB'
  clear BB'
  clear hb4
  have hal : Me.Alike gs ws := Vgs.out.trans Vws.out.symm
  have HAL := Lib.hid hal
  clear hal
  go_wp2_with fail
  refine (eqFloat32S_yes gs ws _ _ _ _ _ _ (by exact O4.out.rd) (by exact O2.out.rd) hlgs HAL.out).mono ?_
  rintro e w' ⟨n5, rfl, rfl⟩
  go_wp2_with fail
  refine (toFloat32S_any x0 A0 c0 _ (by exact (H0.out.below BB.out).more BB.out.size) hl0).mono ?_
  rintro e w6 ⟨g6, hg6, rfl, ho6, hb6⟩
  have O6 : Hid (Own w6 _ (some ⟨g6, 0, none⟩) x0.length x0) := Lib.hid ho6
  clear ho6 hg6
  have GE6 := Lib.hid (fun a ha => Nat.le_trans BB.out.size (O6.out.ge a ha))
  have AP2_6 := Lib.hid (apart O2.out O6.out (Nat.le_refl _))
  have AP3_6 := Lib.hid (apart O3.out O6.out (Nat.le_refl _))
  have AP4_6 := Lib.hid (apart O4.out O6.out (Nat.le_refl _))
  have O2' := Lib.hid (O2.out.below (by first | exact hb6 | exact und' hb6))
  clear O2
  have O2 := O2'
  clear O2'
  have O3' := Lib.hid (O3.out.below (by first | exact hb6 | exact und' hb6))
  clear O3
  have O3 := O3'
  clear O3'
  have O4' := Lib.hid (O4.out.below (by first | exact hb6 | exact und' hb6))
  clear O4
  have O4 := O4'
  clear O4'
  have BB' := Lib.hid (BB.out.trans (Below.mono (by first | exact hb6 | exact und' hb6) BB.out.size))
  clear BB
  have BB := BB'
  clear BB'
  clear hb6
  go_wp2_with fail
  refine (eqFloat32S_yes x0 x0 _ _ _ _ _ _ (by exact O3.out.rd) (by exact O6.out.rd) hl0 (Me.Alike.rfl' _)).mono ?_
  rintro e w' ⟨n7, rfl, rfl⟩
  clear O6
  go_wp2_with fail
  refine (markFloat32S_any 1 (by omega) (by omega) x0 _ _ _ _ (by exact O3.out) hl0).mono ?_
  rintro e w8 ⟨rfl, ho8, hgr8⟩
  have G8 := Lib.hid (undg hgr8)
  clear hgr8
  have O2' := Lib.hid (O2.out.kept G8.out AP2_3.out)
  clear O2
  have O2 := O2'
  clear O2'
  have O4' := Lib.hid (O4.out.kept G8.out (flip_ap AP3_4.out))
  clear O4
  have O4 := O4'
  clear O4'
  have BB' := Lib.hid (BB.out.trans (grown_below G8.out BB.out.size GE3.out))
  clear BB
  have BB := BB'
  clear BB'
  clear O3 G8
  have O3 := Lib.hid ho8
  clear ho8
  clear O3
  go_wp2_with fail
  refine (eqFloat32S_yes gs ws _ _ _ _ _ _ (by exact O4.out.rd) (by exact O2.out.rd) hlgs HAL.out).mono ?_
  rintro e w' ⟨n9, rfl, rfl⟩
  go_wp2_with fail
  refine (markFloat32S_any 1 (by omega) (by omega) gs _ _ _ _ (by exact O4.out) hlgs).mono ?_
  rintro e w10 ⟨rfl, ho10, hgr10⟩
  have G10 := Lib.hid (undg hgr10)
  clear hgr10
  have O2' := Lib.hid (O2.out.kept G10.out AP2_4.out)
  clear O2
  have O2 := O2'
  clear O2'
  have BB' := Lib.hid (BB.out.trans (grown_below G10.out BB.out.size GE4.out))
  clear BB
  have BB := BB'
  clear BB'
  clear O4 G10
  have O4 := Lib.hid ho10
  clear ho10
  go_wp2_with fail
  refine (heldFloat32S_any 1 (by omega) (by omega) gs.length _ _ _ _ (by exact O4.out.rd) hlgs).mono ?_
  rintro e w' ⟨rfl, rfl⟩
  go_wp2_with fail
  refine (toFloat32S_any x0 A0 c0 _ (by exact (H0.out.below BB.out).more BB.out.size) hl0).mono ?_
  rintro e w11 ⟨g11, hg11, rfl, ho11, hb11⟩
  have O11 : Hid (Own w11 _ (some ⟨g11, 0, none⟩) x0.length x0) := Lib.hid ho11
  clear ho11 hg11
  have GE11 := Lib.hid (fun a ha => Nat.le_trans BB.out.size (O11.out.ge a ha))
  have AP2_11 := Lib.hid (apart O2.out O11.out (Nat.le_refl _))
  have AP4_11 := Lib.hid (apart O4.out O11.out (Nat.le_refl _))
  have O2' := Lib.hid (O2.out.below (by first | exact hb11 | exact und' hb11))
  clear O2
  have O2 := O2'
  clear O2'
  have O4' := Lib.hid (O4.out.below (by first | exact hb11 | exact und' hb11))
  clear O4
  have O4 := O4'
  clear O4'
  have BB' := Lib.hid (BB.out.trans (Below.mono (by first | exact hb11 | exact und' hb11) BB.out.size))
  clear BB
  have BB := BB'
  clear BB'
  clear hb11
  go_wp2_with fail
  refine (impl_RanksOf x0 _ _ _ (by exact O11.out.rd) hl0  ).mono ?_
  rintro e w12 ⟨hs, Ahs, chs, hv12, rfl, ho12, hb12⟩
  have O12 := Lib.hid ho12
  have Vhs := Lib.hid hv12
  clear ho12 hv12
  have hlhs : hs.length ≤ 1048576 := short_of Vhs.out (by rw [rank_len (Nat.le_refl _)]; exact hl0)
  have GE12 := Lib.hid (fun a ha => Nat.le_trans BB.out.size (O12.out.ge a ha))
  have AP2_12 := Lib.hid (apart O2.out O12.out (Nat.le_refl _))
  have AP4_12 := Lib.hid (apart O4.out O12.out (Nat.le_refl _))
  have AP11_12 := Lib.hid (apart O11.out O12.out (Nat.le_refl _))
  have O2' := Lib.hid (O2.out.below (by first | exact hb12 | exact und' hb12))
  clear O2
  have O2 := O2'
  clear O2'
  have O4' := Lib.hid (O4.out.below (by first | exact hb12 | exact und' hb12))
  clear O4
  have O4 := O4'
  clear O4'
  have O11' := Lib.hid (O11.out.below (by first | exact hb12 | exact und' hb12))
  clear O11
  have O11 := O11'
  clear O11'
  have BB' := Lib.hid (BB.out.trans (Below.mono (by first | exact hb12 | exact und' hb12) BB.out.size))
  clear BB
  have BB := BB'
  clear BB'
  clear hb12
  clear O11
  have hal2 : Me.Alike hs ws := Vhs.out.trans Vws.out.symm
  have HAL2 := Lib.hid hal2
  clear hal2
  go_wp2_with fail
  refine (eqFloat32S_yes hs ws _ _ _ _ _ _ (by exact O12.out.rd) (by exact O2.out.rd) hlhs HAL2.out).mono ?_
  rintro e w' ⟨n13, rfl, rfl⟩
  go_wp2_with fail
  refine (heldFloat32S_any 1 (by omega) (by omega) gs.length _ _ _ _ (by exact O4.out.rd) hlgs).mono ?_
  rintro e w' ⟨rfl, rfl⟩
  go_wp2
  go_ret
  exact ⟨rfl, upd' BB.out⟩
set_option maxRecDepth 100000 in
theorem fnExactRanksOf_lifted (os : Os) (started : os.Started) (H : Type) (enc : TypeId × Value → H) :
    ReturnsInHanded {} Try.checked os 11 .any (Rows.fnExactRanksOfSpec.pre6 enc Try.prog Try.f11 Rows.fnExactRanksOfRow.domain false) (Rows.fnExactRanksOfSpec.post enc Try.prog Try.f11 false true false false) := by
  refine returnsInHanded_of_change (C := Try.checked) own started (by kernel_rfl) Try.func11
    (ChangeSpec.witness6 (enc := enc) (C := Try.checked) false ⟨#[], #[.slice none 0 0], []⟩ 8 (by kernel_rfl) (by kernel_rfl) (by kernel_rfl) (by kernel_rfl)) ?_
  intro W base args ds gs before hval0 hW hcnd hsz
  have hval : ∀ (j : Nat) t v, Try.f11.params[j]? = some t → args[j]? = some v → Value.okWide Try.prog W .any base t v := hval0
  have hW' := hW
  obtain ⟨p, q, hA0, hV, rfl, hfz, hnd⟩ := hW
  have hA : DataW.TrodAll enc Try.prog W 0 (fun _ => true) true Try.f11.params.toList args.toList ds p := hA0
  rw [Try.params11] at hA hval
  obtain ⟨v0, vs0, d0, ds0, p0, q0, hargs, rfl, rfl, h0, r0⟩ := trodAll_cons hA
  obtain ⟨rfl, rfl, rfl⟩ := trodAll_nil r0
  obtain rfl : args = #[v0] := by cases args; simp_all
  obtain ⟨rfl, rfl⟩ := trodVars_none hV
  obtain ⟨A0, c0, x0, rfl, u0, w0⟩ := open_f32s Try.underlying22 Try.underlying23 cells_f32 (hval 0 22 v0 rfl rfl) h0
  clear hA0 hval0
  simp only [List.append_nil] at hW'
  refine (fnExactRanksOf_walk A0 c0 x0 W u0).mono fun e W' ⟨he, hb⟩ => ?_
  subst he
  have hlt := hW'.lt
  exact ⟨_, rfl, post_new hW' (fun _ _ _ => (trodAll_cons_mk (shut_bool Try.underlying4 _) trodAll_mk0)) (fun sp hsp => (trodAll_cons_mk (WideElems.Trod_stays laidOut (by kernel_rfl) (of_decide_eq_true (by kernel_rfl)) h0 (fun x hx => hb.same (hlt x (by simp [hx]))) (fun x hx => hsp x (by simp [hx]))) trodAll_mk0)) (fun _ _ => rfl) (by simp) hb
    (ok_one (by kernel_rfl) rfl (okWide_bool_mk Try.underlying4 _))⟩

/-- The given statement. -/
theorem fnExactRanksOf_holds : Rows.FnExactRanksOfSaid :=
  OpenClaim.holds_of_wide 11 Try.f11 rfl rfl rfl rfl rfl rfl rfl ⟨rfl, rfl, rfl, rfl, rfl⟩ rfl rfl rfl rfl rfl (by kernel_rfl) Try.func11 (by kernel_rfl)
    (of_decide_eq_true (by kernel_rfl)) (by unfold Func.isWrapper; first | (rw [if_pos (by decide +kernel)]; kernel_rfl) | (rw [if_neg (by decide +kernel)]; exact ⟨rfl, rfl⟩))
    (fun os started H enc _ => fnExactRanksOf_lifted os started H enc)
end Go.Proofs.Ytjlkkamcflijjaa.LU
