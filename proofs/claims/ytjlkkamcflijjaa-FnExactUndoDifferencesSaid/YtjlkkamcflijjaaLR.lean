/- The program's UndoDifferences is the reference's, for every argument; no condition. -/
import Derived.Test.YtjlkkamcflijjaaRows
import Derived.Test.YtjlkkamcflijjaaMp
import Derived.Test.YtjlkkamcflijjaaMg
import Derived.WalkKit
import Derived.ProofKit
import Derived.OpenShut
namespace Go.Proofs.Ytjlkkamcflijjaa.LR
open Go.ChangeShapes Go.WideShapes Go.ChangeAt Go.RowKit Fl WA WB Md Me Mf Mg Mi Mj Mk Ml Mo Mp
set_option linter.unusedVariables false
theorem own : ownKnob Try.prog.godebug = none := by kernel_rfl
theorem laidOut : laidOutB Try.prog = true := by kernel_rfl
theorem cells_f32 : Try.prog.cellsOf 23 = 1 := by kernel_rfl
theorem short_of {rs : List Nat} {O : List (Option Nat)} {b : Bool} {L : Nat} (h : rs.map (fl .f32) = if b then O else []) (hO : O.length ≤ L) : rs.length ≤ L := by
  have e := congrArg List.length h
  rw [List.length_map] at e
  rw [e]
  cases b
  · simp
  · exact hO
theorem undo_short {xs ys rs : List Nat} (h : rs.map (fl .f32) = if (undoB xs ys && allO (undoO xs ys ys.length)) then undoO xs ys ys.length else []) : rs.length ≤ 1048576 := by
  cases hb : undoB xs ys
  · rw [hb, Bool.false_and] at h
    have := congrArg List.length h
    simp at this
    simp [this]
  · refine short_of h ?_
    rw [undo_len]
    unfold undoB at hb
    simp only [Bool.and_eq_true, decide_eq_true_eq] at hb
    omega
set_option maxHeartbeats 4000000 in
theorem fnExactUndoDifferences_walk (A0 : Option Addr) (c0 : Nat) (x0 : List Nat) (A1 : Option Addr) (c1 : Nat) (x1 : List Nat) (w : World) (h0 : Rd w w.heap.size A0 x0) (h1 : Rd w w.heap.size A1 x1) : Calls Try.prog 10 #[.slice A0 x0.length c0, .slice A1 x1.length c1] w fun e w' => e = .returned (.bool true) ∧ Below w.heap.size w w' := by
  have H0 := Lib.hid h0
  clear h0
  have H1 := Lib.hid h1
  clear h1
  by_cases hl0 : x0.length ≤ 1048576
  case neg =>
    go_enter Try.func10, Try.ntmps10
    go_wp2
    go_ret
    exact ⟨rfl, Below.refl _ _⟩
  by_cases hl1 : x1.length ≤ 1048576
  case neg =>
    go_enter Try.func10, Try.ntmps10
    go_wp2
    go_ret
    exact ⟨rfl, Below.refl _ _⟩
  go_enter Try.func10, Try.ntmps10
  have BB := Lib.hid (Below.refl w.heap.size w)
  go_wp2_with fail
  refine (toFloat32S_any x0 A0 c0 _ (by exact (H0.out.below BB.out).more BB.out.size) hl0).mono ?_
  rintro e w1 ⟨g1, hg1, rfl, ho1, hb1⟩
  have O1 : Hid (Own w1 _ (some ⟨g1, 0, none⟩) x0.length x0) := Lib.hid ho1
  clear ho1 hg1
  have GE1 := Lib.hid (fun a ha => Nat.le_trans BB.out.size (O1.out.ge a ha))
  have BB' := Lib.hid (BB.out.trans (Below.mono (by first | exact hb1 | exact und' hb1) BB.out.size))
  clear BB
  have BB := BB'
  clear BB'
  clear hb1
  go_wp2_with fail
  refine (toFloat32S_any x1 A1 c1 _ (by exact (H1.out.below BB.out).more BB.out.size) hl1).mono ?_
  rintro e w2 ⟨g2, hg2, rfl, ho2, hb2⟩
  have O2 : Hid (Own w2 _ (some ⟨g2, 0, none⟩) x1.length x1) := Lib.hid ho2
  clear ho2 hg2
  have GE2 := Lib.hid (fun a ha => Nat.le_trans BB.out.size (O2.out.ge a ha))
  have AP1_2 := Lib.hid (apart O1.out O2.out (Nat.le_refl _))
  have O1' := Lib.hid (O1.out.below (by first | exact hb2 | exact und' hb2))
  clear O1
  have O1 := O1'
  clear O1'
  have BB' := Lib.hid (BB.out.trans (Below.mono (by first | exact hb2 | exact und' hb2) BB.out.size))
  clear BB
  have BB := BB'
  clear BB'
  clear hb2
  go_wp2_with fail
  refine (spec_UndoDifferences x0 _ _ x1 _ _ _ (by exact O1.out.rd) (by exact O2.out.rd) hl0 hl1  ).mono ?_
  rintro e w3 ⟨ws, Aws, cws, hv3, rfl, ho3, hb3⟩
  have O3 := Lib.hid ho3
  have Vws := Lib.hid hv3
  clear ho3 hv3
  have hlws : ws.length ≤ 1048576 := undo_short Vws.out
  have GE3 := Lib.hid (fun a ha => Nat.le_trans BB.out.size (O3.out.ge a ha))
  have AP1_3 := Lib.hid (apart O1.out O3.out (Nat.le_refl _))
  have AP2_3 := Lib.hid (apart O2.out O3.out (Nat.le_refl _))
  have O1' := Lib.hid (O1.out.below (by first | exact hb3 | exact und' hb3))
  clear O1
  have O1 := O1'
  clear O1'
  have O2' := Lib.hid (O2.out.below (by first | exact hb3 | exact und' hb3))
  clear O2
  have O2 := O2'
  clear O2'
  have BB' := Lib.hid (BB.out.trans (Below.mono (by first | exact hb3 | exact und' hb3) BB.out.size))
  clear BB
  have BB := BB'
  clear BB'
  clear hb3
  clear O1
  clear O2
  go_wp2_with fail
  refine (toFloat32S_any x0 A0 c0 _ (by exact (H0.out.below BB.out).more BB.out.size) hl0).mono ?_
  rintro e w4 ⟨g4, hg4, rfl, ho4, hb4⟩
  have O4 : Hid (Own w4 _ (some ⟨g4, 0, none⟩) x0.length x0) := Lib.hid ho4
  clear ho4 hg4
  have GE4 := Lib.hid (fun a ha => Nat.le_trans BB.out.size (O4.out.ge a ha))
  have AP3_4 := Lib.hid (apart O3.out O4.out (Nat.le_refl _))
  have O3' := Lib.hid (O3.out.below (by first | exact hb4 | exact und' hb4))
  clear O3
  have O3 := O3'
  clear O3'
  have BB' := Lib.hid (BB.out.trans (Below.mono (by first | exact hb4 | exact und' hb4) BB.out.size))
  clear BB
  have BB := BB'
  clear BB'
  clear hb4
  go_wp2_with fail
  refine (toFloat32S_any x1 A1 c1 _ (by exact (H1.out.below BB.out).more BB.out.size) hl1).mono ?_
  rintro e w5 ⟨g5, hg5, rfl, ho5, hb5⟩
  have O5 : Hid (Own w5 _ (some ⟨g5, 0, none⟩) x1.length x1) := Lib.hid ho5
  clear ho5 hg5
  have GE5 := Lib.hid (fun a ha => Nat.le_trans BB.out.size (O5.out.ge a ha))
  have AP3_5 := Lib.hid (apart O3.out O5.out (Nat.le_refl _))
  have AP4_5 := Lib.hid (apart O4.out O5.out (Nat.le_refl _))
  have O3' := Lib.hid (O3.out.below (by first | exact hb5 | exact und' hb5))
  clear O3
  have O3 := O3'
  clear O3'
  have O4' := Lib.hid (O4.out.below (by first | exact hb5 | exact und' hb5))
  clear O4
  have O4 := O4'
  clear O4'
  have BB' := Lib.hid (BB.out.trans (Below.mono (by first | exact hb5 | exact und' hb5) BB.out.size))
  clear BB
  have BB := BB'
  clear BB'
  clear hb5
  go_wp2_with fail
  refine (impl_UndoDifferences x0 _ _ x1 _ _ _ (by exact O4.out.rd) (by exact O5.out.rd) hl0 hl1  ).mono ?_
  rintro e w6 ⟨gs, Ags, cgs, hv6, rfl, ho6, hb6⟩
  have O6 := Lib.hid ho6
  have Vgs := Lib.hid hv6
  clear ho6 hv6
  have hlgs : gs.length ≤ 1048576 := undo_short Vgs.out
  have GE6 := Lib.hid (fun a ha => Nat.le_trans BB.out.size (O6.out.ge a ha))
  have AP3_6 := Lib.hid (apart O3.out O6.out (Nat.le_refl _))
  have AP4_6 := Lib.hid (apart O4.out O6.out (Nat.le_refl _))
  have AP5_6 := Lib.hid (apart O5.out O6.out (Nat.le_refl _))
  have O3' := Lib.hid (O3.out.below (by first | exact hb6 | exact und' hb6))
  clear O3
  have O3 := O3'
  clear O3'
  have O4' := Lib.hid (O4.out.below (by first | exact hb6 | exact und' hb6))
  clear O4
  have O4 := O4'
  clear O4'
  have O5' := Lib.hid (O5.out.below (by first | exact hb6 | exact und' hb6))
  clear O5
  have O5 := O5'
  clear O5'
  have BB' := Lib.hid (BB.out.trans (Below.mono (by first | exact hb6 | exact und' hb6) BB.out.size))
  clear BB
  have BB := BB'
  clear BB'
  clear hb6
  have hal : Me.Alike gs ws := Vgs.out.trans Vws.out.symm
  have HAL := Lib.hid hal
  clear hal
  go_wp2_with fail
  refine (eqFloat32S_yes gs ws _ _ _ _ _ _ (by exact O6.out.rd) (by exact O3.out.rd) hlgs HAL.out).mono ?_
  rintro e w' ⟨n7, rfl, rfl⟩
  go_wp2_with fail
  refine (toFloat32S_any x0 A0 c0 _ (by exact (H0.out.below BB.out).more BB.out.size) hl0).mono ?_
  rintro e w8 ⟨g8, hg8, rfl, ho8, hb8⟩
  have O8 : Hid (Own w8 _ (some ⟨g8, 0, none⟩) x0.length x0) := Lib.hid ho8
  clear ho8 hg8
  have GE8 := Lib.hid (fun a ha => Nat.le_trans BB.out.size (O8.out.ge a ha))
  have AP3_8 := Lib.hid (apart O3.out O8.out (Nat.le_refl _))
  have AP4_8 := Lib.hid (apart O4.out O8.out (Nat.le_refl _))
  have AP5_8 := Lib.hid (apart O5.out O8.out (Nat.le_refl _))
  have AP6_8 := Lib.hid (apart O6.out O8.out (Nat.le_refl _))
  have O3' := Lib.hid (O3.out.below (by first | exact hb8 | exact und' hb8))
  clear O3
  have O3 := O3'
  clear O3'
  have O4' := Lib.hid (O4.out.below (by first | exact hb8 | exact und' hb8))
  clear O4
  have O4 := O4'
  clear O4'
  have O5' := Lib.hid (O5.out.below (by first | exact hb8 | exact und' hb8))
  clear O5
  have O5 := O5'
  clear O5'
  have O6' := Lib.hid (O6.out.below (by first | exact hb8 | exact und' hb8))
  clear O6
  have O6 := O6'
  clear O6'
  have BB' := Lib.hid (BB.out.trans (Below.mono (by first | exact hb8 | exact und' hb8) BB.out.size))
  clear BB
  have BB := BB'
  clear BB'
  clear hb8
  go_wp2_with fail
  refine (eqFloat32S_yes x0 x0 _ _ _ _ _ _ (by exact O4.out.rd) (by exact O8.out.rd) hl0 (Me.Alike.rfl' _)).mono ?_
  rintro e w' ⟨n9, rfl, rfl⟩
  clear O8
  go_wp2_with fail
  refine (toFloat32S_any x1 A1 c1 _ (by exact (H1.out.below BB.out).more BB.out.size) hl1).mono ?_
  rintro e w10 ⟨g10, hg10, rfl, ho10, hb10⟩
  have O10 : Hid (Own w10 _ (some ⟨g10, 0, none⟩) x1.length x1) := Lib.hid ho10
  clear ho10 hg10
  have GE10 := Lib.hid (fun a ha => Nat.le_trans BB.out.size (O10.out.ge a ha))
  have AP3_10 := Lib.hid (apart O3.out O10.out (Nat.le_refl _))
  have AP4_10 := Lib.hid (apart O4.out O10.out (Nat.le_refl _))
  have AP5_10 := Lib.hid (apart O5.out O10.out (Nat.le_refl _))
  have AP6_10 := Lib.hid (apart O6.out O10.out (Nat.le_refl _))
  have O3' := Lib.hid (O3.out.below (by first | exact hb10 | exact und' hb10))
  clear O3
  have O3 := O3'
  clear O3'
  have O4' := Lib.hid (O4.out.below (by first | exact hb10 | exact und' hb10))
  clear O4
  have O4 := O4'
  clear O4'
  have O5' := Lib.hid (O5.out.below (by first | exact hb10 | exact und' hb10))
  clear O5
  have O5 := O5'
  clear O5'
  have O6' := Lib.hid (O6.out.below (by first | exact hb10 | exact und' hb10))
  clear O6
  have O6 := O6'
  clear O6'
  have BB' := Lib.hid (BB.out.trans (Below.mono (by first | exact hb10 | exact und' hb10) BB.out.size))
  clear BB
  have BB := BB'
  clear BB'
  clear hb10
  go_wp2_with fail
  refine (eqFloat32S_yes x1 x1 _ _ _ _ _ _ (by exact O5.out.rd) (by exact O10.out.rd) hl1 (Me.Alike.rfl' _)).mono ?_
  rintro e w' ⟨n11, rfl, rfl⟩
  clear O10
  go_wp2_with fail
  refine (markFloat32S_any 1 (by omega) (by omega) x0 _ _ _ _ (by exact O4.out) hl0).mono ?_
  rintro e w12 ⟨rfl, ho12, hgr12⟩
  have G12 := Lib.hid (undg hgr12)
  clear hgr12
  have O3' := Lib.hid (O3.out.kept G12.out AP3_4.out)
  clear O3
  have O3 := O3'
  clear O3'
  have O5' := Lib.hid (O5.out.kept G12.out (flip_ap AP4_5.out))
  clear O5
  have O5 := O5'
  clear O5'
  have O6' := Lib.hid (O6.out.kept G12.out (flip_ap AP4_6.out))
  clear O6
  have O6 := O6'
  clear O6'
  have BB' := Lib.hid (BB.out.trans (grown_below G12.out BB.out.size GE4.out))
  clear BB
  have BB := BB'
  clear BB'
  clear O4 G12
  have O4 := Lib.hid ho12
  clear ho12
  go_wp2_with fail
  refine (markFloat32S_any ((x0.length : Int) + 1) (by omega) (by omega) x1 _ _ _ _ (by exact O5.out) hl1).mono ?_
  rintro e w13 ⟨rfl, ho13, hgr13⟩
  have G13 := Lib.hid (hgr13)
  clear hgr13
  have O3' := Lib.hid (O3.out.kept G13.out AP3_5.out)
  clear O3
  have O3 := O3'
  clear O3'
  have O4' := Lib.hid (O4.out.kept G13.out AP4_5.out)
  clear O4
  have O4 := O4'
  clear O4'
  have O6' := Lib.hid (O6.out.kept G13.out (flip_ap AP5_6.out))
  clear O6
  have O6 := O6'
  clear O6'
  have BB' := Lib.hid (BB.out.trans (grown_below G13.out BB.out.size GE5.out))
  clear BB
  have BB := BB'
  clear BB'
  clear O5 G13
  have O5 := Lib.hid ho13
  clear ho13
  clear O4
  clear O5
  go_wp2_with fail
  refine (eqFloat32S_yes gs ws _ _ _ _ _ _ (by exact O6.out.rd) (by exact O3.out.rd) hlgs HAL.out).mono ?_
  rintro e w' ⟨n14, rfl, rfl⟩
  go_wp2_with fail
  refine (markFloat32S_any 1 (by omega) (by omega) gs _ _ _ _ (by exact O6.out) hlgs).mono ?_
  rintro e w15 ⟨rfl, ho15, hgr15⟩
  have G15 := Lib.hid (undg hgr15)
  clear hgr15
  have O3' := Lib.hid (O3.out.kept G15.out AP3_6.out)
  clear O3
  have O3 := O3'
  clear O3'
  have BB' := Lib.hid (BB.out.trans (grown_below G15.out BB.out.size GE6.out))
  clear BB
  have BB := BB'
  clear BB'
  clear O6 G15
  have O6 := Lib.hid ho15
  clear ho15
  go_wp2_with fail
  refine (heldFloat32S_any 1 (by omega) (by omega) gs.length _ _ _ _ (by exact O6.out.rd) hlgs).mono ?_
  rintro e w' ⟨rfl, rfl⟩
  go_wp2_with fail
  refine (toFloat32S_any x0 A0 c0 _ (by exact (H0.out.below BB.out).more BB.out.size) hl0).mono ?_
  rintro e w16 ⟨g16, hg16, rfl, ho16, hb16⟩
  have O16 : Hid (Own w16 _ (some ⟨g16, 0, none⟩) x0.length x0) := Lib.hid ho16
  clear ho16 hg16
  have GE16 := Lib.hid (fun a ha => Nat.le_trans BB.out.size (O16.out.ge a ha))
  have AP3_16 := Lib.hid (apart O3.out O16.out (Nat.le_refl _))
  have AP6_16 := Lib.hid (apart O6.out O16.out (Nat.le_refl _))
  have O3' := Lib.hid (O3.out.below (by first | exact hb16 | exact und' hb16))
  clear O3
  have O3 := O3'
  clear O3'
  have O6' := Lib.hid (O6.out.below (by first | exact hb16 | exact und' hb16))
  clear O6
  have O6 := O6'
  clear O6'
  have BB' := Lib.hid (BB.out.trans (Below.mono (by first | exact hb16 | exact und' hb16) BB.out.size))
  clear BB
  have BB := BB'
  clear BB'
  clear hb16
  go_wp2_with fail
  refine (toFloat32S_any x1 A1 c1 _ (by exact (H1.out.below BB.out).more BB.out.size) hl1).mono ?_
  rintro e w17 ⟨g17, hg17, rfl, ho17, hb17⟩
  have O17 : Hid (Own w17 _ (some ⟨g17, 0, none⟩) x1.length x1) := Lib.hid ho17
  clear ho17 hg17
  have GE17 := Lib.hid (fun a ha => Nat.le_trans BB.out.size (O17.out.ge a ha))
  have AP3_17 := Lib.hid (apart O3.out O17.out (Nat.le_refl _))
  have AP6_17 := Lib.hid (apart O6.out O17.out (Nat.le_refl _))
  have AP16_17 := Lib.hid (apart O16.out O17.out (Nat.le_refl _))
  have O3' := Lib.hid (O3.out.below (by first | exact hb17 | exact und' hb17))
  clear O3
  have O3 := O3'
  clear O3'
  have O6' := Lib.hid (O6.out.below (by first | exact hb17 | exact und' hb17))
  clear O6
  have O6 := O6'
  clear O6'
  have O16' := Lib.hid (O16.out.below (by first | exact hb17 | exact und' hb17))
  clear O16
  have O16 := O16'
  clear O16'
  have BB' := Lib.hid (BB.out.trans (Below.mono (by first | exact hb17 | exact und' hb17) BB.out.size))
  clear BB
  have BB := BB'
  clear BB'
  clear hb17
  go_wp2_with fail
  refine (impl_UndoDifferences x0 _ _ x1 _ _ _ (by exact O16.out.rd) (by exact O17.out.rd) hl0 hl1  ).mono ?_
  rintro e w18 ⟨hs, Ahs, chs, hv18, rfl, ho18, hb18⟩
  have O18 := Lib.hid ho18
  have Vhs := Lib.hid hv18
  clear ho18 hv18
  have hlhs : hs.length ≤ 1048576 := undo_short Vhs.out
  have GE18 := Lib.hid (fun a ha => Nat.le_trans BB.out.size (O18.out.ge a ha))
  have AP3_18 := Lib.hid (apart O3.out O18.out (Nat.le_refl _))
  have AP6_18 := Lib.hid (apart O6.out O18.out (Nat.le_refl _))
  have AP16_18 := Lib.hid (apart O16.out O18.out (Nat.le_refl _))
  have AP17_18 := Lib.hid (apart O17.out O18.out (Nat.le_refl _))
  have O3' := Lib.hid (O3.out.below (by first | exact hb18 | exact und' hb18))
  clear O3
  have O3 := O3'
  clear O3'
  have O6' := Lib.hid (O6.out.below (by first | exact hb18 | exact und' hb18))
  clear O6
  have O6 := O6'
  clear O6'
  have O16' := Lib.hid (O16.out.below (by first | exact hb18 | exact und' hb18))
  clear O16
  have O16 := O16'
  clear O16'
  have O17' := Lib.hid (O17.out.below (by first | exact hb18 | exact und' hb18))
  clear O17
  have O17 := O17'
  clear O17'
  have BB' := Lib.hid (BB.out.trans (Below.mono (by first | exact hb18 | exact und' hb18) BB.out.size))
  clear BB
  have BB := BB'
  clear BB'
  clear hb18
  clear O16
  clear O17
  have hal2 : Me.Alike hs ws := Vhs.out.trans Vws.out.symm
  have HAL2 := Lib.hid hal2
  clear hal2
  go_wp2_with fail
  refine (eqFloat32S_yes hs ws _ _ _ _ _ _ (by exact O18.out.rd) (by exact O3.out.rd) hlhs HAL2.out).mono ?_
  rintro e w' ⟨n19, rfl, rfl⟩
  go_wp2_with fail
  refine (heldFloat32S_any 1 (by omega) (by omega) gs.length _ _ _ _ (by exact O6.out.rd) hlgs).mono ?_
  rintro e w' ⟨rfl, rfl⟩
  go_wp2
  go_ret
  exact ⟨rfl, upd' BB.out⟩
set_option maxRecDepth 100000 in
theorem fnExactUndoDifferences_lifted (os : Os) (started : os.Started) (H : Type) (enc : TypeId × Value → H) :
    ReturnsInHanded {} Try.checked os 10 .any (Rows.fnExactUndoDifferencesSpec.pre6 enc Try.prog Try.f10 Rows.fnExactUndoDifferencesRow.domain false) (Rows.fnExactUndoDifferencesSpec.post enc Try.prog Try.f10 false true false false) := by
  refine returnsInHanded_of_change (C := Try.checked) own started (by kernel_rfl) Try.func10
    (ChangeSpec.witness6 (enc := enc) (C := Try.checked) false ⟨#[], #[.slice none 0 0, .slice none 0 0], []⟩ 8 (by kernel_rfl) (by kernel_rfl) (by kernel_rfl) (by kernel_rfl)) ?_
  intro W base args ds gs before hval0 hW hcnd hsz
  have hval : ∀ (j : Nat) t v, Try.f10.params[j]? = some t → args[j]? = some v → Value.okWide Try.prog W .any base t v := hval0
  have hW' := hW
  obtain ⟨p, q, hA0, hV, rfl, hfz, hnd⟩ := hW
  have hA : DataW.TrodAll enc Try.prog W 0 (fun _ => true) true Try.f10.params.toList args.toList ds p := hA0
  rw [Try.params10] at hA hval
  obtain ⟨v0, vs0, d0, ds0, p0, q0, hargs, rfl, rfl, h0, r0⟩ := trodAll_cons hA
  obtain ⟨v1, vs1, d1, ds1, p1, q1, rfl, rfl, rfl, h1, r1⟩ := trodAll_cons r0
  obtain ⟨rfl, rfl, rfl⟩ := trodAll_nil r1
  obtain rfl : args = #[v0, v1] := by cases args; simp_all
  obtain ⟨rfl, rfl⟩ := trodVars_none hV
  obtain ⟨A0, c0, x0, rfl, u0, w0⟩ := open_f32s Try.underlying22 Try.underlying23 cells_f32 (hval 0 22 v0 rfl rfl) h0
  obtain ⟨A1, c1, x1, rfl, u1, w1⟩ := open_f32s Try.underlying22 Try.underlying23 cells_f32 (hval 1 22 v1 rfl rfl) h1
  clear hA0 hval0
  simp only [List.append_nil] at hW'
  refine (fnExactUndoDifferences_walk A0 c0 x0 A1 c1 x1 W u0 u1).mono fun e W' ⟨he, hb⟩ => ?_
  subst he
  have hlt := hW'.lt
  exact ⟨_, rfl, post_new hW' (fun _ _ _ => (trodAll_cons_mk (shut_bool Try.underlying4 _) trodAll_mk0)) (fun sp hsp => (trodAll_cons_mk (WideElems.Trod_stays laidOut (by kernel_rfl) (of_decide_eq_true (by kernel_rfl)) h0 (fun x hx => hb.same (hlt x (by simp [hx]))) (fun x hx => hsp x (by simp [hx]))) (trodAll_cons_mk (WideElems.Trod_stays laidOut (by kernel_rfl) (of_decide_eq_true (by kernel_rfl)) h1 (fun x hx => hb.same (hlt x (by simp [hx]))) (fun x hx => hsp x (by simp [hx]))) trodAll_mk0))) (fun _ _ => rfl) (by simp) hb
    (ok_one (by kernel_rfl) rfl (okWide_bool_mk Try.underlying4 _))⟩

/-- The given statement. -/
theorem fnExactUndoDifferences_holds : Rows.FnExactUndoDifferencesSaid :=
  OpenClaim.holds_of_wide 10 Try.f10 rfl rfl rfl rfl rfl rfl rfl ⟨rfl, rfl, rfl, rfl, rfl⟩ rfl rfl rfl rfl rfl (by kernel_rfl) Try.func10 (by kernel_rfl)
    (of_decide_eq_true (by kernel_rfl)) (by unfold Func.isWrapper; first | (rw [if_pos (by decide +kernel)]; kernel_rfl) | (rw [if_neg (by decide +kernel)]; exact ⟨rfl, rfl⟩))
    (fun os started H enc _ => fnExactUndoDifferences_lifted os started H enc)
end Go.Proofs.Ytjlkkamcflijjaa.LR
