/- The program's NumbersText is the reference's, for every argument; the tables that strconv and math/bits read are tied to the program's text. -/
import Derived.Test.YtjkkfimkojmifaaDoorRows
import Derived.Test.YtjkkfimkojmifaaDoorCards
import Derived.Test.YtjkkfimkojmifaaDoorTie
import Derived.Test.YtjkkfimkojmifaaDoorEc
import Derived.Test.YtjkkfimkojmifaaDoorMe
import Derived.Test.YtjkkfimkojmifaaDoorMg
import Derived.Lib.AppendIntMem
import Derived.Lib.LaidTab
import Derived.LaidMore
import Derived.Stop.LaidErr
import Derived.Stop.Joined
import Derived.MakeChecks
import Derived.DataShut
import Derived.SevenTiedAt
import Derived.WalkKit
import Derived.ProofKit
import Derived.OpenShut
namespace Go.Proofs.YtjkkfimkojmifaaDoor.Ed
open Go Go.ChangeShapes Go.WideShapes Go.ChangeAt Go.RowKit Go.Lib Da Dd De Ea Ec Md Me Mg
set_option linter.unusedVariables false
theorem own : ownKnob Tryd.prog.godebug = none := by kernel_rfl
theorem laidOut : laidOutB Tryd.prog = true := by kernel_rfl
theorem cells_f32 : Tryd.prog.cellsOf 52 = 1 := by kernel_rfl
def bruTab : List Int := match (Rows.laid_math_bits_deBruijn64tab : DataW Unit) with
  | .agg l => l.map fun d => match d with
    | .lit (.int _ z) => z
    | _ => 0
  | _ => []
theorem bru_data : (Rows.laid_math_bits_deBruijn64tab : DataW Unit) = tabData .u8 bruTab := by kernel_rfl
theorem bru_of_laid {r : List (String × DataW Unit)} {x : String × DataW Unit} {W : World} (h : laidMet Tryd.prog (x :: ("math/bits.deBruijn64tab", Rows.laid_math_bits_deBruijn64tab) :: r) W) : Bru W := by
  have h1 := h.tail
  rw [bru_data] at h1
  have h2 := tabIs_of_head (g := 5) (t := 138) (e := 5) (n := 64) (by kernel_rfl) (by kernel_rfl) (by kernel_rfl) (by kernel_rfl) (by kernel_rfl) (by kernel_rfl) h1
  have h3 := h2.cell (g := 5) (by kernel_rfl) 15 (by decide +kernel)
  rw [show bruTab.getD 15 0 = 4 by decide +kernel] at h3
  exact h3
theorem undB {B n : Nat} {w w' : World} (h : Below B (w.drewN n) w') : Below B w w' := ⟨h.os, h.tape, h.output, h.size, h.block⟩
theorem inW_of {xs : List Nat} (h : ∀ x ∈ xs, (Lit.float .f32 x).wf = true) : InW xs := fun x hx => of_decide_eq_true (h x hx)
set_option maxHeartbeats 4000000 in
theorem fnExactNumbersText_walk (A0 : Option Addr) (c0 : Nat) (x0 : List Nat) (w : World) (ht : Bru w) (h0 : Md.Rd w w.heap.size A0 x0) (hw : ∀ x ∈ x0, (Lit.float .f32 x).wf = true) : Calls Tryd.prog 5 #[.slice A0 x0.length c0] w fun e w' => e = .returned (.bool true) ∧ Below w.heap.size w w' := by
  have H0 := Lib.hid h0
  have HR := Lib.hid (inW_of hw)
  have HT := Lib.hid ht
  clear h0 ht hw
  by_cases hl : x0.length ≤ 1048576
  · go_enter Tryd.func5, Tryd.ntmps5
    go_wp2_with fail
    refine (toFloat32S_any x0 A0 c0 _ (by exact H0.out) hl).mono ?_
    rintro e w1 ⟨g1, hg1, rfl, ho1, hb1⟩
    have R1 := Lib.hid (Md.Rd.of_own ho1)
    have B1 := Lib.hid hb1
    clear ho1 hb1 hg1
    go_wp2_with fail
    refine (spec_NumbersText x0 _ _ _ w1.heap.size (by exact R1.out) hl HR.out (Nat.le_refl _)).mono ?_
    rintro e w2 ⟨rfl, hb2⟩
    have B2 := Lib.hid (B1.out.trans (Below.mono hb2 B1.out.size))
    clear hb2 R1
    go_wp2_with fail
    refine (toFloat32S_any x0 A0 c0 _ (by exact (H0.out.below B2.out).more B2.out.size) hl).mono ?_
    rintro e w3 ⟨g3, hg3, rfl, ho3, hb3⟩
    have R3 := Lib.hid (Md.Rd.of_own ho3)
    have B3 := Lib.hid (B2.out.trans (Below.mono hb3 B2.out.size))
    clear ho3 hb3 hg3
    go_wp2_with fail
    refine (impl_NumbersText x0 _ _ _ w3.heap.size (by exact R3.out) hl HR.out (Nat.le_refl _) (HT.out.below B3.out)).mono ?_
    rintro e w4 ⟨rfl, hb4⟩
    have R4 := Lib.hid ((R3.out.below hb4).more hb4.size)
    have B4 := Lib.hid (B3.out.trans (Below.mono hb4 B3.out.size))
    clear hb4 R3
    go_wp2_with fail
    refine (toFloat32S_any x0 A0 c0 _ (by exact (H0.out.below B4.out).more B4.out.size) hl).mono ?_
    rintro e w5 ⟨g5, hg5, rfl, ho5, hb5⟩
    have R5 := Lib.hid (Md.Rd.of_own ho5)
    have R4' := Lib.hid ((R4.out.below hb5).more hb5.size)
    have B5 := Lib.hid (B4.out.trans (Below.mono hb5 B4.out.size))
    clear ho5 hb5 hg5
    go_wp2_with fail
    refine (eqFloat32S_yes x0 x0 _ _ _ _ _ w5.heap.size (by exact R4'.out) (by exact R5.out) hl rfl).mono ?_
    rintro e w' ⟨k2, rfl, rfl⟩
    go_wp2
    go_ret
    exact ⟨rfl, upd B5.out⟩
  · go_enter Tryd.func5, Tryd.ntmps5
    go_wp2
    go_ret
    exact ⟨rfl, Below.refl _ _⟩
theorem fnExactNumbersText_laid {W : World} (h : laidMetH Tryd.prog Rows.fnExactNumbersTextRow.laid W) : Bru W := by
  rw [MakeChecks.laidMetH_plain _ _ _ (by kernel_rfl)] at h
  exact bru_of_laid h
/-- The door's own heap meets the condition. -/
theorem fnExactNumbersText_door (os : Os) (args : Array Value) : laidMetH Tryd.prog Rows.fnExactNumbersTextRow.laid ((World.doorLaid Tryd.prog 72 os).forCall (fun _ _ => 0) ⟨#[], args, []⟩).memory :=
  laidMetH_of_parts3 (fuel := 8) (laidMet_of_run' 8 (by kernel_rfl) (by kernel_rfl)) (by kernel_rfl) (by kernel_rfl)
set_option maxRecDepth 100000 in
theorem fnExactNumbersText_lifted (os : Os) (started : os.Started) (H : Type) (enc : TypeId × Value → H) :
    ReturnsInHanded {} Tryd.checked os 5 .any (fun w args => (Rows.fnExactNumbersTextSpec.pre enc Tryd.prog Tryd.f5 [] false w args ∧ laidMetH Tryd.prog Rows.fnExactNumbersTextRow.laid w) ∧ sizedMet enc Tryd.prog Tryd.f5 (OpenSpec.ofChange Rows.fnExactNumbersTextSpec) false w args)
      (Rows.fnExactNumbersTextSpec.post enc Tryd.prog Tryd.f5 false true false false) := by
  refine returnsInHanded_of_change_and (C := Tryd.checked) (X := fun w _ => laidMetH Tryd.prog Rows.fnExactNumbersTextRow.laid w) (fun _ _ _ hh h => h.of_heap hh) own started (by kernel_rfl) Tryd.func5
    (ChangeSpec.witness_shaped (enc := enc) (C := Tryd.checked) (os := os) (X := fun w _ => laidMetH Tryd.prog Rows.fnExactNumbersTextRow.laid w) false (World.doorLaid Tryd.prog 72 os) #[.slice none 0 0] 8 rfl (World.shaped_of_RefB (by kernel_rfl) (by kernel_rfl)) (by kernel_rfl) (by kernel_rfl) (by kernel_rfl) (fnExactNumbersText_door os _)) ?_
  intro W base args ds gs before hval0 hW _ _ hL _
  have hval : ∀ (j : Nat) t v, Tryd.f5.params[j]? = some t → args[j]? = some v → Value.okWide Tryd.prog W .any base t v := hval0
  have hW' := hW
  obtain ⟨p, q, hA0, hV, rfl, hfz, hnd⟩ := hW
  have hA : DataW.TrodAll enc Tryd.prog W 0 (fun _ => true) true Tryd.f5.params.toList args.toList ds p := hA0
  rw [Tryd.params5] at hA hval
  obtain ⟨v0, vs0, d0, ds0, p0, q0, hargs, rfl, rfl, h0, r0⟩ := trodAll_cons hA
  obtain ⟨rfl, rfl, rfl⟩ := trodAll_nil r0
  obtain rfl : args = #[v0] := by cases args; simp_all
  obtain ⟨rfl, rfl⟩ := trodVars_none hV
  obtain ⟨A0, c0, x0, rfl, u0, w0⟩ := open_f32s Tryd.underlying30 Tryd.underlying52 cells_f32 (hval 0 30 v0 rfl rfl) h0
  clear hA0 hval0
  simp only [List.append_nil] at hW'
  refine (fnExactNumbersText_walk A0 c0 x0 W (fnExactNumbersText_laid hL) u0 w0).mono fun e W' ⟨he, hb⟩ => ?_
  subst he
  have hlt := hW'.lt
  exact ⟨_, rfl, post_new hW' (fun _ _ _ => (trodAll_cons_mk (shut_bool Tryd.underlying4 _) trodAll_mk0)) (fun sp hsp => (trodAll_cons_mk (WideElems.Trod_stays laidOut (by kernel_rfl) (of_decide_eq_true (by kernel_rfl)) h0 (fun x hx => hb.same (hlt x (by simp [hx]))) (fun x hx => hsp x (by simp [hx]))) trodAll_mk0)) (fun _ _ => rfl) (by simp) hb
    (ok_one (by kernel_rfl) rfl (okWide_bool_mk Tryd.underlying4 _))⟩

/-- The row's statement. -/
theorem fnExactNumbersText_holds : Rows.FnExactNumbersTextSaid :=
  OpenClaim.holds_of_wide 5 Tryd.f5 rfl rfl rfl rfl rfl rfl rfl ⟨rfl, rfl, rfl, rfl, rfl⟩ rfl rfl rfl rfl rfl (by kernel_rfl) Tryd.func5 (by kernel_rfl)
    (of_decide_eq_true (by kernel_rfl)) (by unfold Func.isWrapper; first | (rw [if_pos (by decide +kernel)]; kernel_rfl) | (rw [if_neg (by decide +kernel)]; exact ⟨rfl, rfl⟩))
    (fun os started H enc _ => fnExactNumbersText_lifted os started H enc)
/-- The given card. -/
theorem fnExactNumbersText_card : Rows.FnExactNumbersTextCardSaid :=
  Claim7.holds_tied_plain_at .later [] [.data, .data, .data] true (true, "c925ff0af9c53d28eeca4a8e271baba30395d268db9c3b0b768c75ebdb38f227") true
    fnExactNumbersText_holds (fun _ h => by cases h) (by kernel_rfl) (fun _ h => by cases h) fnExactNumbersText_row_tie rfl ⟨rfl, rfl⟩ (by kernel_rfl) rfl
    (fun f fn hf hfn => by
      obtain rfl : f = 5 := Option.some.inj ((show Tryd.prog.funcNamed Rows.fnExactNumbersTextRow.func = some 5 by kernel_rfl).symm.trans hf) |>.symm
      obtain rfl : fn = Tryd.f5 := (Option.some.inj (Tryd.func5.symm.trans hfn)).symm
      exact ⟨by kernel_rfl, fun j t ht => by
        rw [Tryd.params5] at ht
        have hm : t ∈ [30] := by simpa using Array.mem_of_getElem? ht
        have hall : ([30].all fun u => !Tryd.prog.wantsStandIn u) = true := by kernel_rfl
        exact (show Tryd.prog.wantsStandIn t = false by simpa using List.all_eq_true.1 hall t hm)⟩)
    (by kernel_rfl)
end Go.Proofs.YtjkkfimkojmifaaDoor.Ed
