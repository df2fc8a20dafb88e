/- The program's ReadComplex is the reference's, for every argument; the tables that strconv, math/bits and unicode/utf8 read and strconv's two errors are tied to the program's text. -/
import Derived.Test.YtjkkfimkojmifaaDoorRows
import Derived.Test.YtjkkfimkojmifaaDoorCards
import Derived.Test.YtjkkfimkojmifaaDoorTie
import Derived.Test.YtjkkfimkojmifaaDoorEo
import Derived.Test.YtjkkfimkojmifaaDoorMg
import Derived.Lib.AppendIntMem
import Derived.Lib.LaidTab
import Derived.LaidMore
import Derived.Stop.LaidErr
import Derived.Stop.Joined
import Derived.MakeChecks
import Derived.DataShut
import Derived.SevenTiedAt
import Derived.HandedShaped
import Derived.Lay
import Derived.WalkKit
import Derived.ProofKit
import Derived.OpenShut
namespace Go.Proofs.YtjkkfimkojmifaaDoor.Em
open Go Go.ChangeShapes Go.WideShapes Go.ChangeAt Go.RowKit Go.Lib Da Dd Dm Ea Eb Ec Ee Ef Ej Ek El Eo Me Mg
set_option linter.unusedVariables false
theorem own : ownKnob Tryd.prog.godebug = none := by kernel_rfl
theorem laidOut : laidOutB Tryd.prog = true := by kernel_rfl
section
variable {H : Type} {enc : TypeId × Value → H}
/-- The frame of a tied row whose walk wants the world's shape. -/
theorem returns_shaped {a : Assume} {C : Checked} {os : Os} {f : FuncId} {fn : Func} {s : ChangeSpec} {conds : List PathCond} {apart fresh handsOn again : Bool} {X : World → Array Value → Prop}
    (hX : ∀ (w w' : World) (args : Array Value), w.heap = w'.heap → X w args → X w' args)
    (own : ownKnob C.prog.godebug = none) (started : os.Started) (noInit : C.prog.inits.idxOf? f = none) (hfn : C.prog.funcs[f]? = some fn)
    (witness : ∃ (w : World) (tape : Tape) (i : Input), w.os = os ∧ (w.forCall tape i).Shaped C.prog ∧ i.vars = [] ∧ Input.okWide C.prog (w.forCall tape i) .any w.heap.size f i ∧
      ((s.pre enc C.prog fn conds apart (w.forCall tape i).memory i.args ∧ X (w.forCall tape i).memory i.args) ∧ sizedMet enc C.prog fn (OpenSpec.ofChange s) apart (w.forCall tape i).memory i.args) ∧ a.holds C.prog (lone (Frame.enter C.prog f i.args .normal) [] (w.forCall tape i)))
    (walk : ∀ (W : World) (base : Nat) (args : Array Value) (ds gs : List (DataW H)) (before : List MemPlace),
      (∀ (j : Nat) t v, fn.params[j]? = some t → args[j]? = some v → Value.okWide C.prog W .any base t v) →
      DataW.Whole enc C.prog fn.params.toList s.vars apart W args.toList ds gs before → X W args → W.ShapedOpen C.prog →
      Calls C.prog f args W fun e W' => ∃ v, e = .returned v ∧ s.post enc C.prog fn apart fresh handsOn again W args v W') :
    ReturnsInHanded a C os f .any (fun w args => (s.pre enc C.prog fn conds apart w args ∧ X w args) ∧ sizedMet enc C.prog fn (OpenSpec.ofChange s) apart w args) (s.post enc C.prog fn apart fresh handsOn again) := by
  refine returnsInHanded_of_calls own started noInit witness ?_
  intro w tape i _ hsh _ hok hpre hholds
  obtain ⟨_, _, _, fn', hfn', _, _, _, _, hval⟩ := hok
  obtain rfl : fn' = fn := Option.some.inj (hfn'.symm.trans hfn)
  obtain ⟨⟨⟨ds, gs, before, hw, hc⟩, hx⟩, hz⟩ := hpre
  refine (walk (w.forCall tape i) w.heap.size i.args ds gs before hval (DataW.Whole.of_heap (w' := w.forCall tape i) (by rfl) hw) (hX _ _ _ (by rfl) hx) hsh).mono fun e W' ⟨v, he, hp⟩ => ?_
  subst he
  exact ChangeSpec.post_blind hp
end
theorem max_of_shape {W : World} (h : W.ShapedOpen Tryd.prog) : MaxL W := Tryd.laysM146.s1_3 W h
def bruTab : List Int := match (Rows.laid_math_bits_deBruijn64tab : DataW Unit) with
  | .agg l => l.map fun d => match d with
    | .lit (.int _ z) => z
    | _ => 0
  | _ => []
theorem bru_data : (Rows.laid_math_bits_deBruijn64tab : DataW Unit) = tabData .u8 bruTab := by kernel_rfl
theorem bru_of_laid {r : List (String × DataW Unit)} {x : String × DataW Unit} {W : World} (h : laidMet Tryd.prog (x :: ("math/bits.deBruijn64tab", Rows.laid_math_bits_deBruijn64tab) :: r) W) : Bru W := by
  have h1 := h.tail
  rw [bru_data] at h1
  have h2 := tabIs_of_head (g := 5) (t := 138) (e := 5) (n := 64) (by kernel_rfl) (by kernel_rfl) (by kernel_rfl) (by kernel_rfl) (by kernel_rfl) (by kernel_rfl) h1
  have h3 := h2.cell (g := 5) (by kernel_rfl) 15 (by decide +kernel)
  rw [show bruTab.getD 15 0 = 4 by decide +kernel] at h3
  exact h3
theorem star : "*" ++ "errors.errorString" = "*errors.errorString" := by decide
theorem row_err (u : TypeId) (h : Tryd.prog.typeName? 3 u = some "*errors.errorString") : u = 130 :=
  typeName_ptr_named (nm := "errors.errorString") (by rw [star]; kernel_rfl) (by kernel_rfl) (by decide) u (by rw [star]; exact h)
theorem err_of_laid {r : List (String × DataW Unit)} {n : String} {g : Nat} {text : List UInt8} {W : World} (hg : Tryd.prog.globalNamed n = some g) (ht : (Tryd.prog.globals[g]?).map (·.type) = some 59)
    (h : laidMet Tryd.prog ((n, .iface "*errors.errorString" (.ptr (.agg [.lit (.string text)]))) :: r) W) : ∃ tp p, W.var? Tryd.prog n = some #[.iface tp p] := by
  obtain ⟨a, s, hv, _⟩ := laid_sentinel h hg ht Tryd.underlying59 row_err Tryd.underlying130 Tryd.underlying132 rfl rfl Tryd.underlying9 (by kernel_rfl) (by kernel_rfl)
  exact ⟨_, _, hv⟩
theorem errS_of {W : World} (h : ∃ tp p, W.var? Tryd.prog "strconv.ErrSyntax" = some #[.iface tp p]) : ErrS W := by
  obtain ⟨tp, p, hv⟩ := h
  exact ⟨tp, p, by simpa using World.var?_cell (g := 2) (by kernel_rfl) hv 0⟩
theorem flip_ap {A B : Option Addr} (h : A = none ∨ B = none ∨ blk A ≠ blk B) : B = none ∨ A = none ∨ blk B ≠ blk A := by
  rcases h with h | h | h
  · exact .inr (.inl h)
  · exact .inl h
  · exact .inr (.inr (Ne.symm h))
set_option maxHeartbeats 4000000 in
theorem fnExactReadComplex_walk (a0 : ByteArray) (w0 : a0.size ≤ maxLen) (w : World) (ht : Bru w ∧ ErrS w ∧ MaxL w) : Calls Tryd.prog 9 #[.string a0] w fun e w' => e = .returned (.bool true) ∧ Below w.heap.size w w' := by
  have HT := Lib.hid ht.1
  have HE := Lib.hid ht.2.1
  have HM := Lib.hid ht.2.2
  clear ht w0
  by_cases hl : a0.size ≤ 1048576
  · have hd : decide ((1048576 : Int) < (a0.size : Int)) = false := decide_eq_false (by omega)
    go_enter Tryd.func9, Tryd.ntmps9
    go_wp2_with fail
    refine (spec_ReadComplex a0 hl _).mono ?_
    rintro e w1 ⟨ws, A1, c1, hws, rfl, ho1, hb1⟩
    have O1 := Lib.hid ho1
    have B1 := Lib.hid hb1
    have HW := Lib.hid hws
    clear ho1 hb1 hws
    go_wp2_with fail
    refine (impl_ReadComplex a0 hl _ (HT.out.below B1.out) (HE.out.below B1.out) (HM.out.below B1.out)).mono ?_
    rintro e w2 ⟨gs, A2, c2, hgs, rfl, ho2, hb2⟩
    obtain rfl : gs = ws := hgs.trans HW.out.symm
    have O2 := Lib.hid ho2
    have AP := Lib.hid (apart O1.out O2.out (Nat.le_refl _))
    have GE2 := Lib.hid (fun a ha => Nat.le_trans B1.out.size (O2.out.ge a ha))
    have O1b := Lib.hid (O1.out.below hb2)
    have B2 := Lib.hid (B1.out.trans (Below.mono hb2 B1.out.size))
    have HL := Lib.hid (show gs.length ≤ 1024 by
      rw [hgs]
      split
      · unfold xcV
        rw [List.length_map]
        rename_i h
        unfold xcB at h
        simp only [Bool.and_eq_true, decide_eq_true_eq] at h
        omega
      · simp)
    clear ho2 hb2 hgs O1 B1
    go_wp2_with fail
    refine (eqComplex64S_yes gs _ _ _ _ _ w2.heap.size (by exact O2.out.rd) (by exact O1b.out.rd) (Nat.le_trans HL.out (by decide))).mono ?_
    rintro e w' ⟨n1, rfl, rfl⟩
    go_wp2_with fail
    refine (markComplex64S_any 1 (by omega) (by omega) gs _ _ _ _ (by exact O2.out) HL.out).mono ?_
    rintro e w3 ⟨rfl, ho3, hg3⟩
    have O3 := Lib.hid ho3
    have G3 := Lib.hid (show w2.grownBy w3 (blk A2) from ⟨hg3.os, hg3.tape, hg3.output, hg3.size, hg3.block⟩)
    have O1c := Lib.hid (O1b.out.kept G3.out AP.out)
    have B3 := Lib.hid (B2.out.trans (grown_below G3.out B2.out.size GE2.out))
    have hlen := HL.out
    clear ho3 hg3 O2 O1b AP
    go_wp2_with fail
    refine (heldComplex64S_any 1 (by omega) (by omega) gs.length _ _ _ _ (by exact O3.out.rd) HL.out).mono ?_
    rintro e w' ⟨rfl, m1, rfl⟩
    have B3u := Lib.hid (show Below w.heap.size w (w3.drewN m1) from upd B3.out)
    have hq0 : decide ((gs.length : Int) + 1 < 0) = false := decide_eq_false (by omega)
    go_wp2_with fail
    refine (impl_ReadComplex a0 hl _ (HT.out.below B3u.out) (HE.out.below B3u.out) (HM.out.below B3u.out)).mono ?_
    rintro e w4 ⟨hs, A4, c4, hhs, rfl, ho4, hb4u⟩
    have hb4 : Below w3.heap.size w3 w4 := und hb4u
    clear hb4u
    obtain rfl : hs = gs := hhs.trans HW.out.symm
    have O4 := Lib.hid ho4
    have O1d := Lib.hid (O1c.out.below hb4)
    have O3b := Lib.hid (O3.out.below hb4)
    have B4 := Lib.hid (B3.out.trans (Below.mono hb4 B3.out.size))
    clear ho4 hb4 hhs O1c O3
    go_wp2_with fail
    refine (eqComplex64S_yes hs _ _ _ _ _ w4.heap.size (by exact O4.out.rd) (by exact O1d.out.rd) (Nat.le_trans HL.out (by decide))).mono ?_
    rintro e w' ⟨n2, rfl, rfl⟩
    go_wp2_with fail
    refine (heldComplex64S_any 1 (by omega) (by omega) hs.length _ _ _ _ (by exact O3b.out.rd) HL.out).mono ?_
    rintro e w' ⟨rfl, m2, rfl⟩
    go_wp2
    go_ret
    exact ⟨rfl, upd B4.out⟩
  · have hd : decide ((1048576 : Int) < (a0.size : Int)) = true := decide_eq_true (by omega)
    go_enter Tryd.func9, Tryd.ntmps9
    go_wp2
    go_ret
    exact ⟨rfl, Below.refl _ _⟩
theorem fnExactReadComplex_laid {W : World} (h : laidMetH Tryd.prog Rows.fnExactReadComplexRow.laid W) (hsh : W.ShapedOpen Tryd.prog) : Bru W ∧ ErrS W ∧ MaxL W := by
  rw [MakeChecks.laidMetH_plain _ _ _ (by kernel_rfl)] at h
  exact ⟨bru_of_laid h, errS_of (err_of_laid (g := 2) (by kernel_rfl) (by kernel_rfl) h.tail.tail.tail.tail.tail), max_of_shape hsh⟩
set_option maxRecDepth 100000 in
theorem fnExactReadComplex_lifted (os : Os) (started : os.Started) (H : Type) (enc : TypeId × Value → H) :
    ReturnsInHanded {} Tryd.checked os 9 .any (fun w args => (Rows.fnExactReadComplexSpec.pre enc Tryd.prog Tryd.f9 [] false w args ∧ laidMetH Tryd.prog Rows.fnExactReadComplexRow.laid w) ∧ sizedMet enc Tryd.prog Tryd.f9 (OpenSpec.ofChange Rows.fnExactReadComplexSpec) false w args)
      (Rows.fnExactReadComplexSpec.post enc Tryd.prog Tryd.f9 false true false false) := by
  refine returns_shaped (C := Tryd.checked) (X := fun w _ => laidMetH Tryd.prog Rows.fnExactReadComplexRow.laid w) (fun _ _ _ hh h => h.of_heap hh) own started (by kernel_rfl) Tryd.func9
    (ChangeSpec.witness_shaped (enc := enc) (C := Tryd.checked) (os := os) (X := fun w _ => laidMetH Tryd.prog Rows.fnExactReadComplexRow.laid w) false (World.laidAll Tryd.prog os Rows.fnExactReadComplexRow.laid) #[.string ByteArray.empty] 8 (World.laidAll_os _ _ _) (World.shaped_of_ZipB (by kernel_rfl) (by kernel_rfl)) (by kernel_rfl) (by kernel_rfl) (by kernel_rfl) (by rw [MakeChecks.laidMetH_plain _ _ _ (by kernel_rfl)]; exact laidMet_laidAll _ (by kernel_rfl) (by kernel_rfl))) ?_
  intro W base args ds gs before hval0 hW hL hsh
  have hval : ∀ (j : Nat) t v, Tryd.f9.params[j]? = some t → args[j]? = some v → Value.okWide Tryd.prog W .any base t v := hval0
  have hW' := hW
  obtain ⟨p, q, hA0, hV, rfl, hfz, hnd⟩ := hW
  have hA : DataW.TrodAll enc Tryd.prog W 0 (fun _ => true) true Tryd.f9.params.toList args.toList ds p := hA0
  rw [Tryd.params9] at hA hval
  obtain ⟨v0, vs0, d0, ds0, p0, q0, hargs, rfl, rfl, h0, r0⟩ := trodAll_cons hA
  obtain ⟨rfl, rfl, rfl⟩ := trodAll_nil r0
  obtain rfl : args = #[v0] := by cases args; simp_all
  obtain ⟨rfl, rfl⟩ := trodVars_none hV
  obtain ⟨a0, rfl, rfl, rfl, w0⟩ := Go.ChangeMaps.open_string Tryd.underlying9 (hval 0 9 v0 rfl rfl) h0
  clear hA0 hval0
  simp only [List.append_nil] at hW'
  refine (fnExactReadComplex_walk a0 w0 W (fnExactReadComplex_laid hL hsh) ).mono fun e W' ⟨he, hb⟩ => ?_
  subst he
  have hlt := hW'.lt
  exact ⟨_, rfl, post_new hW' (fun _ _ _ => (trodAll_cons_mk (shut_bool Tryd.underlying4 _) trodAll_mk0)) (fun sp hsp => (trodAll_cons_mk (Go.ChangeMaps.shut_string Tryd.underlying9 w0) trodAll_mk0)) (fun _ _ => rfl) (by simp) hb
    (ok_one (by kernel_rfl) rfl (okWide_bool_mk Tryd.underlying4 _))⟩

/-- The row's statement. -/
theorem fnExactReadComplex_holds : Rows.FnExactReadComplexSaid :=
  OpenClaim.holds_of_wide 9 Tryd.f9 rfl rfl rfl rfl rfl rfl rfl ⟨rfl, rfl, rfl, rfl, rfl⟩ rfl rfl rfl rfl rfl (by kernel_rfl) Tryd.func9 (by kernel_rfl)
    (of_decide_eq_true (by kernel_rfl)) (by unfold Func.isWrapper; first | (rw [if_pos (by decide +kernel)]; kernel_rfl) | (rw [if_neg (by decide +kernel)]; exact ⟨rfl, rfl⟩))
    (fun os started H enc _ => fnExactReadComplex_lifted os started H enc)
/-- The given card. -/
theorem fnExactReadComplex_card : Rows.FnExactReadComplexCardSaid :=
  Claim7.holds_tied_plain_at .later [] [.data, .data, .data, .data, .sentinel, .sentinel, .pinned] true (true, "c925ff0af9c53d28eeca4a8e271baba30395d268db9c3b0b768c75ebdb38f227") true
    fnExactReadComplex_holds (fun _ h => by cases h) (by kernel_rfl) (fun _ h => by cases h) fnExactReadComplex_row_tie rfl ⟨rfl, rfl⟩ (by kernel_rfl) rfl
    (fun f fn hf hfn => by
      obtain rfl : f = 9 := Option.some.inj ((show Tryd.prog.funcNamed Rows.fnExactReadComplexRow.func = some 9 by kernel_rfl).symm.trans hf) |>.symm
      obtain rfl : fn = Tryd.f9 := (Option.some.inj (Tryd.func9.symm.trans hfn)).symm
      exact ⟨by kernel_rfl, fun j t ht => by
        rw [Tryd.params9] at ht
        have hm : t ∈ [9] := by simpa using Array.mem_of_getElem? ht
        have hall : ([9].all fun u => !Tryd.prog.wantsStandIn u) = true := by kernel_rfl
        exact (show Tryd.prog.wantsStandIn t = false by simpa using List.all_eq_true.1 hall t hm)⟩)
    (by kernel_rfl)
end Go.Proofs.YtjkkfimkojmifaaDoor.Em
