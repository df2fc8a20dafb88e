/- The program's WeekOf, DateOf, EasterOf and WeekdayIn are the reference's, for every argument; no condition. -/
import Derived.Test.YtinlpjcbhhpaeaaRows
import Derived.Test.YtinlpjcbhhpaeaaWG
import Derived.WalkKit
import Derived.ProofKit
import Derived.OpenShut
namespace Go.Proofs.Ytinlpjcbhhpaeaa.LD
open Go.ChangeShapes Go.WideShapes Go.ChangeAt Go.RowKit Cal WC WD WE WF WG
set_option linter.unusedVariables false
theorem own : ownKnob Try.prog.godebug = none := by kernel_rfl
theorem i64_bd {n : Int} (h : (Lit.int .i64 n).wf = true) : -9223372036854775808 ≤ n ∧ n ≤ 9223372036854775807 := by
  simp [Lit.wf, IntKind.min, IntKind.max, IntKind.signed, IntKind.bits] at h; omega

theorem week_no {n : Int} (h : ¬ ((N 1900 ≤ n ∧ n ≤ N 2200 - 1) ∧ (N 1900 ≤ n - wd n + 3 ∧ n - wd n + 3 ≤ N 2200 - 1))) : ¬ (N 1900 ≤ n ∧ n ≤ N 2200 - 1) ∨ ((N 1900 ≤ n ∧ n ≤ N 2200 - 1) ∧ ¬ (N 1900 ≤ n - wd n + 3 ∧ n - wd n + 3 ≤ N 2200 - 1)) := by
  by_cases h1 : N 1900 ≤ n ∧ n ≤ N 2200 - 1
  · exact .inr ⟨h1, fun c => h ⟨h1, c⟩⟩
  · exact .inl h1
theorem y_case {P : Prop} [Decidable P] (h : P) : P := h

set_option maxHeartbeats 400000 in
theorem fnExactWeekOf_walk (a0 : Int) (w0 : (Lit.int .i64 a0).wf = true) (w : World) :
    Calls Try.prog 9 #[.int .i64 a0] w fun e w' => e = .returned (.bool true) ∧ Grown w w' := by
  by_cases hn : (N 1900 ≤ a0 ∧ a0 ≤ N 2200 - 1) ∧ (N 1900 ≤ a0 - wd a0 + 3 ∧ a0 - wd a0 + 3 ≤ N 2200 - 1)
  · obtain ⟨⟨h0, h1⟩, g0, g1⟩ := hn
    go_enter Try.func9, Try.ntmps9
    go_wp2_with fail
    refine (spec_WeekOf_yes _ h0 h1 g0 g1 _).mono ?_
    rintro e w' ⟨y, hy, rfl, hg⟩
    have Hy := Lib.hid hy
    clear hy
    go_wp2_with fail
    refine (impl_WeekOf_yes _ h0 h1 g0 g1 _).mono ?_
    rintro e w' ⟨y2, hy2, rfl, hg2⟩
    obtain rfl := Hy.out.one hy2
    clear hy2
    go_wp2
    go_ret
    exact ⟨rfl, grown_trans hg hg2⟩
  · have H := Lib.hid hn
    clear hn
    go_enter Try.func9, Try.ntmps9
    go_wp2_with (first | (go_at_call 25; refine (spec_WeekOf_no _ (week_no H.out) _).mono ?_; rintro e w' ⟨rfl, rfl⟩) | (go_at_call 26; refine (impl_WeekOf_no _ (week_no H.out) _).mono ?_; rintro e w' ⟨rfl, rfl⟩))
    go_ret
    exact ⟨rfl, (by repeat (first | exact Grown.refl _ | assumption | refine grown_trans (by assumption) ?_))⟩
set_option maxRecDepth 100000 in
theorem fnExactWeekOf_lifted (os : Os) (started : os.Started) (H : Type) (enc : TypeId × Value → H) :
    ReturnsInHanded {} Try.checked os 9 .any (Rows.fnExactWeekOfSpec.pre6 enc Try.prog Try.f9 Rows.fnExactWeekOfRow.domain false) (Rows.fnExactWeekOfSpec.post enc Try.prog Try.f9 false true false false) := by
  refine returnsInHanded_of_change (C := Try.checked) own started (by kernel_rfl) Try.func9
    (ChangeSpec.witness6 (enc := enc) (C := Try.checked) false ⟨#[], #[.int .i64 0], []⟩ 8 (by kernel_rfl) (by kernel_rfl) (by kernel_rfl) (by kernel_rfl)) ?_
  intro W base args ds gs before hval0 hW hcnd hsz
  have hval : ∀ (j : Nat) t v, Try.f9.params[j]? = some t → args[j]? = some v → Value.okWide Try.prog W .any base t v := hval0
  have hW' := hW
  obtain ⟨p, q, hA0, hV, rfl, hfz, hnd⟩ := hW
  have hA : DataW.TrodAll enc Try.prog W 0 (fun _ => true) true Try.f9.params.toList args.toList ds p := hA0
  rw [Try.params9] at hA hval
  obtain ⟨v0, vs0, d0, ds0, p0, q0, hargs, rfl, rfl, h0, r0⟩ := trodAll_cons hA
  obtain ⟨rfl, rfl, rfl⟩ := trodAll_nil r0
  obtain rfl : args = #[v0] := by cases args; simp_all
  obtain ⟨rfl, rfl⟩ := trodVars_none hV
  obtain ⟨a0, rfl, rfl, rfl, w0⟩ := open_int Try.underlying2 (hval 0 2 v0 rfl rfl) h0
  clear hA0 hval0
  simp only [List.append_nil] at hW'
  refine (fnExactWeekOf_walk a0 w0 W).mono fun e W' ⟨he, hg⟩ => ?_
  subst he
  exact ⟨_, rfl, post_of_same (pa := []) (pv := []) hW' (fun _ _ _ => (trodAll_cons_mk (shut_bool Try.underlying4 _) trodAll_mk0)) (fun sp _ => (trodAll_cons_mk (shut_int Try.underlying2 w0) trodAll_mk0)) (fun _ _ => rfl) rfl
    (hg.frame _) hg.2.1 (ok_one (by kernel_rfl) rfl (okWide_bool_mk Try.underlying4 _))⟩

/-- The given statement. -/
theorem fnExactWeekOf_holds : Rows.FnExactWeekOfSaid :=
  OpenClaim.holds_of_wide 9 Try.f9 rfl rfl rfl rfl rfl rfl rfl ⟨rfl, rfl, rfl, rfl, rfl⟩ rfl rfl rfl rfl rfl (by kernel_rfl) Try.func9 (by kernel_rfl)
    (of_decide_eq_true (by kernel_rfl)) (by unfold Func.isWrapper; first | (rw [if_pos (by decide +kernel)]; kernel_rfl) | (rw [if_neg (by decide +kernel)]; exact ⟨rfl, rfl⟩))
    (fun os started H enc _ => fnExactWeekOf_lifted os started H enc)

set_option maxHeartbeats 400000 in
theorem fnExactDateOf_walk (a0 : Int) (w0 : (Lit.int .i64 a0).wf = true) (w : World) :
    Calls Try.prog 10 #[.int .i64 a0] w fun e w' => e = .returned (.bool true) ∧ Grown w w' := by
  by_cases hn : N 1900 ≤ a0 ∧ a0 ≤ N 2200 - 1
  · obtain ⟨h0, h1⟩ := hn
    go_enter Try.func10, Try.ntmps10
    go_wp2_with fail
    refine (spec_DateOf_yes _ h0 h1 _).mono ?_
    rintro e w' ⟨y, m, d, hy, rfl, hg⟩
    have Hy := Lib.hid hy
    clear hy
    go_wp2_with fail
    refine (impl_DateOf_yes _ h0 h1 _).mono ?_
    rintro e w' ⟨y2, m2, d2, hy2, rfl, hg2⟩
    obtain ⟨rfl, rfl, rfl⟩ := Hy.out.one hy2
    clear hy2
    go_wp2
    go_ret
    exact ⟨rfl, grown_trans hg hg2⟩
  · have H := Lib.hid hn
    clear hn
    go_enter Try.func10, Try.ntmps10
    go_wp2_with (first | (go_at_call 27; refine (spec_DateOf_no _ H.out _).mono ?_; rintro e w' ⟨rfl, rfl⟩) | (go_at_call 28; refine (impl_DateOf_no _ H.out _).mono ?_; rintro e w' ⟨rfl, rfl⟩))
    go_ret
    exact ⟨rfl, (by repeat (first | exact Grown.refl _ | assumption | refine grown_trans (by assumption) ?_))⟩
set_option maxRecDepth 100000 in
theorem fnExactDateOf_lifted (os : Os) (started : os.Started) (H : Type) (enc : TypeId × Value → H) :
    ReturnsInHanded {} Try.checked os 10 .any (Rows.fnExactDateOfSpec.pre6 enc Try.prog Try.f10 Rows.fnExactDateOfRow.domain false) (Rows.fnExactDateOfSpec.post enc Try.prog Try.f10 false true false false) := by
  refine returnsInHanded_of_change (C := Try.checked) own started (by kernel_rfl) Try.func10
    (ChangeSpec.witness6 (enc := enc) (C := Try.checked) false ⟨#[], #[.int .i64 0], []⟩ 8 (by kernel_rfl) (by kernel_rfl) (by kernel_rfl) (by kernel_rfl)) ?_
  intro W base args ds gs before hval0 hW hcnd hsz
  have hval : ∀ (j : Nat) t v, Try.f10.params[j]? = some t → args[j]? = some v → Value.okWide Try.prog W .any base t v := hval0
  have hW' := hW
  obtain ⟨p, q, hA0, hV, rfl, hfz, hnd⟩ := hW
  have hA : DataW.TrodAll enc Try.prog W 0 (fun _ => true) true Try.f10.params.toList args.toList ds p := hA0
  rw [Try.params10] at hA hval
  obtain ⟨v0, vs0, d0, ds0, p0, q0, hargs, rfl, rfl, h0, r0⟩ := trodAll_cons hA
  obtain ⟨rfl, rfl, rfl⟩ := trodAll_nil r0
  obtain rfl : args = #[v0] := by cases args; simp_all
  obtain ⟨rfl, rfl⟩ := trodVars_none hV
  obtain ⟨a0, rfl, rfl, rfl, w0⟩ := open_int Try.underlying2 (hval 0 2 v0 rfl rfl) h0
  clear hA0 hval0
  simp only [List.append_nil] at hW'
  refine (fnExactDateOf_walk a0 w0 W).mono fun e W' ⟨he, hg⟩ => ?_
  subst he
  exact ⟨_, rfl, post_of_same (pa := []) (pv := []) hW' (fun _ _ _ => (trodAll_cons_mk (shut_bool Try.underlying4 _) trodAll_mk0)) (fun sp _ => (trodAll_cons_mk (shut_int Try.underlying2 w0) trodAll_mk0)) (fun _ _ => rfl) rfl
    (hg.frame _) hg.2.1 (ok_one (by kernel_rfl) rfl (okWide_bool_mk Try.underlying4 _))⟩

/-- The given statement. -/
theorem fnExactDateOf_holds : Rows.FnExactDateOfSaid :=
  OpenClaim.holds_of_wide 10 Try.f10 rfl rfl rfl rfl rfl rfl rfl ⟨rfl, rfl, rfl, rfl, rfl⟩ rfl rfl rfl rfl rfl (by kernel_rfl) Try.func10 (by kernel_rfl)
    (of_decide_eq_true (by kernel_rfl)) (by unfold Func.isWrapper; first | (rw [if_pos (by decide +kernel)]; kernel_rfl) | (rw [if_neg (by decide +kernel)]; exact ⟨rfl, rfl⟩))
    (fun os started H enc _ => fnExactDateOf_lifted os started H enc)

set_option maxHeartbeats 400000 in
theorem fnExactEasterOf_walk (a0 : Int) (w0 : (Lit.int .i64 a0).wf = true) (w : World) :
    Calls Try.prog 12 #[.int .i64 a0] w fun e w' => e = .returned (.bool true) ∧ Grown w w' := by
  by_cases hn : 1900 ≤ a0 ∧ a0 ≤ 2199
  · obtain ⟨h0, h1⟩ := hn
    go_enter Try.func12, Try.ntmps12
    go_wp2_with (first | (go_at_call 31; refine (spec_EasterOf_yes _ h0 h1 _).mono ?_; rintro e w' ⟨rfl, hg⟩) | (go_at_call 32; refine (impl_EasterOf_yes _ h0 h1 _).mono ?_; rintro e w' ⟨rfl, hg⟩))
    go_ret
    exact ⟨rfl, (by repeat (first | exact Grown.refl _ | assumption | refine grown_trans (by assumption) ?_))⟩
  · have H := Lib.hid hn
    clear hn
    go_enter Try.func12, Try.ntmps12
    go_wp2_with (first | (go_at_call 31; refine (spec_EasterOf_no _ H.out _).mono ?_; rintro e w' ⟨rfl, rfl⟩) | (go_at_call 32; refine (impl_EasterOf_no _ H.out _).mono ?_; rintro e w' ⟨rfl, rfl⟩))
    go_ret
    exact ⟨rfl, (by repeat (first | exact Grown.refl _ | assumption | refine grown_trans (by assumption) ?_))⟩
set_option maxRecDepth 100000 in
theorem fnExactEasterOf_lifted (os : Os) (started : os.Started) (H : Type) (enc : TypeId × Value → H) :
    ReturnsInHanded {} Try.checked os 12 .any (Rows.fnExactEasterOfSpec.pre6 enc Try.prog Try.f12 Rows.fnExactEasterOfRow.domain false) (Rows.fnExactEasterOfSpec.post enc Try.prog Try.f12 false true false false) := by
  refine returnsInHanded_of_change (C := Try.checked) own started (by kernel_rfl) Try.func12
    (ChangeSpec.witness6 (enc := enc) (C := Try.checked) false ⟨#[], #[.int .i64 0], []⟩ 8 (by kernel_rfl) (by kernel_rfl) (by kernel_rfl) (by kernel_rfl)) ?_
  intro W base args ds gs before hval0 hW hcnd hsz
  have hval : ∀ (j : Nat) t v, Try.f12.params[j]? = some t → args[j]? = some v → Value.okWide Try.prog W .any base t v := hval0
  have hW' := hW
  obtain ⟨p, q, hA0, hV, rfl, hfz, hnd⟩ := hW
  have hA : DataW.TrodAll enc Try.prog W 0 (fun _ => true) true Try.f12.params.toList args.toList ds p := hA0
  rw [Try.params12] at hA hval
  obtain ⟨v0, vs0, d0, ds0, p0, q0, hargs, rfl, rfl, h0, r0⟩ := trodAll_cons hA
  obtain ⟨rfl, rfl, rfl⟩ := trodAll_nil r0
  obtain rfl : args = #[v0] := by cases args; simp_all
  obtain ⟨rfl, rfl⟩ := trodVars_none hV
  obtain ⟨a0, rfl, rfl, rfl, w0⟩ := open_int Try.underlying2 (hval 0 2 v0 rfl rfl) h0
  clear hA0 hval0
  simp only [List.append_nil] at hW'
  refine (fnExactEasterOf_walk a0 w0 W).mono fun e W' ⟨he, hg⟩ => ?_
  subst he
  exact ⟨_, rfl, post_of_same (pa := []) (pv := []) hW' (fun _ _ _ => (trodAll_cons_mk (shut_bool Try.underlying4 _) trodAll_mk0)) (fun sp _ => (trodAll_cons_mk (shut_int Try.underlying2 w0) trodAll_mk0)) (fun _ _ => rfl) rfl
    (hg.frame _) hg.2.1 (ok_one (by kernel_rfl) rfl (okWide_bool_mk Try.underlying4 _))⟩

/-- The given statement. -/
theorem fnExactEasterOf_holds : Rows.FnExactEasterOfSaid :=
  OpenClaim.holds_of_wide 12 Try.f12 rfl rfl rfl rfl rfl rfl rfl ⟨rfl, rfl, rfl, rfl, rfl⟩ rfl rfl rfl rfl rfl (by kernel_rfl) Try.func12 (by kernel_rfl)
    (of_decide_eq_true (by kernel_rfl)) (by unfold Func.isWrapper; first | (rw [if_pos (by decide +kernel)]; kernel_rfl) | (rw [if_neg (by decide +kernel)]; exact ⟨rfl, rfl⟩))
    (fun os started H enc _ => fnExactEasterOf_lifted os started H enc)

theorem in_no {y m k c : Int} (h : ¬ ((1900 ≤ y ∧ y ≤ 2199) ∧ (1 ≤ m ∧ m ≤ 12) ∧ (0 ≤ k ∧ k ≤ 6) ∧ (1 ≤ c ∧ c ≤ 5))) : (¬ (1900 ≤ y ∧ y ≤ 2199) ∨ ¬ (1 ≤ m ∧ m ≤ 12)) ∨ ((1900 ≤ y ∧ y ≤ 2199) ∧ (1 ≤ m ∧ m ≤ 12) ∧ (¬ (0 ≤ k ∧ k ≤ 6) ∨ ¬ (1 ≤ c ∧ c ≤ 5))) := by
  by_cases h1 : (1900 ≤ y ∧ y ≤ 2199) ∧ (1 ≤ m ∧ m ≤ 12)
  · refine .inr ⟨h1.1, h1.2, ?_⟩
    by_cases h2 : 0 ≤ k ∧ k ≤ 6
    · exact .inr fun h3 => h ⟨h1.1, h1.2, h2, h3⟩
    · exact .inl h2
  · exact .inl (Decidable.not_and_iff_or_not.1 h1)

set_option maxHeartbeats 400000 in
theorem fnExactWeekdayIn_walk (a0 : Int) (w0 : (Lit.int .i64 a0).wf = true) (a1 : Int) (w1 : (Lit.int .i64 a1).wf = true) (a2 : Int) (w2 : (Lit.int .i64 a2).wf = true) (a3 : Int) (w3 : (Lit.int .i64 a3).wf = true) (w : World) :
    Calls Try.prog 11 #[.int .i64 a0, .int .i64 a1, .int .i64 a2, .int .i64 a3] w fun e w' => e = .returned (.bool true) ∧ Grown w w' := by
  by_cases hn : (1900 ≤ a0 ∧ a0 ≤ 2199) ∧ (1 ≤ a1 ∧ a1 ≤ 12) ∧ (0 ≤ a2 ∧ a2 ≤ 6) ∧ (1 ≤ a3 ∧ a3 ≤ 5)
  · obtain ⟨⟨h0, h1⟩, ⟨h2, h3⟩, ⟨h4, h5⟩, h6, h7⟩ := hn
    by_cases h8 : off a0 a1 a2 a3 < mon a0 a1
    · have H := Lib.hid h8
      clear h8
      go_enter Try.func11, Try.ntmps11
      go_wp2_with (first | (go_at_call 29; refine (spec_WeekdayIn_yes _ _ _ _ h0 h1 h2 h3 h4 h5 h6 h7 H.out _).mono ?_; rintro e w' ⟨rfl, hg⟩) | (go_at_call 30; refine (impl_WeekdayIn_yes _ _ _ _ h0 h1 h2 h3 h4 h5 h6 h7 H.out _).mono ?_; rintro e w' ⟨rfl, hg⟩))
      go_ret
      exact ⟨rfl, (by repeat (first | exact Grown.refl _ | assumption | refine grown_trans (by assumption) ?_))⟩
    · have H := Lib.hid (show mon a0 a1 ≤ off a0 a1 a2 a3 by omega)
      clear h8
      go_enter Try.func11, Try.ntmps11
      go_wp2_with (first | (go_at_call 29; refine (spec_WeekdayIn_late _ _ _ _ h0 h1 h2 h3 h4 h5 h6 h7 H.out _).mono ?_; rintro e w' ⟨rfl, hg⟩) | (go_at_call 30; refine (impl_WeekdayIn_late _ _ _ _ h0 h1 h2 h3 h4 h5 h6 h7 H.out _).mono ?_; rintro e w' ⟨rfl, hg⟩))
      go_ret
      exact ⟨rfl, (by repeat (first | exact Grown.refl _ | assumption | refine grown_trans (by assumption) ?_))⟩
  · have H := Lib.hid hn
    clear hn
    go_enter Try.func11, Try.ntmps11
    go_wp2_with (first | (go_at_call 29; refine (spec_WeekdayIn_no _ _ _ _ (in_no H.out) _).mono ?_; rintro e w' ⟨rfl, hg⟩) | (go_at_call 30; refine (impl_WeekdayIn_no _ _ _ _ (in_no H.out) _).mono ?_; rintro e w' ⟨rfl, hg⟩))
    go_ret
    exact ⟨rfl, (by repeat (first | exact Grown.refl _ | assumption | refine grown_trans (by assumption) ?_))⟩
set_option maxRecDepth 100000 in
theorem fnExactWeekdayIn_lifted (os : Os) (started : os.Started) (H : Type) (enc : TypeId × Value → H) :
    ReturnsInHanded {} Try.checked os 11 .any (Rows.fnExactWeekdayInSpec.pre6 enc Try.prog Try.f11 Rows.fnExactWeekdayInRow.domain false) (Rows.fnExactWeekdayInSpec.post enc Try.prog Try.f11 false true false false) := by
  refine returnsInHanded_of_change (C := Try.checked) own started (by kernel_rfl) Try.func11
    (ChangeSpec.witness6 (enc := enc) (C := Try.checked) false ⟨#[], #[.int .i64 0, .int .i64 0, .int .i64 0, .int .i64 0], []⟩ 8 (by kernel_rfl) (by kernel_rfl) (by kernel_rfl) (by kernel_rfl)) ?_
  intro W base args ds gs before hval0 hW hcnd hsz
  have hval : ∀ (j : Nat) t v, Try.f11.params[j]? = some t → args[j]? = some v → Value.okWide Try.prog W .any base t v := hval0
  have hW' := hW
  obtain ⟨p, q, hA0, hV, rfl, hfz, hnd⟩ := hW
  have hA : DataW.TrodAll enc Try.prog W 0 (fun _ => true) true Try.f11.params.toList args.toList ds p := hA0
  rw [Try.params11] at hA hval
  obtain ⟨v0, vs0, d0, ds0, p0, q0, hargs, rfl, rfl, h0, r0⟩ := trodAll_cons hA
  obtain ⟨v1, vs1, d1, ds1, p1, q1, rfl, rfl, rfl, h1, r1⟩ := trodAll_cons r0
  obtain ⟨v2, vs2, d2, ds2, p2, q2, rfl, rfl, rfl, h2, r2⟩ := trodAll_cons r1
  obtain ⟨v3, vs3, d3, ds3, p3, q3, rfl, rfl, rfl, h3, r3⟩ := trodAll_cons r2
  obtain ⟨rfl, rfl, rfl⟩ := trodAll_nil r3
  obtain rfl : args = #[v0, v1, v2, v3] := by cases args; simp_all
  obtain ⟨rfl, rfl⟩ := trodVars_none hV
  obtain ⟨a0, rfl, rfl, rfl, w0⟩ := open_int Try.underlying2 (hval 0 2 v0 rfl rfl) h0
  obtain ⟨a1, rfl, rfl, rfl, w1⟩ := open_int Try.underlying2 (hval 1 2 v1 rfl rfl) h1
  obtain ⟨a2, rfl, rfl, rfl, w2⟩ := open_int Try.underlying2 (hval 2 2 v2 rfl rfl) h2
  obtain ⟨a3, rfl, rfl, rfl, w3⟩ := open_int Try.underlying2 (hval 3 2 v3 rfl rfl) h3
  clear hA0 hval0
  simp only [List.append_nil] at hW'
  refine (fnExactWeekdayIn_walk a0 w0 a1 w1 a2 w2 a3 w3 W).mono fun e W' ⟨he, hg⟩ => ?_
  subst he
  exact ⟨_, rfl, post_of_same (pa := []) (pv := []) hW' (fun _ _ _ => (trodAll_cons_mk (shut_bool Try.underlying4 _) trodAll_mk0)) (fun sp _ => (trodAll_cons_mk (shut_int Try.underlying2 w0) (trodAll_cons_mk (shut_int Try.underlying2 w1) (trodAll_cons_mk (shut_int Try.underlying2 w2) (trodAll_cons_mk (shut_int Try.underlying2 w3) trodAll_mk0))))) (fun _ _ => rfl) rfl
    (hg.frame _) hg.2.1 (ok_one (by kernel_rfl) rfl (okWide_bool_mk Try.underlying4 _))⟩

/-- The given statement. -/
theorem fnExactWeekdayIn_holds : Rows.FnExactWeekdayInSaid :=
  OpenClaim.holds_of_wide 11 Try.f11 rfl rfl rfl rfl rfl rfl rfl ⟨rfl, rfl, rfl, rfl, rfl⟩ rfl rfl rfl rfl rfl (by kernel_rfl) Try.func11 (by kernel_rfl)
    (of_decide_eq_true (by kernel_rfl)) (by unfold Func.isWrapper; first | (rw [if_pos (by decide +kernel)]; kernel_rfl) | (rw [if_neg (by decide +kernel)]; exact ⟨rfl, rfl⟩))
    (fun os started H enc _ => fnExactWeekdayIn_lifted os started H enc)

end Go.Proofs.Ytinlpjcbhhpaeaa.LD