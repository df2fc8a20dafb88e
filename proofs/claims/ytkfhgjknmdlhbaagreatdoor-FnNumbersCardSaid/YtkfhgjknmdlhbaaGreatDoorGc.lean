/- FnNumbers: what its answers rest on, in plain Lean; small walks. -/
import Derived.Test.YtkfhgjknmdlhbaaGreatDoorGb
import Derived.Test.YtkfhgjknmdlhbaaGreatDoorWQ
import Derived.Test.YtkfhgjknmdlhbaaGreatDoorMf
namespace Go.Proofs.YtkfhgjknmdlhbaaGreatDoor.Gc
open Go Go.RowKit Go.Lib Fl Fs Fo Fw Fb Fm Ff Fz WA WB WH WI WK WM WP WQ Dd De Dm Eb Ec Ee Ef
set_option linter.unusedVariables false
set_option maxRecDepth 20000
/-- A word, or what reads as no number. -/
def W32 (x : Nat) : Prop := fl .f32 x = none ∨ x < 4294967296
theorem w32_of {x : Nat} (h : x < 4294967296) : W32 x := .inr h
theorem w32_fl {x : Nat} {o : Option Nat} (h : fl .f32 x = o) (ho : ∀ v, o = some v → v < 4294967296) : W32 x := by
  cases hx : fl .f32 x with
  | none => exact .inl hx
  | some v => exact .inr (by rw [← (fl_some hx).1]; exact ho v (by rw [← h, hx]))
theorem w32_num {x : Nat} (h : W32 x) (hn : (FloatKind.f32.format.read x).isNaN = false) : x < 4294967296 := by
  rcases h with h | h
  · rw [fl_num hn] at h; cases h
  · exact h
theorem bits_w (x : Nat) (hx : W32 x) (w : World) :
    Calls Tryz.prog 69 #[.float .f32 x] w fun e w' => e = .returned (.int .i64 (bitsB x)) ∧ w = w' := by
  have ho := order_self (k := .f32) (x := x)
  cases hn : (FloatKind.f32.format.read x).isNaN
  · exact spec_l01Bits x (w32_num hx hn) w
  · have h1 : (FloatKind.f32.format.order x x != some .eq) = true := by rw [ho, hn]; rfl
    have h2 : bitsB x = 2143289344 := by simp [bitsB, hn]
    have H := Lib.hid h2; clear h2 ho hn hx
    go_enter Tryz.func69, Tryz.ntmps69
    go_wp2
    go_ret
    exact ⟨ret_int H.out.symm, rfl⟩
theorem same_w (a b : Nat) (ha : W32 a) (hb : W32 b) (w : World) :
    Calls Tryz.prog 10 #[.float .f32 a, .float .f32 b] w fun e w' => e = .returned (.bool (sameB a b)) ∧ w = w' := by
  have HA := Lib.hid ha
  have HB := Lib.hid hb
  have h := Lib.hid (bitsB_eq (a := a) (b := b))
  clear ha hb
  go_enter Tryz.func10, Tryz.ntmps10
  go_wp2_with fail
  refine Calls.mono (R := fun e w' => e = .returned (.bool (sameB a b)) ∧ w = w') ?_ ?_
  · go_enter Tryz.func43, Tryz.ntmps43
    go_wp2_with fail
    refine (bits_w a HA.out _).mono ?_
    rintro e w' ⟨rfl, rfl⟩
    go_wp2_with fail
    refine (bits_w b HB.out _).mono ?_
    rintro e w' ⟨rfl, rfl⟩
    go_wp2
    go_ret
    exact ⟨WA.ret_bool h.out, rfl⟩
  · rintro e w' ⟨rfl, rfl⟩
    go_wp2
    go_ret
    exact ⟨rfl, rfl⟩
theorem same_yes {a b : Nat} (h : fl .f32 a = fl .f32 b) : sameB a b = true := decide_eq_true h
theorem narrow_any (x : Nat) (w : World) : Calls Tryz.prog 36 #[.float .f64 x] w (RetF .f32 (FC .f64 .f32 (fl .f64 x)) w) := by
  go_enter Tryz.func36, Tryz.ntmps36
  go_wp2_with (refine wpList_fconv _ _ _ rfl rfl .f64 .f32 (by decide) _ rfl (by rw [Tryz.underlying46]; rfl) Tryz.underlying28 ?_); intro r n hr
  have HR := Lib.hid hr
  clear hr
  go_wp2
  go_ret
  exact ⟨_, _, HR.out, rfl, rfl⟩
theorem angleOf_any (a b : Nat) (w : World) : Calls Tryz.prog 35 #[.complex .f32 a b] w (RetF .f32 (fun r => fl .f32 r = angT b a) w) := by
  go_enter Tryz.func35, Tryz.ntmps35
  go_wp2_with fail
  refine (impl_AngleTurns b a _).mono ?_
  rintro e w' ⟨r, n, hr, rfl, rfl⟩
  have HR := Lib.hid hr
  clear hr
  go_wp2
  go_ret
  exact ⟨_, _, HR.out, rfl, rfl⟩
/-! Bits. -/
theorem back_fl (x : Nat) : fl .f32 (bitsB x).toNat = fl .f32 x := by
  unfold bitsB
  cases hn : (FloatKind.f32.format.read x).isNaN
  · simp
  · have h1 : fl .f32 x = none := by unfold fl; rw [hn]; rfl
    rw [h1, if_pos rfl]
    decide +kernel
theorem bits_idem (x : Nat) : bitsB (bitsB x).toNat = bitsB x := by
  cases hn : (FloatKind.f32.format.read x).isNaN
  · have h2 : bitsB x = x := by simp [bitsB, hn]
    rw [h2, Int.toNat_natCast, h2]
  · have h2 : bitsB x = 2143289344 := by simp [bitsB, hn]
    rw [h2]
    decide +kernel
/-! Flushing. -/
theorem flushV_lt {x : Nat} (hx : x < 4294967296) : ∀ v, flushV x = some v → v < 4294967296 := by
  intro v h
  unfold flushV at h
  split at h
  · have := Option.some.inj h; omega
  · rw [(fl_some h).1]; exact hx
theorem nan_big {x : Nat} (h : fl .f32 x = none) : ¬ x % 2147483648 < 8388608 := by
  intro hs
  have : fl .f32 x = some x := fl_le (k := .f32) (by show x % 2147483648 ≤ 2139095040; omega)
  rw [h] at this; cases this
theorem order_sign {x : Nat} (hx : x < 4294967296) (h : x = x / 2147483648 * 2147483648) : FloatKind.f32.format.order x 0 = some .eq := by
  have : x / 2147483648 = 0 ∨ x / 2147483648 = 1 := by omega
  rcases this with h1 | h1 <;> rw [h, h1] <;> decide +kernel
theorem flush_no_sub {x z : Nat} (hx : x < 4294967296) (hz : fl .f32 z = flushV x) : subB z = false := by
  unfold flushV at hz
  split at hz
  · rename_i hs
    have e := (fl_some hz).1
    unfold subB
    rw [order_sign (by omega) (by omega)]; rfl
  · rename_i hs
    cases hn : fl .f32 x with
    | none =>
      rw [hn] at hz
      unfold subB
      rw [decide_eq_false (nan_big hz), Bool.and_false]
    | some v =>
      rw [hn] at hz
      have e1 := (fl_some hn).1
      have e2 := (fl_some hz).1
      unfold subB
      rw [decide_eq_false (by rw [← e2, e1]; exact hs), Bool.and_false]
theorem flush_other {x z : Nat} (hx : x < 4294967296) (hz : fl .f32 z = flushV x) : sameB x z = !subB x := by
  cases h : subB x
  · exact decide_eq_true ((flush_nosub hx h).trans hz.symm)
  · refine decide_eq_false ?_
    intro e
    have hs := sub_small h
    have h1 : flushV x = some (x / 2147483648 * 2147483648) := by unfold flushV; rw [if_pos hs]
    have h2 : fl .f32 x = some x := fl_le (k := .f32) (by show x % 2147483648 ≤ 2139095040; omega)
    rw [hz, h1, h2, Option.some.injEq] at e
    have := order_sign hx e
    unfold subB at h
    rw [this] at h
    cases h
/-! Narrowing what was widened. -/
theorem over_no {b : Nat} (h : (Ieee.single.read (Ieee.single.write (Ieee.double.read b))).isInfinity = false) : over .f64 .f32 (some b) = false := by
  unfold over
  show (match Ieee.double.read b with | .number sg m e => (Ieee.single.read (Ieee.single.write (.number sg m e))).isInfinity | _ => false) = false
  split
  · rename_i hb; rw [hb] at h; exact h
  · rfl
theorem narrow_wide {x u r : Nat} (hx : x < 4294967296) (hu : FC .f32 .f64 (fl .f32 x) u) (hr : FC .f64 .f32 (fl .f64 u) r) : fl .f32 r = fl .f32 x := by
  cases hn : fl .f32 x with
  | none =>
    have h1 := FC_widen hu
    rw [hn] at h1
    rw [show fl .f64 u = none from h1] at hr
    exact hr.1 rfl
  | some v =>
    have e := (fl_some hn).1
    subst e
    by_cases hf : rung Ieee.single v < Ieee.single.infRung
    · obtain rfl := wid_eq hf hu
      obtain ⟨s, h1, h2, h3⟩ := widen_word hf
      have hw : wid v = Ieee.double.word (sgn Ieee.single v) s := h3
      have hs := rung_word' Ieee.double (sgn Ieee.single v) (Nat.le_of_lt h1)
      have hg := sgn_word' Ieee.double (sgn Ieee.single v) (Nat.le_of_lt h1)
      rw [← hw] at hs hg
      have hb := narrow_back (x := wid v) (r := rung Ieee.single v) (by rw [hs]; exact h1) (Nat.le_of_lt hf) (by rw [hs]; exact h2)
      rw [hg, ← word_of Ieee.single (show v < 2 ^ Ieee.single.width from hx)] at hb
      have hfl : fl .f64 (wid v) = some (wid v) := fl_le (k := .f64) (by show rung Ieee.double (wid v) ≤ _; rw [hs]; exact Nat.le_of_lt h1)
      rw [hfl] at hr
      have hov : over .f64 .f32 (some (wid v)) = false := over_no (by
        rw [hb, word_of Ieee.single (show v < 2 ^ Ieee.single.width from hx)]
        exact isInf_lt _ hf)
      rw [hr.1 hov]
      show some (Ieee.single.write (Ieee.double.read (wid v))) = some v
      rw [hb]
    · have hle := le_of_fl hn
      have h5 : rung Ieee.single v = v % 2147483648 := rfl
      have h6 : Ieee.single.infRung = 2139095040 := by decide +kernel
      have h7 : rung Ieee.single v ≤ Ieee.single.infRung := hle
      rw [h5, h6] at hf h7
      have hv : v = 2139095040 ∨ v = 4286578688 := by omega
      have h1 := FC_widen hu
      rcases hv with rfl | rfl
      · rw [show fconv .f32 .f64 (fl .f32 2139095040) = some 9218868437227405312 by decide +kernel] at h1
        rw [h1] at hr
        rw [hr.1 (by decide +kernel)]; decide +kernel
      · rw [show fconv .f32 .f64 (fl .f32 4286578688) = some 18442240474082181120 by decide +kernel] at h1
        rw [h1] at hr
        rw [hr.1 (by decide +kernel)]; decide +kernel
theorem fconv_lt {o : Option Nat} : ∀ v, fconv .f64 .f32 o = some v → v < 4294967296 := by
  intro v h
  unfold fconv at h
  cases o with
  | none => cases h
  | some b =>
    have := Option.some.inj h
    rw [← this]
    exact Ieee.Format.write_lt Ieee.single _
theorem angT_lt {y x : Nat} : ∀ v, angT y x = some v → v < 4294967296 := by
  intro v h
  unfold angT at h
  split at h
  · split at h
    · have := Option.some.inj h; omega
    · exact fconv_lt v h
  · cases h
set_option maxRecDepth 100000 in
theorem sin_quarter : sinT 1048576000 = some 1065353216 := by decide +kernel
theorem sin_one {r : Nat} (h : fl .f32 r = sinT 1048576000) : (FloatKind.f32.format.order r 1065353216 == some .eq) = true := by
  rw [order_fl, h, sin_quarter]; decide +kernel
/-! Texts read back. -/
theorem read_hex {x : Nat} (hx : x < 4294967296) : readX (hexT x) = bitsN x := by
  have hb := (bitsN_eq hx).2
  unfold readX parsed hexT
  rw [hexA_pad 8 (bitsN x) 0 (by simpa using hb)]
  simp
theorem bitsN_idem (x : Nat) : bitsN (bitsN x) = bitsN x := by
  show (bitsB (bitsB x).toNat).toNat = (bitsB x).toNat
  rw [bits_idem]
theorem ok_hex {x : Nat} (hx : x < 4294967296) : okX (hexT x) = true := by
  unfold okX
  rw [decide_eq_true (hexT_len x), read_hex hx, Bool.true_and]
  refine decide_eq_true ?_
  unfold hexT
  rw [bitsN_idem]
theorem pieces_text (xs : List Nat) : piecesV (textX xs) = xs.map hexT := by
  unfold piecesV
  by_cases h : xs = []
  · subst h; rfl
  · have hc := cut_text h
    rw [if_neg, hc]
    intro e
    rw [e] at hc
    obtain ⟨a, r, rfl⟩ : ∃ a r, xs = a :: r := by
      cases xs with
      | nil => exact absurd rfl h
      | cons a r => exact ⟨a, r, rfl⟩
    have h1 : cutF noneT = [noneT] := by decide
    rw [h1, List.map_cons] at hc
    have h2 := (List.cons.inj hc).1
    have h3 := hexT_len a
    rw [← h2] at h3
    cases h3
theorem text_read {xs : List Nat} (hw : InW xs) (hl : xs.length ≤ 256) : xsV (textX xs) = xs.map bitsN ∧ xsB (textX xs) = true := by
  unfold xsV xsB
  rw [pieces_text]
  refine ⟨?_, ?_⟩
  · rw [List.map_map]
    exact List.map_congr_left fun x hx => read_hex (hw x hx)
  · rw [decide_eq_true (by rw [List.length_map]; exact hl), Bool.true_and, List.all_eq_true]
    intro l h
    obtain ⟨x, hx, rfl⟩ := List.mem_map.1 h
    exact ok_hex (hw x hx)
theorem text_len (xs : List Nat) (h : xs.length ≤ 1000) : (textX xs).length ≤ 9004 := by
  by_cases he : xs = []
  · subst he; decide
  · rw [textX_some he]
    have := joinX_len (xs := xs) xs.length (Nat.le_refl _)
    rw [List.take_length] at this
    omega

end Go.Proofs.YtkfhgjknmdlhbaaGreatDoor.Gc