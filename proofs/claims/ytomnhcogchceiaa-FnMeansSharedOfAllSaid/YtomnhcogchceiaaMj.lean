/- The walks: MeanOf. -/
import Derived.Laws.Cover2
import Derived.Test.YtomnhcogchceiaaMi
namespace Go.Proofs.Ytomnhcogchceiaa.Mj
open Go Go.RowKit Fl WA WB Md Me Mf Mi
set_option linter.unusedVariables false
/-- Is it a finite number? -/
def finO (o : Option Nat) : Bool := fcmp .f32 (fop .sub .f32 o o) (some 0) == some .eq
theorem fin_o {x : Nat} {o : Option Nat} (h : fl .f32 x = o) : finB x = finO o := by subst h; rfl
/-- A count as a number. -/
def cnt (n : Nat) : Option Nat := some (floatOfInt .f32 (n : Int))
theorem fl_cnt (n : Nat) : fl .f32 (floatOfInt .f32 (n : Int)) = cnt n := fl_num (write_not_nan _ (binade_le .f32) (.number _ _ _) rfl)
def meanV (xs : List Nat) : Option Nat := fop .quo .f32 (sumV xs) (cnt xs.length)
/-- A number if it is finite, and whether. -/
def NumP (b : Bool) (o : Option Nat) (r : Nat) : Prop := FV .f32 (if b then o else some 0) r
def RetNB (o : Option Nat) (g : Bool) (w : World) (e : Ending) (w' : World) : Prop := RetFB (NumP (g && finO o) o) (g && finO o) w e w'
theorem mean_fv {xs : List Nat} {s r : Nat} (hs : FV .f32 (sumV xs) s) (hr : FV .f32 (fop .quo .f32 (fl .f32 s) (fl .f32 (floatOfInt .f32 (xs.length : Int)))) r) : FV .f32 (meanV xs) r := by
  refine ⟨?_, hr.2⟩
  rw [hr.1, hs.1, fl_cnt]; rfl

set_option maxHeartbeats 1000000 in
theorem spec_l02Sum (xs : List Nat) (A : Option Addr) (c : Nat) (w : World) (M : Nat) (hx : Rd w M A xs) (hl : xs.length ≤ 1048576) : Calls Try.prog 24 #[.slice A xs.length c] w (RetF .f32 (FV .f32 (sumV xs)) w) := by
  have HX := Lib.hid hx
  clear hx
  go_enter Try.func24, Try.ntmps24
  go_wp2
  go_loopw [3, 4] (fun s i wr => ∃ j r N : Nat, j ≤ xs.length ∧ i = .int .i64 j ∧ s = .float .f32 r ∧ FV .f32 (sumV (xs.take j)) r ∧ wr = w.drewN N) (fun _ i _ => xs.length - (intOf i).toNat)
  case atStart => exact ⟨0, 0, 0, by omega, rfl, rfl, sum_zero xs, rfl⟩
  case round =>
    obtain ⟨j, s, N, hj, rfl, rfl, hs, rfl⟩ := hrel
    by_cases hlt : j < xs.length
    · obtain ⟨ad, rfl, hb, hc⟩ := HX.out.at_ hlt
      obtain ⟨x, hx⟩ : ∃ x, x = xs[j] := ⟨_, rfl⟩
      rw [← hx] at hc
      have HXX := Lib.hid hx
      clear hx
      go_wp2_with (refine wpList_farith _ _ _ _ _ rfl rfl rfl _ _ _ rfl rfl ?_; intro r n hr)
      go_roundw
      case rel => exact ⟨j + 1, _, _, by omega, by go_num, rfl, sum_step hlt hs HXX.out (by assumption), rfl⟩
      case measure => simp [intOf]; omega
    · have hd := Lib.hid (sum_done hj hlt hs)
      go_wp2
      go_ret
      exact ⟨_, _, hd.out, rfl, rfl⟩

set_option maxHeartbeats 1000000 in
theorem impl_addUp (xs : List Nat) (A : Option Addr) (c : Nat) (w : World) (M : Nat) (hx : Rd w M A xs) (hl : xs.length ≤ 1048576) : Calls Try.prog 21 #[.slice A xs.length c] w (RetF .f32 (FV .f32 (sumV xs)) w) := by
  have HX := Lib.hid hx
  clear hx
  go_enter Try.func21, Try.ntmps21
  go_wp2
  go_loopw [3, 8] (fun s i wr => ∃ j r N : Nat, j ≤ xs.length ∧ i = .int .i64 j ∧ s = .float .f32 r ∧ FV .f32 (sumV (xs.take j)) r ∧ wr = w.drewN N) (fun _ i _ => xs.length - (intOf i).toNat)
  case atStart => exact ⟨0, 0, 0, by omega, rfl, rfl, sum_zero xs, rfl⟩
  case round =>
    obtain ⟨j, s, N, hj, rfl, rfl, hs, rfl⟩ := hrel
    by_cases hlt : j < xs.length
    · obtain ⟨ad, rfl, hb, hc⟩ := HX.out.at_ hlt
      obtain ⟨x, hx⟩ : ∃ x, x = xs[j] := ⟨_, rfl⟩
      rw [← hx] at hc
      have HXX := Lib.hid hx
      clear hx
      go_wp2_with (refine wpList_farith _ _ _ _ _ rfl rfl rfl _ _ _ rfl rfl ?_; intro r n hr)
      go_roundw
      case rel => exact ⟨j + 1, _, _, by omega, by go_num, rfl, sum_step hlt hs HXX.out (by assumption), rfl⟩
      case measure => simp [intOf]; omega
    · have hd := Lib.hid (sum_done hj hlt hs)
      go_wp2
      go_ret
      exact ⟨_, _, hd.out, rfl, rfl⟩

theorem spec_l02Mean (xs : List Nat) (A : Option Addr) (c : Nat) (w : World) (M : Nat) (hx : Rd w M A xs) (hl : xs.length ≤ 1048576) : Calls Try.prog 18 #[.slice A xs.length c] w (RetF .f32 (FV .f32 (meanV xs)) w) := by
  have HX := Lib.hid hx
  clear hx
  go_enter Try.func18, Try.ntmps18
  go_wp2_with fail
  refine (spec_l02Sum xs _ _ _ M (by exact HX.out) hl).mono ?_
  rintro e w' ⟨s, n, hs, rfl, rfl⟩
  have HS := Lib.hid hs
  clear hs
  go_wp2_with (refine wpList_farith _ _ _ _ _ rfl rfl rfl _ _ _ rfl rfl ?_; intro r n hr)
  have hq := mean_fv HS.out (by assumption)
  go_ret
  exact ⟨_, _, hq, rfl, rfl⟩

theorem impl_mean (xs : List Nat) (A : Option Addr) (c : Nat) (w : World) (M : Nat) (hx : Rd w M A xs) (hl : xs.length ≤ 1048576) : Calls Try.prog 15 #[.slice A xs.length c] w (RetF .f32 (FV .f32 (meanV xs)) w) := by
  have HX := Lib.hid hx
  clear hx
  go_enter Try.func15, Try.ntmps15
  go_wp2_with fail
  refine (impl_addUp xs _ _ _ M (by exact HX.out) hl).mono ?_
  rintro e w' ⟨s, n, hs, rfl, rfl⟩
  have HS := Lib.hid hs
  clear hs
  go_wp2_with (refine wpList_farith _ _ _ _ _ rfl rfl rfl _ _ _ rfl rfl ?_; intro r n hr)
  have hq := mean_fv HS.out (by assumption)
  go_ret
  exact ⟨_, _, hq, rfl, rfl⟩

theorem spec_l02Number (x : Nat) (hx : x < 2 ^ 32) (w : World) : Calls Try.prog 17 #[.float .f32 x] w (RetNB (fl .f32 x) true w) := by
  cases hf : finB x
  · have hb : (true && finO (fl .f32 x)) = false := by rw [← fin_o rfl, hf]; rfl
    unfold RetNB
    rw [hb]
    clear hb hx
    go_enter Try.func17, Try.ntmps17
    go_wp2_with (go_at_call 23; refine (spec_l01Finite _ _).mono ?_; rintro e w' ⟨rfl, n, rfl⟩)
    go_ret2
    exact ⟨0, _, ⟨rfl, by decide⟩, rfl, rfl⟩
  · have hb : (true && finO (fl .f32 x)) = true := by rw [← fin_o rfl, hf]; rfl
    unfold RetNB
    rw [hb]
    clear hb
    have HX := Lib.hid hx
    clear hx
    go_enter Try.func17, Try.ntmps17
    go_wp2_with (go_at_call 23; refine (spec_l01Finite _ _).mono ?_; rintro e w' ⟨rfl, n, rfl⟩)
    go_ret2
    exact ⟨x, _, ⟨rfl, HX.out⟩, rfl, rfl⟩

theorem impl_ifFinite (x : Nat) (hx : x < 2 ^ 32) (w : World) : Calls Try.prog 14 #[.float .f32 x] w (RetNB (fl .f32 x) true w) := by
  cases hf : finB x
  · have hb : (true && finO (fl .f32 x)) = false := by rw [← fin_o rfl, hf]; rfl
    unfold RetNB
    rw [hb]
    clear hb hx
    go_enter Try.func14, Try.ntmps14
    go_wp2_with (go_at_call 20; refine (impl_IsFinite _ _).mono ?_; rintro e w' ⟨rfl, n, rfl⟩)
    go_ret2
    exact ⟨0, _, ⟨rfl, by decide⟩, rfl, rfl⟩
  · have hb : (true && finO (fl .f32 x)) = true := by rw [← fin_o rfl, hf]; rfl
    unfold RetNB
    rw [hb]
    clear hb
    have HX := Lib.hid hx
    clear hx
    go_enter Try.func14, Try.ntmps14
    go_wp2_with (go_at_call 20; refine (impl_IsFinite _ _).mono ?_; rintro e w' ⟨rfl, n, rfl⟩)
    go_ret2
    exact ⟨x, _, ⟨rfl, HX.out⟩, rfl, rfl⟩

set_option maxHeartbeats 1000000 in
theorem spec_MeanOf (xs : List Nat) (A : Option Addr) (c : Nat) (w : World) (M : Nat) (hx : Rd w M A xs) (hl : xs.length ≤ 1048576) : Calls Try.prog 10 #[.slice A xs.length c] w (RetNB (meanV xs) (serB xs) w) := by
  have HX := Lib.hid hx
  clear hx
  cases hs : serB xs
  · have HB := Lib.hid (show (false && finO (meanV xs)) = false from rfl)
    go_enter Try.func10, Try.ntmps10
    go_wp2_with fail
    refine (spec_l02Series xs A c _ M (by exact HX.out) hl).mono ?_
    rintro e w' ⟨n, rfl, rfl⟩
    go_wp2
    go_ret2
    exact ⟨0, _, ⟨rfl, by decide⟩, rfl, rfl⟩
  · go_enter Try.func10, Try.ntmps10
    go_wp2_with fail
    refine (spec_l02Series xs A c _ M (by exact HX.out) hl).mono ?_
    rintro e w' ⟨n, rfl, rfl⟩
    go_wp2_with fail
    refine (spec_l02Mean xs A c _ M (by exact HX.out) hl).mono ?_
    rintro e w' ⟨s, k, hq, rfl, rfl⟩
    have HQ := Lib.hid hq
    clear hq
    go_wp2_with fail
    refine (spec_l02Number s HQ.out.2 _).mono ?_
    rw [HQ.out.1]
    rintro e w' ⟨r, m, hr, rfl, rfl⟩
    go_wp2
    go_ret2
    exact ⟨_, _, hr, rfl, rfl⟩

set_option maxHeartbeats 1000000 in
theorem impl_MeanOf (xs : List Nat) (A : Option Addr) (c : Nat) (w : World) (M : Nat) (hx : Rd w M A xs) (hl : xs.length ≤ 1048576) : Calls Try.prog 8 #[.slice A xs.length c] w (RetNB (meanV xs) (serB xs) w) := by
  have HX := Lib.hid hx
  clear hx
  cases hs : serB xs
  · have HB := Lib.hid (show (false && finO (meanV xs)) = false from rfl)
    go_enter Try.func8, Try.ntmps8
    go_wp2_with fail
    refine (impl_IsSeries xs A c _ M (by exact HX.out) hl).mono ?_
    rintro e w' ⟨n, rfl, rfl⟩
    go_wp2
    go_ret2
    exact ⟨0, _, ⟨rfl, by decide⟩, rfl, rfl⟩
  · go_enter Try.func8, Try.ntmps8
    go_wp2_with fail
    refine (impl_IsSeries xs A c _ M (by exact HX.out) hl).mono ?_
    rintro e w' ⟨n, rfl, rfl⟩
    go_wp2_with fail
    refine (impl_mean xs A c _ M (by exact HX.out) hl).mono ?_
    rintro e w' ⟨s, k, hq, rfl, rfl⟩
    have HQ := Lib.hid hq
    clear hq
    go_wp2_with fail
    refine (impl_ifFinite s HQ.out.2 _).mono ?_
    rw [HQ.out.1]
    rintro e w' ⟨r, m, hr, rfl, rfl⟩
    go_wp2
    go_ret2
    exact ⟨_, _, hr, rfl, rfl⟩

end Go.Proofs.Ytomnhcogchceiaa.Mj