/- The walks: IsSeries. -/
import Derived.Test.YtomnhcogchceiaaMf
namespace Go.Proofs.Ytomnhcogchceiaa.Mi
open Go Go.RowKit Fl WA WB Md Me Mf
set_option linter.unusedVariables false
def allF (xs : List Nat) : Bool := xs.all finB
def RetB (b : Bool) (w : World) (e : Ending) (w' : World) : Prop := ∃ n, e = .returned (.bool b) ∧ w' = w.drewN n
theorem allF_step {xs : List Nat} {j x : Nat} (hj : j < xs.length) (hx : x = xs[j]) (h : allF (xs.take j) = true) (hf : finB x = true) : allF (xs.take (j + 1)) = true := by
  rw [List.take_succ_eq_append_getElem hj]
  unfold allF at *
  rw [List.all_append, h, ← hx]; simp [hf]
theorem allF_no {xs : List Nat} {j x : Nat} (hj : j < xs.length) (hx : x = xs[j]) (hf : finB x = false) : allF xs = false := by
  unfold allF
  rw [List.all_eq_false]
  exact ⟨x, by rw [hx]; exact List.getElem_mem hj, by simp [hf]⟩
theorem allF_done {xs : List Nat} {j : Nat} (hj : j ≤ xs.length) (hl : ¬ j < xs.length) (h : allF (xs.take j) = true) : allF xs = true := by
  obtain rfl : j = xs.length := by omega
  rw [List.take_length] at h; exact h

set_option maxHeartbeats 1000000 in
theorem spec_l02Finite (xs : List Nat) (A : Option Addr) (c : Nat) (w : World) (M : Nat) (hx : Rd w M A xs) (hl : xs.length ≤ 1048576) :
    Calls Try.prog 22 #[.slice A xs.length c] w (RetB (allF xs) w) := by
  have HX := Lib.hid hx
  clear hx
  go_enter Try.func22, Try.ntmps22
  go_wp2
  go_loopw [3] (fun i wr => ∃ j N : Nat, j ≤ xs.length ∧ i = .int .i64 j ∧ Hid (allF (xs.take j) = true) ∧ wr = w.drewN N) (fun i _ => xs.length - (intOf i).toNat)
  case atStart => exact ⟨0, 0, by omega, rfl, Lib.hid rfl, rfl⟩
  case round =>
    obtain ⟨j, N, hj, rfl, ha, rfl⟩ := hrel
    by_cases hlt : j < xs.length
    · obtain ⟨ad, rfl, hb, hc⟩ := HX.out.at_ hlt
      obtain ⟨x, hx⟩ : ∃ x, x = xs[j] := ⟨_, rfl⟩
      rw [← hx] at hc
      have HXX := Lib.hid hx
      clear hx
      cases hf : finB x
      · have HN := Lib.hid (allF_no hlt HXX.out hf)
        go_wp2_with (go_at_call 23; refine (spec_l01Finite _ _).mono ?_; rintro e w' ⟨rfl, n, rfl⟩)
        go_ret
        exact ⟨_, ret_bool HN.out.symm, rfl⟩
      · have HS := Lib.hid (allF_step hlt HXX.out ha.out hf)
        clear ha
        go_wp2_with (go_at_call 23; refine (spec_l01Finite _ _).mono ?_; rintro e w' ⟨rfl, n, rfl⟩)
        go_roundw
        case rel => exact ⟨j + 1, _, by omega, by go_num, HS, rfl⟩
        case measure => simp [intOf]; omega
    · have hd := Lib.hid (allF_done hj hlt ha.out)
      go_wp2
      go_ret
      exact ⟨_, ret_bool hd.out.symm, rfl⟩

theorem clo_any (x : Nat) (w : World) : Calls Try.prog 26 #[.float .f32 x] w (RetB (!finB x) w) := by
  go_enter Try.func26, Try.ntmps26
  go_wp2_with (go_at_call 20; refine (impl_IsFinite _ _).mono ?_; rintro e w' ⟨rfl, n, rfl⟩)
  go_ret
  exact ⟨_, rfl, rfl⟩
def IdxP (xs : List Nat) (r : Int) : Prop := decide (0 ≤ r) = !allF xs
def RetIx (xs : List Nat) (w : World) (e : Ending) (w' : World) : Prop := ∃ (r : Int) (n : Nat), IdxP xs r ∧ e = .returned (.int .i64 r) ∧ w' = w.drewN n
theorem idx_no {xs : List Nat} (h : allF xs = true) : IdxP xs (-1) := by unfold IdxP; rw [h]; rfl
theorem idx_yes {xs : List Nat} {j : Nat} (h : allF xs = false) : IdxP xs (j : Int) := by unfold IdxP; rw [h]; simp
set_option maxHeartbeats 1000000 in
theorem index_any (xs : List Nat) (A : Option Addr) (c : Nat) (w : World) (M : Nat) (hx : Rd w M A xs) (hl : xs.length ≤ 1048576) :
    Calls Try.prog 27 #[.slice A xs.length c, (.func (.func 26) #[] #[])] w (RetIx xs w) := by
  have HX := Lib.hid hx
  clear hx
  go_enter Try.func27, Try.ntmps27
  go_wp2
  go_loopw [8] (fun i wr => ∃ j N : Nat, j ≤ xs.length ∧ i = .int .i64 j ∧ Hid (allF (xs.take j) = true) ∧ wr = w.drewN N) (fun i _ => xs.length - (intOf i).toNat)
  case atStart => exact ⟨0, 0, by omega, rfl, Lib.hid rfl, rfl⟩
  case round =>
    obtain ⟨j, N, hj, rfl, ha, rfl⟩ := hrel
    by_cases hlt : j < xs.length
    · obtain ⟨ad, rfl, hb, hc⟩ := HX.out.at_ hlt
      obtain ⟨x, hx⟩ : ∃ x, x = xs[j] := ⟨_, rfl⟩
      rw [← hx] at hc
      have HXX := Lib.hid hx
      clear hx
      cases hf : finB x
      · have HN := Lib.hid (allF_no hlt HXX.out hf)
        go_wp2_with (go_at_call 26; refine (clo_any _ _).mono ?_; rintro e w' ⟨n, rfl, rfl⟩)
        go_ret
        exact ⟨_, _, idx_yes HN.out, rfl, rfl⟩
      · have HS := Lib.hid (allF_step hlt HXX.out ha.out hf)
        clear ha
        go_wp2_with (go_at_call 26; refine (clo_any _ _).mono ?_; rintro e w' ⟨n, rfl, rfl⟩)
        go_roundw
        case rel => exact ⟨j + 1, _, by omega, by go_num, HS, rfl⟩
        case measure => simp [intOf]; omega
    · have hd := Lib.hid (allF_done hj hlt ha.out)
      go_wp2
      go_ret
      exact ⟨_, _, idx_no hd.out, rfl, rfl⟩

/-- Is the list a series? -/
def serB (xs : List Nat) : Bool := decide ((1 : Int) ≤ xs.length) && decide ((xs.length : Int) ≤ 96) && allF xs
theorem contains_any (xs : List Nat) (A : Option Addr) (c : Nat) (w : World) (M : Nat) (hx : Rd w M A xs) (hl : xs.length ≤ 1048576) : Calls Try.prog 25 #[.slice A xs.length c, (.func (.func 26) #[] #[])] w (RetB (!allF xs) w) := by
  have HX := Lib.hid hx
  clear hx
  go_enter Try.func25, Try.ntmps25
  go_wp2_with fail
  refine (index_any xs A c _ M (by exact HX.out) hl).mono ?_
  rintro e w' ⟨r, n, hr, rfl, rfl⟩
  have HR := Lib.hid hr
  clear hr
  go_wp2
  go_ret
  exact ⟨_, ret_bool HR.out, rfl⟩
theorem areFinite_any (xs : List Nat) (A : Option Addr) (c : Nat) (w : World) (M : Nat) (hx : Rd w M A xs) (hl : xs.length ≤ 1048576) : Calls Try.prog 19 #[.slice A xs.length c] w (RetB (allF xs) w) := by
  have HX := Lib.hid hx
  clear hx
  go_enter Try.func19, Try.ntmps19
  go_wp2_with fail
  refine (contains_any xs A c _ M (by exact HX.out) hl).mono ?_
  rintro e w' ⟨n, rfl, rfl⟩
  go_wp2
  go_ret
  exact ⟨_, by simp, rfl⟩

theorem spec_l02Series (xs : List Nat) (A : Option Addr) (c : Nat) (w : World) (M : Nat) (hx : Rd w M A xs) (hl : xs.length ≤ 1048576) : Calls Try.prog 16 #[.slice A xs.length c] w (RetB (serB xs) w) := by
  have HX := Lib.hid hx
  clear hx
  by_cases h1 : (1 : Int) ≤ xs.length
  · by_cases h2 : (xs.length : Int) ≤ 96
    · have hs := Lib.hid (show allF xs = serB xs by unfold serB; rw [decide_eq_true h1, decide_eq_true h2]; rfl)
      go_enter Try.func16, Try.ntmps16
      go_wp2_with fail
      refine (spec_l02Finite xs A c _ M (by exact HX.out) hl).mono ?_
      rintro e w' ⟨n, rfl, rfl⟩
      go_wp2
      go_ret
      exact ⟨_, ret_bool hs.out, rfl⟩
    · have hs := Lib.hid (show false = serB xs by unfold serB; rw [decide_eq_false h2]; simp)
      have hd := decide_eq_false h2
      go_enter Try.func16, Try.ntmps16
      go_wp2
      go_ret
      exact ⟨0, ret_bool hs.out, rfl⟩
  · have hs := Lib.hid (show false = serB xs by unfold serB; rw [decide_eq_false h1]; simp)
    have hd := decide_eq_false h1
    go_enter Try.func16, Try.ntmps16
    go_wp2
    go_ret
    exact ⟨0, ret_bool hs.out, rfl⟩

theorem impl_IsSeries (xs : List Nat) (A : Option Addr) (c : Nat) (w : World) (M : Nat) (hx : Rd w M A xs) (hl : xs.length ≤ 1048576) : Calls Try.prog 13 #[.slice A xs.length c] w (RetB (serB xs) w) := by
  have HX := Lib.hid hx
  clear hx
  by_cases h1 : (1 : Int) ≤ xs.length
  · by_cases h2 : (xs.length : Int) ≤ 96
    · have hs := Lib.hid (show allF xs = serB xs by unfold serB; rw [decide_eq_true h1, decide_eq_true h2]; rfl)
      go_enter Try.func13, Try.ntmps13
      go_wp2_with fail
      refine (areFinite_any xs A c _ M (by exact HX.out) hl).mono ?_
      rintro e w' ⟨n, rfl, rfl⟩
      go_wp2
      go_ret
      exact ⟨_, ret_bool hs.out, rfl⟩
    · have hs := Lib.hid (show false = serB xs by unfold serB; rw [decide_eq_false h2]; simp)
      have hd := decide_eq_false h2
      go_enter Try.func13, Try.ntmps13
      go_wp2
      go_ret
      exact ⟨0, ret_bool hs.out, rfl⟩
  · have hs := Lib.hid (show false = serB xs by unfold serB; rw [decide_eq_false h1]; simp)
    have hd := decide_eq_false h1
    go_enter Try.func13, Try.ntmps13
    go_wp2
    go_ret
    exact ⟨0, ret_bool hs.out, rfl⟩

end Go.Proofs.Ytomnhcogchceiaa.Mi