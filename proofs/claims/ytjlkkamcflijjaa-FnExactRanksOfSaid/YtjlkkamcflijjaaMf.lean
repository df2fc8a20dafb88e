/- The walks: SumNumbers. -/
import Derived.Test.YtjlkkamcflijjaaMe
namespace Go.Proofs.Ytjlkkamcflijjaa.Mf
open Go Go.RowKit Fl WA WB Md Me

set_option linter.unusedVariables false
def RetF (k : FloatKind) (P : Nat → Prop) (w : World) (e : Ending) (w' : World) : Prop := ∃ r n, P r ∧ e = .returned (.float k r) ∧ w' = w.drewN n
/-- The sum from left to right, as what it reads as. -/
def sumV (xs : List Nat) : Option Nat := xs.foldl (fun s x => fop .add .f32 s (fl .f32 x)) (some 0)
theorem sum_step {xs : List Nat} {j s x r : Nat} (hj : j < xs.length) (hs : FV .f32 (sumV (xs.take j)) s) (hx : x = xs[j]) (hr : FV .f32 (fop .add .f32 (fl .f32 s) (fl .f32 x)) r) : FV .f32 (sumV (xs.take (j + 1))) r := by
  refine ⟨?_, hr.2⟩
  rw [hr.1, hs.1, List.take_succ_eq_append_getElem hj, hx]
  unfold sumV
  rw [List.foldl_append]; rfl
theorem sum_zero (xs : List Nat) : FV .f32 (sumV (xs.take 0)) 0 := ⟨rfl, by decide⟩
theorem sum_done {xs : List Nat} {j s : Nat} (hj : j ≤ xs.length) (hl : ¬ j < xs.length) (hs : FV .f32 (sumV (xs.take j)) s) : FV .f32 (sumV xs) s := by
  obtain rfl : j = xs.length := by omega
  rw [List.take_length] at hs; exact hs
def RetFB (P : Nat → Prop) (b : Bool) (w : World) (e : Ending) (w' : World) : Prop := ∃ r n, P r ∧ e = .returned (.tuple #[.float .f32 r, .bool b]) ∧ w' = w.drewN n

set_option maxHeartbeats 1000000 in
theorem spec_l01Sum (xs : List Nat) (A : Option Addr) (c : Nat) (w : World) (M : Nat) (hx : Rd w M A xs) (hl : xs.length ≤ 1048576) :
    Calls Try.prog 40 #[.slice A xs.length c] w (RetF .f32 (FV .f32 (sumV xs)) w) := by
  have HX := Lib.hid hx
  clear hx
  go_enter Try.func40, Try.ntmps40
  go_wp2
  go_loopw [3, 4] (fun s i wr => ∃ j r N : Nat, j ≤ xs.length ∧ i = .int .i64 j ∧ s = .float .f32 r ∧ FV .f32 (sumV (xs.take j)) r ∧ wr = w.drewN N) (fun _ i _ => xs.length - (intOf i).toNat)
  case atStart => exact ⟨0, 0, 0, by omega, rfl, rfl, sum_zero xs, rfl⟩
  case round =>
    obtain ⟨j, s, N, hj, rfl, rfl, hs, rfl⟩ := hrel
    by_cases hlt : j < xs.length
    · obtain ⟨ad, rfl, hb, hc⟩ := HX.out.at_ hlt
      obtain ⟨x, hx⟩ : ∃ x, x = xs[j] := ⟨_, rfl⟩
      rw [← hx] at hc
      have HXX := Lib.hid hx
      clear hx
      go_wp2_with (refine wpList_farith _ _ _ _ _ rfl rfl rfl _ _ _ rfl rfl ?_; intro r n hr)
      go_roundw
      case rel => exact ⟨j + 1, _, _, by omega, by go_num, rfl, sum_step hlt hs HXX.out (by assumption), rfl⟩
      case measure => simp [intOf]; omega
    · have hd := Lib.hid (sum_done hj hlt hs)
      go_wp2
      go_ret
      exact ⟨_, _, hd.out, rfl, rfl⟩
theorem spec_l01Few_any (A : Option Addr) (n c : Nat) (w : World) (hl : n ≤ 1048576) :
    Calls Try.prog 38 #[.slice A n c] w fun e w' => e = .returned (.bool (decide ((n : Int) ≤ 256))) ∧ w = w' := by
  go_enter Try.func38, Try.ntmps38
  go_wp2
  go_ret
  exact ⟨rfl, rfl⟩
def SumP (xs : List Nat) (b : Bool) (r : Nat) : Prop := FV .f32 (if b then sumV xs else some 0) r
set_option maxHeartbeats 1000000 in
theorem spec_SumNumbers (xs : List Nat) (A : Option Addr) (c : Nat) (w : World) (M : Nat) (hx : Rd w M A xs) (hl : xs.length ≤ 1048576) :
    Calls Try.prog 18 #[.slice A xs.length c] w (RetFB (SumP xs (decide ((xs.length : Int) ≤ 256))) (decide ((xs.length : Int) ≤ 256)) w) := by
  have HX := Lib.hid hx
  clear hx
  by_cases h : (xs.length : Int) ≤ 256
  · have hd : decide ((xs.length : Int) ≤ 256) = true := by simpa using h
    rw [hd]
    have HD := Lib.hid hd
    clear hd
    go_enter Try.func18, Try.ntmps18
    go_wp2_with (first | (go_at_call 38; refine (spec_l01Few_any _ _ _ _ hl).mono ?_; rintro e w' ⟨rfl, rfl⟩) | (go_at_call 40; refine (spec_l01Sum xs _ _ _ M (HX.out.drewN 0) hl).mono ?_; rintro e w' ⟨r, n, hr, rfl, rfl⟩))
    go_ret2
    exact ⟨_, _, by assumption, rfl, rfl⟩
  · have hd : decide ((xs.length : Int) ≤ 256) = false := by simpa using h
    rw [hd]
    go_enter Try.func18, Try.ntmps18
    go_wp2_with (go_at_call 38; refine (spec_l01Few_any _ _ _ _ hl).mono ?_; rintro e w' ⟨rfl, rfl⟩)
    go_ret2
    exact ⟨0, 0, ⟨rfl, by decide⟩, rfl, rfl⟩
set_option maxHeartbeats 1000000 in
theorem impl_SumNumbers (xs : List Nat) (A : Option Addr) (c : Nat) (w : World) (M : Nat) (hx : Rd w M A xs) (hl : xs.length ≤ 1048576) :
    Calls Try.prog 19 #[.slice A xs.length c] w (RetFB (SumP xs (decide ((xs.length : Int) ≤ 256))) (decide ((xs.length : Int) ≤ 256)) w) := by
  have HX := Lib.hid hx
  clear hx
  by_cases h : (xs.length : Int) ≤ 256
  · have hd : decide ((xs.length : Int) ≤ 256) = true := by simpa using h
    rw [hd]
    clear hd
    go_enter Try.func19, Try.ntmps19
    go_wp2
    go_loopw [4, 12] (fun s i wr => ∃ j r N : Nat, j ≤ xs.length ∧ i = .int .i64 j ∧ s = .float .f32 r ∧ FV .f32 (sumV (xs.take j)) r ∧ wr = w.drewN N) (fun _ i _ => xs.length - (intOf i).toNat)
    case atStart => exact ⟨0, 0, 0, by omega, rfl, rfl, sum_zero xs, rfl⟩
    case round =>
      obtain ⟨j, s, N, hj, rfl, rfl, hs, rfl⟩ := hrel
      by_cases hlt : j < xs.length
      · obtain ⟨ad, rfl, hb, hc⟩ := HX.out.at_ hlt
        obtain ⟨x, hx⟩ : ∃ x, x = xs[j] := ⟨_, rfl⟩
        rw [← hx] at hc
        have HXX := Lib.hid hx
        clear hx
        go_wp2_with (refine wpList_farith _ _ _ _ _ rfl rfl rfl _ _ _ rfl rfl ?_; intro r n hr)
        go_roundw
        case rel => exact ⟨j + 1, _, _, by omega, by go_num, rfl, sum_step hlt hs HXX.out (by assumption), rfl⟩
        case measure => simp [intOf]; omega
      · have hd := Lib.hid (sum_done hj hlt hs)
        go_wp2
        go_ret2
        exact ⟨_, _, hd.out, rfl, rfl⟩
  · have hd : decide ((xs.length : Int) ≤ 256) = false := by simpa using h
    rw [hd]
    clear hd
    go_enter Try.func19, Try.ntmps19
    go_wp2
    go_ret2
    exact ⟨0, 0, ⟨rfl, by decide⟩, rfl, rfl⟩

end Go.Proofs.Ytjlkkamcflijjaa.Mf