/- The walks: SumNumbers. -/
import Derived.Test.YtkfhgjknmdlhbaaGreatDoorMe
namespace Go.Proofs.YtkfhgjknmdlhbaaGreatDoor.Mf
open Go Go.RowKit Fl WA WB Md Me

set_option linter.unusedVariables false
def RetF (k : FloatKind) (P : Nat → Prop) (w : World) (e : Ending) (w' : World) : Prop := ∃ r n, P r ∧ e = .returned (.float k r) ∧ w' = w.drewN n
/-- The sum from left to right, as what it reads as. -/
def sumV (xs : List Nat) : Option Nat := xs.foldl (fun s x => fop .add .f32 s (fl .f32 x)) (some 0)
theorem sum_step {xs : List Nat} {j s x r : Nat} (hj : j < xs.length) (hs : FV .f32 (sumV (xs.take j)) s) (hx : x = xs[j]) (hr : FV .f32 (fop .add .f32 (fl .f32 s) (fl .f32 x)) r) : FV .f32 (sumV (xs.take (j + 1))) r := by
  refine ⟨?_, hr.2⟩
  rw [hr.1, hs.1, List.take_succ_eq_append_getElem hj, hx]
  unfold sumV
  rw [List.foldl_append]; rfl
theorem sum_zero (xs : List Nat) : FV .f32 (sumV (xs.take 0)) 0 := ⟨rfl, by decide⟩
theorem sum_done {xs : List Nat} {j s : Nat} (hj : j ≤ xs.length) (hl : ¬ j < xs.length) (hs : FV .f32 (sumV (xs.take j)) s) : FV .f32 (sumV xs) s := by
  obtain rfl : j = xs.length := by omega
  rw [List.take_length] at hs; exact hs
def RetFB (P : Nat → Prop) (b : Bool) (w : World) (e : Ending) (w' : World) : Prop := ∃ r n, P r ∧ e = .returned (.tuple #[.float .f32 r, .bool b]) ∧ w' = w.drewN n

def SumP (xs : List Nat) (b : Bool) (r : Nat) : Prop := FV .f32 (if b then sumV xs else some 0) r
set_option maxHeartbeats 1000000 in
theorem impl_SumNumbers (xs : List Nat) (A : Option Addr) (c : Nat) (w : World) (M : Nat) (hx : Rd w M A xs) (hl : xs.length ≤ 1048576) :
    Calls Tryz.prog 30 #[.slice A xs.length c] w (RetFB (SumP xs (decide ((xs.length : Int) ≤ 256))) (decide ((xs.length : Int) ≤ 256)) w) := by
  have HX := Lib.hid hx
  clear hx
  by_cases h : (xs.length : Int) ≤ 256
  · have hd : decide ((xs.length : Int) ≤ 256) = true := by simpa using h
    rw [hd]
    clear hd
    go_enter Tryz.func30, Tryz.ntmps30
    go_wp2
    go_loopw [4, 12] (fun s i wr => ∃ j r N : Nat, j ≤ xs.length ∧ i = .int .i64 j ∧ s = .float .f32 r ∧ FV .f32 (sumV (xs.take j)) r ∧ wr = w.drewN N) (fun _ i _ => xs.length - (intOf i).toNat)
    case atStart => exact ⟨0, 0, 0, by omega, rfl, rfl, sum_zero xs, rfl⟩
    case round =>
      obtain ⟨j, s, N, hj, rfl, rfl, hs, rfl⟩ := hrel
      by_cases hlt : j < xs.length
      · obtain ⟨ad, rfl, hb, hc⟩ := HX.out.at_ hlt
        obtain ⟨x, hx⟩ : ∃ x, x = xs[j] := ⟨_, rfl⟩
        rw [← hx] at hc
        have HXX := Lib.hid hx
        clear hx
        go_wp2_with (refine wpList_farith _ _ _ _ _ rfl rfl rfl _ _ _ rfl rfl ?_; intro r n hr)
        go_roundw
        case rel => exact ⟨j + 1, _, _, by omega, by go_num, rfl, sum_step hlt hs HXX.out (by assumption), rfl⟩
        case measure => simp [intOf]; omega
      · have hd := Lib.hid (sum_done hj hlt hs)
        go_wp2
        go_ret2
        exact ⟨_, _, hd.out, rfl, rfl⟩
  · have hd : decide ((xs.length : Int) ≤ 256) = false := by simpa using h
    rw [hd]
    clear hd
    go_enter Tryz.func30, Tryz.ntmps30
    go_wp2
    go_ret2
    exact ⟨0, 0, ⟨rfl, by decide⟩, rfl, rfl⟩

end Go.Proofs.YtkfhgjknmdlhbaaGreatDoor.Mf