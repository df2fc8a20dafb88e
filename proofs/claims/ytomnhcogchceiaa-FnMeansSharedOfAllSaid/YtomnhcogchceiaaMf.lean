/- The walks: SumNumbers. -/
import Derived.Test.YtomnhcogchceiaaMe
namespace Go.Proofs.Ytomnhcogchceiaa.Mf
open Go Go.RowKit Fl WA WB Md Me

set_option linter.unusedVariables false
def RetF (k : FloatKind) (P : Nat → Prop) (w : World) (e : Ending) (w' : World) : Prop := ∃ r n, P r ∧ e = .returned (.float k r) ∧ w' = w.drewN n
/-- The sum from left to right, as what it reads as. -/
def sumV (xs : List Nat) : Option Nat := xs.foldl (fun s x => fop .add .f32 s (fl .f32 x)) (some 0)
theorem sum_step {xs : List Nat} {j s x r : Nat} (hj : j < xs.length) (hs : FV .f32 (sumV (xs.take j)) s) (hx : x = xs[j]) (hr : FV .f32 (fop .add .f32 (fl .f32 s) (fl .f32 x)) r) : FV .f32 (sumV (xs.take (j + 1))) r := by
  refine ⟨?_, hr.2⟩
  rw [hr.1, hs.1, List.take_succ_eq_append_getElem hj, hx]
  unfold sumV
  rw [List.foldl_append]; rfl
theorem sum_zero (xs : List Nat) : FV .f32 (sumV (xs.take 0)) 0 := ⟨rfl, by decide⟩
theorem sum_done {xs : List Nat} {j s : Nat} (hj : j ≤ xs.length) (hl : ¬ j < xs.length) (hs : FV .f32 (sumV (xs.take j)) s) : FV .f32 (sumV xs) s := by
  obtain rfl : j = xs.length := by omega
  rw [List.take_length] at hs; exact hs
def RetFB (P : Nat → Prop) (b : Bool) (w : World) (e : Ending) (w' : World) : Prop := ∃ r n, P r ∧ e = .returned (.tuple #[.float .f32 r, .bool b]) ∧ w' = w.drewN n

def SumP (xs : List Nat) (b : Bool) (r : Nat) : Prop := FV .f32 (if b then sumV xs else some 0) r
end Go.Proofs.Ytomnhcogchceiaa.Mf