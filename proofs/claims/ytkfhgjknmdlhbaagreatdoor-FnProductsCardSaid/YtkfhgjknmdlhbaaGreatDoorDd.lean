/- The walks: ListText. -/
import Derived.Lib.Join
import Derived.Lib.AppendIntMem
import Derived.Laws.Concat
import Derived.Deep.RegionHeldLaw
import Derived.Test.YtkfhgjknmdlhbaaGreatDoorSj
import Derived.Test.YtkfhgjknmdlhbaaGreatDoorDa
import Derived.Test.YtkfhgjknmdlhbaaGreatDoorDc
namespace Go.Proofs.YtkfhgjknmdlhbaaGreatDoor.Dd
open Go Go.RowKit Go.Lib Da Dc
set_option linter.unusedVariables false
theorem ret_bool {a b : Bool} (h : a = b) : Ending.returned (.bool a) = .returned (.bool b) := by rw [h]
def RetQ (b : Bool) (w : World) (e : Ending) (w' : World) : Prop := e = .returned (.bool b) ∧ w' = w
/-- What the walks ask of the listed table. -/
def Pow10 (w : World) : Prop := TabIs Tryz.prog w "internal/strconv.uint64pow10" .u64 pow10Tab
theorem Pow10.below {w w' : World} (h : Pow10 w) (hb : Below w.heap.size w w') : Pow10 w' := tabBelow_of_tabIs h w' hb
theorem Pow10.drewN {w : World} (h : Pow10 w) (n : Nat) : Pow10 (w.drewN n) := h
theorem Pow10.back {w : World} {n : Nat} (h : Pow10 (w.drewN n)) : Pow10 w := h
def okV (z : Int) : Bool := decide (-1000000000000000 ≤ z) && decide (z ≤ 1000000000000000)
def listB (zs : List Int) : Bool := zs.all okV && decide ((zs.length : Int) ≤ 64)
def joinT (zs : List Int) : List UInt8 := join (zs.map itoa) [44]
/-- The text of a list of numbers. -/
def textV (zs : List Int) : List UInt8 := if zs = [] then [110, 111, 110, 101] else joinT zs
theorem dec_ne (n : Nat) : decDigits n ≠ [] := by
  intro h
  have h1 := decDigits_length n
  rw [h] at h1
  have := nDigits_pos n
  simp at h1
  omega
theorem dec_len {n : Nat} (h : n ≤ 9223372036854775808) : (decDigits n).length ≤ 20 := by
  refine ext_len (m := 0) (n := n) ?_ h
  unfold ext
  rw [if_pos ⟨rfl, dec_ne n⟩]
theorem itoa_len {z : Int} (h0 : -9223372036854775808 ≤ z) (h1 : z ≤ 9223372036854775807) : (itoa z).length ≤ 21 := by
  unfold itoa
  split
  · have := dec_len (n := z.natAbs) (by omega)
    simp
    omega
  · have := dec_len (n := z.toNat) (by omega)
    omega
theorem joinT_one (z : Int) : joinT [z] = itoa z := join_one _ _
theorem joinT_step {zs : List Int} {j : Nat} {z : Int} (h1 : 1 ≤ j) (hj : j < zs.length) (hz : z = zs[j]) : joinT (zs.take (j + 1)) = joinT (zs.take j) ++ [44] ++ itoa z := by
  obtain ⟨a, r, rfl⟩ : ∃ a r, zs = a :: r := by
    cases zs with
    | nil => simp at hj
    | cons a r => exact ⟨a, r, rfl⟩
  obtain ⟨k, rfl⟩ : ∃ k, j = k + 1 := ⟨j - 1, by omega⟩
  have hk : k < r.length := by simpa using hj
  have hz' : z = r[k] := by rw [hz]; rfl
  unfold joinT
  rw [List.take_succ_cons, List.take_succ_cons, List.map_cons, List.map_cons, join_cons, join_cons, List.map_take, List.map_take, joinTail_take_succ [44] (r.map itoa) k (itoa z) (by rw [List.getElem?_map, List.getElem?_eq_getElem hk, hz']; rfl)]
  simp [List.append_assoc]
def InR (zs : List Int) : Prop := ∀ z ∈ zs, -9223372036854775808 ≤ z ∧ z ≤ 9223372036854775807
theorem joinT_len {zs : List Int} (hr : InR zs) : ∀ j, j ≤ zs.length → (joinT (zs.take j)).length ≤ 22 * j
  | 0, _ => by simp [joinT, join_nil]
  | 1, h => by
    obtain ⟨a, r, rfl⟩ : ∃ a r, zs = a :: r := by
      cases zs with
      | nil => simp at h
      | cons a r => exact ⟨a, r, rfl⟩
    have := itoa_len (hr a (by simp)).1 (hr a (by simp)).2
    rw [List.take_succ_cons, List.take_zero, joinT_one]
    omega
  | j + 2, h => by
    have ih := joinT_len hr (j + 1) (by omega)
    have hm := hr _ (List.getElem_mem (show j + 1 < zs.length by omega))
    have := itoa_len hm.1 hm.2
    rw [joinT_step (by omega) (show j + 1 < zs.length by omega) rfl]
    simp only [List.length_append, List.length_cons, List.length_nil]
    omega

theorem impl_within (a b c : Int) (w : World) : Calls Tryz.prog 54 #[.int .i64 a, .int .i64 b, .int .i64 c] w (RetQ (decide (b ≤ a) && decide (a ≤ c)) w) := by
  generalize hB : (decide (b ≤ a) && decide (a ≤ c)) = t
  have HB := Lib.hid hB
  clear hB
  by_cases h1 : b ≤ a
  · by_cases h2 : a ≤ c
    · have hb := Lib.hid (show true = t by rw [← HB.out, decide_eq_true h1, decide_eq_true h2]; rfl)
      go_enter Tryz.func54, Tryz.ntmps54
      go_wp2
      go_ret
      exact ⟨ret_bool hb.out, rfl⟩
    · have hb := Lib.hid (show false = t by rw [← HB.out, decide_eq_false h2]; simp)
      go_enter Tryz.func54, Tryz.ntmps54
      go_wp2
      go_ret
      exact ⟨ret_bool hb.out, rfl⟩
  · have hb := Lib.hid (show false = t by rw [← HB.out, decide_eq_false h1]; rfl)
    go_enter Tryz.func54, Tryz.ntmps54
    go_wp2
    go_ret
    exact ⟨ret_bool hb.out, rfl⟩

theorem allV_step {zs : List Int} {j : Nat} {z : Int} (hj : j < zs.length) (hz : z = zs[j]) (h : (zs.take j).all okV = true) (hf : okV z = true) : (zs.take (j + 1)).all okV = true := by
  rw [List.take_succ_eq_append_getElem hj, List.all_append, h, ← hz]; simp [hf]
theorem allV_no {zs : List Int} {j : Nat} {z : Int} (hj : j < zs.length) (hz : z = zs[j]) (hf : okV z = false) : listB zs = false := by
  unfold listB
  have : zs.all okV = false := by
    rw [List.all_eq_false]
    exact ⟨z, by rw [hz]; exact List.getElem_mem hj, by simp [hf]⟩
  rw [this]; rfl
theorem allV_done {zs : List Int} {j : Nat} (hj : j ≤ zs.length) (hl : ¬ j < zs.length) (h : (zs.take j).all okV = true) : decide ((zs.length : Int) ≤ 64) = listB zs := by
  obtain rfl : j = zs.length := by omega
  rw [List.take_length] at h
  unfold listB
  rw [h]; rfl
theorem add_comma (D : List UInt8) (hD : D.length ≤ 8388607) (w : World) : (Op.stringOp .add ⟨#[44]⟩ ⟨D.toArray⟩).run Tryz.prog w = .ok (.string ⟨(44 :: D).toArray⟩) w := by
  have := run_string_add_lists (P := Tryz.prog) w [44] D (by simp) (by omega)
  exact this
end Go.Proofs.YtkfhgjknmdlhbaaGreatDoor.Dd