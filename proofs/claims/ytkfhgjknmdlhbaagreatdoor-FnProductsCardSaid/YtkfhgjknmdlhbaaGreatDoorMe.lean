/- The walks: the copies that the laws make, and their comparison. -/
import Derived.Test.YtkfhgjknmdlhbaaGreatDoorMd
import Derived.OwnWalk
import Derived.IntWalk
namespace Go.Proofs.YtkfhgjknmdlhbaaGreatDoor.Me
open Go Go.RowKit Fl Md WB

theorem f32_info : (Tryz.prog.info? 28).map (fun i => (i.zero, i.size, i.bytes)) = some (some (.float .f32 0), 1, 4) := by kernel_rfl

/-- A copy in new memory. -/
def Made (xs : List Nat) (w : World) (e : Ending) (w' : World) : Prop := ∃ g, w.heap.size ≤ g ∧ e = .returned (.slice (some ⟨g, 0, none⟩) xs.length xs.length) ∧
  w'.ownsRow w.heap.size 28 1 (.slice (some ⟨g, 0, none⟩) xs.length xs.length) xs.length (vs xs) ∧ Below w.heap.size w w'
theorem made_zero (n : Nat) : (madeCells (Value.float .f32 0).cells (n * 1)).toList = List.replicate n (Value.float .f32 0) := by
  have hc : (Value.float .f32 0).cells = #[Value.float .f32 0] := rfl
  unfold madeCells
  rw [hc]
  apply List.ext_getElem
  · simp
  · intro i h1 h2
    simp [Nat.mod_one]
def Mid (xs : List Nat) (w : World) (g j : Nat) (wr : World) : Prop := wr.ownsRow w.heap.size 28 1 (.slice (some ⟨g, 0, none⟩) xs.length xs.length) xs.length (vs (xs.take j) ++ List.replicate (xs.length - j) (.float .f32 0)) ∧ Below w.heap.size w wr ∧ w.heap.size ≤ g
theorem Mid.step {xs : List Nat} {w wr : World} {g j : Nat} (h : Mid xs w g j wr) (hj : j < xs.length) : Mid xs w g (j + 1) (wr.setCell ⟨g, j, none⟩ (.float .f32 xs[j])) := by
  obtain ⟨h1, h2, h3⟩ := h
  refine ⟨?_, h2.setCell h3 _, h3⟩
  have hs := (h1.stored j (.float .f32 xs[j])).1
  have e : (vs (xs.take j) ++ List.replicate (xs.length - j) (Value.float .f32 0)).set j (.float .f32 xs[j]) = vs (xs.take (j + 1)) ++ List.replicate (xs.length - (j + 1)) (.float .f32 0) := by
    have hl : (vs (xs.take j)).length = j := by rw [vs_len, List.length_take]; omega
    rw [List.set_append_right _ _ (by omega), hl, Nat.sub_self, show xs.length - j = (xs.length - (j + 1)) + 1 by omega, List.replicate_succ, List.set_cons_zero,
      List.take_succ_eq_append_getElem hj]
    unfold vs
    rw [List.map_append, List.append_assoc]; rfl
  rw [e] at hs
  exact hs
theorem Mid.done {xs : List Nat} {w wr : World} {g j : Nat} (h : Mid xs w g j wr) (hj : j = xs.length) : Made xs w (.returned (.slice (some ⟨g, 0, none⟩) xs.length xs.length)) wr := by
  subst hj
  obtain ⟨h1, h2, h3⟩ := h
  rw [List.take_length, Nat.sub_self, List.replicate_zero, List.append_nil] at h1
  exact ⟨g, h3, rfl, h1, h2⟩
theorem Mid.facts {xs : List Nat} {w wr : World} {g j : Nat} (h : Mid xs w g j wr) (hj : j < xs.length) : (∃ u, wr.cell? ⟨g, j, none⟩ = some u) ∧ wr.frozen? ⟨g, j, none⟩ = false := by
  obtain ⟨h1, h2, h3⟩ := h
  refine ⟨?_, h1.frozenAt j⟩
  rw [h1.cellAt j (by omega), List.getElem?_eq_getElem (by simp [vs_len]; omega)]
  exact ⟨_, rfl⟩
/-- The same numbers, NaN by NaN. -/
def Alike (xs ys : List Nat) : Prop := xs.map (fl .f32) = ys.map (fl .f32)
theorem Alike.len {xs ys : List Nat} (h : Alike xs ys) : xs.length = ys.length := by have := congrArg List.length h; simpa using this
theorem Alike.at_ {xs ys : List Nat} (h : Alike xs ys) {j : Nat} (hx : j < xs.length) (hy : j < ys.length) : fl .f32 xs[j] = fl .f32 ys[j] := by
  have := congrArg (fun l => l[j]?) h
  simpa [hx, hy] using this
theorem Alike.rfl' (xs : List Nat) : Alike xs xs := rfl
theorem same_wide {r s y z : Nat} (h1 : FC .f32 .f64 (fl .f32 r) y) (h2 : FC .f32 .f64 (fl .f32 s) z) (e : fl .f32 r = fl .f32 s) : fl .f64 y = fl .f64 z := by
  rw [Fw.FC_widen h1, Fw.FC_widen h2, e]
def Yes (w : World) (e : Ending) (w' : World) : Prop := ∃ n, e = .returned (.bool true) ∧ w' = w.drewN n
end Go.Proofs.YtkfhgjknmdlhbaaGreatDoor.Me
