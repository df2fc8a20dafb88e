/- The walks: slices of int64: what they read as, the copies that the laws make, their comparison. -/
import Derived.Below
import Derived.Laws.OwnMore
import Derived.OwnWalk
import Derived.IntWalk
import Derived.WalkKit
import Derived.Deep.Draws
import Derived.Deep.Slices
import Derived.Deep.RegionHeld3
import Derived.ChangeSame
import Derived.WideShapes
import Derived.Carry
import Derived.DataShut
import Derived.Lib.Hide
import Derived.Test.YtkfhgjknmdlhbaaGreatDoorProg
namespace Go.Proofs.YtkfhgjknmdlhbaaGreatDoor.Dc
open Go Go.RowKit Go.WideShapes Go.ChangeShapes Go.Deep
set_option linter.unusedVariables false

def vs (xs : List Int) : List Value := xs.map (Value.int .i64)
/-- The slice at A reads as the words xs, below block B. -/
def Rd (w : World) (B : Nat) (A : Option Addr) (xs : List Int) : Prop := xs ≠ [] → ∃ ad : Addr, A = some ad ∧ ad.block < B ∧ ∀ j x, xs[j]? = some x → w.cell? (ad.add j) = some (.int .i64 x)
theorem add_block (a : Addr) (n : Nat) : (a.add n).block = a.block := by unfold Addr.add; split <;> rfl
theorem add_at (g i : Nat) : (⟨g, 0, none⟩ : Addr).add i = ⟨g, i, none⟩ := by
  unfold Addr.add
  split
  · subst_vars; rfl
  · simp
section
variable {w w' : World} {B B' : Nat} {A : Option Addr} {xs : List Int}
theorem Rd.at_ (h : Rd w B A xs) {j : Nat} (hj : j < xs.length) : ∃ ad : Addr, A = some ad ∧ ad.block < B ∧ w.cell? (ad.add j) = some (.int .i64 xs[j]) := by
  obtain ⟨ad, e, hb, hc⟩ := h (by intro e; subst e; simp at hj)
  exact ⟨ad, e, hb, hc j _ (List.getElem?_eq_getElem hj)⟩
theorem Rd.keep (h : Rd w B A xs) (hk : ∀ p : Addr, p.block < B → w'.cell? p = w.cell? p) : Rd w' B A xs := fun hn => by
  obtain ⟨ad, e, hb, hc⟩ := h hn
  exact ⟨ad, e, hb, fun j x hx => (hk _ (by rw [add_block]; exact hb)).trans (hc j x hx)⟩
theorem Rd.more (h : Rd w B A xs) (hB : B ≤ B') : Rd w B' A xs := fun hn => by
  obtain ⟨ad, e, hb, hc⟩ := h hn
  exact ⟨ad, e, by omega, hc⟩
theorem Rd.below (h : Rd w B A xs) (hb : Below B w w') : Rd w' B A xs := h.keep fun _ hp => hb.cell hp
theorem Rd.drewN (h : Rd w B A xs) (k : Nat) : Rd (w.drewN k) B A xs := h
theorem Rd.of_own {base g cap n : Nat} {e : TypeId} (h : w.ownsRow base e 1 (.slice (some ⟨g, 0, none⟩) n cap) n (vs xs)) : Rd w w.heap.size (some ⟨g, 0, none⟩) xs := fun _ =>
  ⟨_, rfl, (h.lt g rfl).2, fun j x hx => h.cells (g := g) rfl j _ (by unfold vs; rw [List.getElem?_map, hx]; rfl)⟩
end
theorem vs_len (xs : List Int) : (vs xs).length = xs.length := by unfold vs; simp


theorem i64_info : (Tryz.prog.info? 2).map (fun i => (i.zero, i.size, i.bytes)) = some (some (.int .i64 0), 1, 8) := by kernel_rfl

/-- A copy in new memory. -/
def Made (xs : List Int) (w : World) (e : Ending) (w' : World) : Prop := ∃ g, w.heap.size ≤ g ∧ e = .returned (.slice (some ⟨g, 0, none⟩) xs.length xs.length) ∧
  w'.ownsRow w.heap.size 2 1 (.slice (some ⟨g, 0, none⟩) xs.length xs.length) xs.length (vs xs) ∧ Below w.heap.size w w'
theorem made_zero (n : Nat) : (madeCells (Value.int .i64 0).cells (n * 1)).toList = List.replicate n (Value.int .i64 0) := by
  have hc : (Value.int .i64 0).cells = #[Value.int .i64 0] := rfl
  unfold madeCells
  rw [hc]
  apply List.ext_getElem
  · simp
  · intro i h1 h2
    simp [Nat.mod_one]
def Mid (xs : List Int) (w : World) (g j : Nat) (wr : World) : Prop := wr.ownsRow w.heap.size 2 1 (.slice (some ⟨g, 0, none⟩) xs.length xs.length) xs.length (vs (xs.take j) ++ List.replicate (xs.length - j) (.int .i64 0)) ∧ Below w.heap.size w wr ∧ w.heap.size ≤ g
theorem Mid.step {xs : List Int} {w wr : World} {g j : Nat} (h : Mid xs w g j wr) (hj : j < xs.length) : Mid xs w g (j + 1) (wr.setCell ⟨g, j, none⟩ (.int .i64 xs[j])) := by
  obtain ⟨h1, h2, h3⟩ := h
  refine ⟨?_, h2.setCell h3 _, h3⟩
  have hs := (h1.stored j (.int .i64 xs[j])).1
  have e : (vs (xs.take j) ++ List.replicate (xs.length - j) (Value.int .i64 0)).set j (.int .i64 xs[j]) = vs (xs.take (j + 1)) ++ List.replicate (xs.length - (j + 1)) (.int .i64 0) := by
    have hl : (vs (xs.take j)).length = j := by rw [vs_len, List.length_take]; omega
    rw [List.set_append_right _ _ (by omega), hl, Nat.sub_self, show xs.length - j = (xs.length - (j + 1)) + 1 by omega, List.replicate_succ, List.set_cons_zero,
      List.take_succ_eq_append_getElem hj]
    unfold vs
    rw [List.map_append, List.append_assoc]; rfl
  rw [e] at hs
  exact hs
theorem Mid.done {xs : List Int} {w wr : World} {g j : Nat} (h : Mid xs w g j wr) (hj : j = xs.length) : Made xs w (.returned (.slice (some ⟨g, 0, none⟩) xs.length xs.length)) wr := by
  subst hj
  obtain ⟨h1, h2, h3⟩ := h
  rw [List.take_length, Nat.sub_self, List.replicate_zero, List.append_nil] at h1
  exact ⟨g, h3, rfl, h1, h2⟩
theorem Mid.facts {xs : List Int} {w wr : World} {g j : Nat} (h : Mid xs w g j wr) (hj : j < xs.length) : (∃ u, wr.cell? ⟨g, j, none⟩ = some u) ∧ wr.frozen? ⟨g, j, none⟩ = false := by
  obtain ⟨h1, h2, h3⟩ := h
  refine ⟨?_, h1.frozenAt j⟩
  rw [h1.cellAt j (by omega), List.getElem?_eq_getElem (by simp [vs_len]; omega)]
  exact ⟨_, rfl⟩
section
variable {H : Type} {enc : TypeId × Value → H} {P : Program} {W : World} {base : Nat} {spare : Nat → Bool} {held : Bool}
theorem elem_i64 {fuel : Nat} {e : TypeId} {v : Value} {x : DataW H × List MemPlace} (he : P.underlying e = some (.int .i64)) (h : DataW.trod enc P W base spare held fuel e [v] = some x) :
    ∃ b : Int, v = .int .i64 b ∧ (Lit.int .i64 b).wf = true := by
  obtain ⟨n, e1, _, hw⟩ := DataW.trod_int he h
  simp at e1
  subst e1
  exact ⟨n, rfl, hw⟩
theorem open_i64s {t e : TypeId} {r : Reach} {b0 : Nat} {v : Value} {d : DataW H} {ps : List MemPlace} (ht : P.underlying t = some (.slice e)) (he : P.underlying e = some (.int .i64)) (hc : P.cellsOf e = 1)
    (hval : Value.okWide P W r b0 t v) (hd : DataW.Trod enc P W base spare held t v d ps) :
    ∃ A c xs, v = .slice A xs.length c ∧ Rd W W.heap.size A xs ∧ ∀ x ∈ xs, (Lit.int .i64 x).wf = true := by
  obtain ⟨A, len, cap, rfl⟩ := okWide_slice ht hval
  obtain ⟨fuel, hf⟩ := hd
  rcases open_slice1 ht hc hf with ⟨hcs, _⟩ | ⟨a, len', cap', m, n, V, D, Pl, hcs, _, hl, _, hm, _, hx⟩
  · simp [Value.cells] at hcs
    obtain ⟨rfl, rfl, rfl⟩ := hcs
    exact ⟨none, 0, [], rfl, fun h => absurd rfl h, by simp⟩
  · simp [Value.cells] at hcs
    obtain ⟨rfl, rfl, rfl⟩ := hcs
    have hlm : len ≤ m := by rw [hm]; split <;> omega
    obtain ⟨X, hX⟩ := choose_lt (α := Int) (p := fun i b => V i = .int .i64 b ∧ (Lit.int .i64 b).wf = true) (fun i hi => elem_i64 he (hx i hi).2)
    refine ⟨some a, cap, (List.range len).map X, by simp, fun hne => ⟨a, rfl, ?_, ?_⟩, ?_⟩
    · have h0 : 0 < len := by
        rcases Nat.eq_zero_or_pos len with h0 | h0
        · subst h0; simp at hne
        · exact h0
      have := World.block_lt_of_cell? W (a.add 0) (hx 0 (by omega)).1
      rw [add_block] at this
      exact this
    · intro j x hjx
      have hj : j < len := by
        rcases Nat.lt_or_ge j len with h | h
        · exact h
        · rw [List.getElem?_eq_none (by simpa using h)] at hjx; cases hjx
      have : x = X j := by simpa [hj, eq_comm] using hjx
      rw [this, (hx j (by omega)).1, (hX j (by omega)).1]
    · intro x hxm
      obtain ⟨i, hi, rfl⟩ := List.mem_map.1 hxm
      exact (hX i (by have := List.mem_range.1 hi; omega)).2

end
theorem wf_range {x : Int} (h : (Lit.int .i64 x).wf = true) : -9223372036854775808 ≤ x ∧ x ≤ 9223372036854775807 := (Lit.wf_int_iff .i64 x).1 h
def Yes64 (w : World) (e : Ending) (w' : World) : Prop := ∃ n, e = .returned (.bool true) ∧ w' = w.drewN n
end Go.Proofs.YtkfhgjknmdlhbaaGreatDoor.Dc