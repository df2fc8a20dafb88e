/- The walks: lists in the call's own memory; the marks that the laws set and look for. -/
import Derived.Laws.Cover2
import Derived.Test.YtomnhcogchceiaaMj
namespace Go.Proofs.Ytomnhcogchceiaa.Mk
open Go Go.RowKit Fl WA WB Md Me Mf Mi Mj Fw
set_option linter.unusedVariables false
/-- The slice at A, of capacity c, holds the words rs in blocks from 'base' on. -/
def Own (w : World) (base : Nat) (A : Option Addr) (c : Nat) (rs : List Nat) : Prop := w.ownsRow base 29 1 (.slice A rs.length c) rs.length (vs rs)
section
variable {w w' : World} {base : Nat} {A : Option Addr} {c : Nat} {rs : List Nat}
theorem Own.nil (w : World) (base : Nat) : Own w base none 0 [] := World.ownsRow_nil _ _ _ _
theorem own_shape {v : Value} (h : w.ownsRow base 29 1 v rs.length (vs rs)) : ∃ A c, v = .slice A rs.length c ∧ Own w base A c rs := by
  rcases h.2 with ⟨rfl, hn⟩ | ⟨g, cap, cur, rfl, _⟩
  · have : rs = [] := List.eq_nil_of_length_eq_zero hn
    subst this
    exact ⟨none, 0, rfl, h⟩
  · exact ⟨_, _, rfl, h⟩
theorem Own.at_block (h : Own w base A c rs) : A = none ∧ rs = [] ∨ ∃ g, A = some ⟨g, 0, none⟩ ∧ base ≤ g ∧ g < w.heap.size := by
  have hl := h.lt
  rcases h.2 with ⟨hv, hn⟩ | ⟨g, cap, cur, hv, _⟩
  · simp at hv
    exact .inl ⟨hv.1, hv.2.1⟩
  · simp at hv
    obtain ⟨rfl, rfl⟩ := hv
    exact .inr ⟨g, rfl, hl g rfl⟩
theorem Own.rd (h : Own w base A c rs) : Rd w w.heap.size A rs := by
  rcases h.at_block with ⟨rfl, rfl⟩ | ⟨g, rfl, _, _⟩
  · exact fun hn => absurd rfl hn
  · exact Rd.of_own h
theorem Own.drewN (h : Own w base A c rs) (n : Nat) : Own (w.drewN n) base A c rs := h
theorem Own.weaken {b' : Nat} (h : Own w base A c rs) (hb : b' ≤ base) : Own w b' A c rs := by
  refine ⟨h.1, ?_⟩
  rcases h.2 with hn | ⟨g, cap, cur, hv, hg, rest⟩
  · exact .inl hn
  · exact .inr ⟨g, cap, cur, hv, by omega, rest⟩
theorem Own.below (h : Own w base A c rs) (hb : Below w.heap.size w w') : Own w' base A c rs := by
  refine World.ownsRow.kept (row := none) h ⟨hb.os, hb.tape, hb.output, hb.size, fun k hk _ => hb.block k hk⟩ ?_
  cases hv : (Value.slice A rs.length c).ownBlock <;> simp
/-- The block that a slice begins in. -/
def blk (A : Option Addr) : Option Nat := A.map Addr.block
theorem Own.kept {B : Option Addr} (h : Own w base A c rs) (hg : w.grownBy w' (blk B)) (hne : A = none ∨ B = none ∨ blk A ≠ blk B) : Own w' base A c rs := by
  refine World.ownsRow.kept h hg ?_
  have e : (Value.slice A rs.length c).ownBlock = blk A := by cases A <;> rfl
  rw [e]
  rcases hne with rfl | rfl | h
  · exact .inl rfl
  · cases A <;> simp [blk]
  · exact .inr h
theorem grown_below {B : Nat} (hg : w.grownBy w' (blk A)) (hB : B ≤ w.heap.size) (h : ∀ a, A = some a → B ≤ a.block) : Below B w w' := by
  refine (Below.refl _ _).grown hg hB ?_
  intro k hk
  cases A with
  | none => cases hk
  | some a => simp [blk] at hk; subst hk; exact h a rfl
theorem Own.ge (h : Own w base A c rs) : ∀ a, A = some a → base ≤ a.block := by
  rintro a rfl
  rcases h.at_block with ⟨h, _⟩ | ⟨g, h, hb, _⟩
  · cases h
  · cases h; exact hb
theorem Own.lt' (h : Own w base A c rs) : ∀ a, A = some a → a.block < w.heap.size := by
  rintro a rfl
  rcases h.at_block with ⟨h, _⟩ | ⟨g, h, _, hb⟩
  · cases h
  · cases h; exact hb
/-- Two rows, the one begun where the other was already there. -/
theorem apart {B : Option Addr} {d b2 : Nat} {ss : List Nat} {w2 : World} (h : Own w base A c rs) (h2 : Own w2 b2 B d ss) (hb : w.heap.size ≤ b2) : A = none ∨ B = none ∨ blk A ≠ blk B := by
  rcases h.at_block with ⟨rfl, _⟩ | ⟨g, rfl, _, hg⟩
  · exact .inl rfl
  rcases h2.at_block with ⟨rfl, _⟩ | ⟨g', rfl, hg', _⟩
  · exact .inr (.inl rfl)
  refine .inr (.inr fun e => ?_)
  simp [blk] at e
  omega
theorem apart' {B : Option Addr} {d b2 : Nat} {ss : List Nat} {w2 : World} (h : Own w base A c rs) (h2 : Own w2 b2 B d ss) (hb : w.heap.size ≤ b2) : B = none ∨ A = none ∨ blk B ≠ blk A := by
  rcases apart h h2 hb with h | h | h
  · exact .inr (.inl h)
  · exact .inl h
  · exact .inr (.inr (Ne.symm h))
end
/-- The marks K .. K + n - 1. -/
def mark (K : Int) (j : Nat) : Nat := floatOfInt .f32 ((j : Int) + K)
def marks (K : Int) (n : Nat) : List Nat := (List.range n).map (mark K)
theorem marks_len (K : Int) (n : Nat) : (marks K n).length = n := by simp [marks]
theorem marks_at {K : Int} {n j : Nat} (h : j < n) : (marks K n)[j]? = some (mark K j) := by simp [marks, h]
theorem mark_self (K : Int) (j : Nat) : FloatKind.f32.format.order (mark K j) (mark K j) = some .eq := by
  have h : fl .f32 (mark K j) = some (mark K j) := fl_num (write_not_nan _ (binade_le .f32) (.number _ _ _) rfl)
  rw [order_self, if_neg]
  simp [(fl_some h).2]
def MarkMid (w : World) (base : Nat) (A : Option Addr) (c : Nat) (rs : List Nat) (K : Int) (j : Nat) (wr : World) : Prop :=
  wr.ownsRow base 29 1 (.slice A rs.length c) rs.length (vs ((marks K rs.length).take j ++ rs.drop j)) ∧ w.grownBy wr (blk A)
theorem MarkMid.zero {w : World} {base : Nat} {A : Option Addr} {c : Nat} {rs : List Nat} {K : Int} (h : Own w base A c rs) : MarkMid w base A c rs K 0 w := by
  refine ⟨?_, World.grownBy.refl _ _⟩
  simp only [List.take_zero, List.nil_append, List.drop_zero]
  exact h
theorem MarkMid.done {w wr : World} {base : Nat} {A : Option Addr} {c : Nat} {rs : List Nat} {K : Int} {j : Nat} (h : MarkMid w base A c rs K j wr) (hj : j ≤ rs.length) (hl : ¬ j < rs.length) :
    Own wr base A c (marks K rs.length) ∧ w.grownBy wr (blk A) := by
  obtain rfl : j = rs.length := by omega
  refine ⟨?_, h.2⟩
  have h1 := h.1
  rw [List.drop_length, List.append_nil, List.take_of_length_le (by rw [marks_len]; omega)] at h1
  unfold Own
  rw [marks_len]
  exact h1
theorem MarkMid.facts {w wr : World} {base : Nat} {A : Option Addr} {c : Nat} {rs : List Nat} {K : Int} {j : Nat} (h : MarkMid w base A c rs K j wr) (hj : j < rs.length) :
    ∃ g, A = some ⟨g, 0, none⟩ ∧ (∃ u, wr.cell? ⟨g, j, none⟩ = some u) ∧ wr.frozen? ⟨g, j, none⟩ = false ∧ MarkMid w base A c rs K (j + 1) (wr.setCell ⟨g, j, none⟩ (.float .f32 (mark K j))) := by
  obtain ⟨h1, h2⟩ := h
  rcases h1.2 with ⟨hv, hn⟩ | ⟨g, cap, cur, hv, _⟩
  · simp at hv; rw [hv.2.1] at hj; simp at hj
  · simp at hv
    obtain ⟨rfl, rfl⟩ := hv
    have hlen : (marks K rs.length).length = rs.length := marks_len _ _
    refine ⟨g, rfl, ?_, h1.frozenAt j, ?_, ?_⟩
    · rw [h1.cellAt j (by omega), List.getElem?_eq_getElem (by simp [vs_len, hlen]; omega)]
      exact ⟨_, rfl⟩
    · have hs := (h1.stored j (.float .f32 (mark K j))).1
      have e : (vs ((marks K rs.length).take j ++ rs.drop j)).set j (.float .f32 (mark K j)) = vs ((marks K rs.length).take (j + 1) ++ rs.drop (j + 1)) := by
        unfold vs
        rw [List.map_append, List.map_append, List.set_append_right _ _ (by simp [hlen]; omega)]
        have hm : ((marks K rs.length).take j).length = j := by rw [List.length_take, hlen]; omega
        rw [List.length_map, hm, Nat.sub_self, List.drop_eq_getElem_cons hj, List.map_cons, List.set_cons_zero, List.take_succ_eq_append_getElem (show j < (marks K rs.length).length by rw [hlen]; exact hj)]
        have hk : (marks K rs.length)[j]'(by rw [hlen]; exact hj) = mark K j := by
          have := marks_at (K := K) hj
          rw [List.getElem?_eq_getElem (by rw [hlen]; exact hj)] at this
          exact Option.some.inj this
        rw [hk, List.map_append, List.append_assoc]; rfl
      rw [e] at hs
      exact hs
    · have hg := (h1.stored j (.float .f32 (mark K j))).2
      refine ⟨hg.os.trans h2.os, hg.tape.trans h2.tape, hg.output.trans h2.output, Nat.le_trans h2.size hg.size, fun k hk hne => ?_⟩
      rw [hg.block k (Nat.lt_of_lt_of_le hk h2.size) (by simpa [blk] using hne), h2.block k hk hne]
end Go.Proofs.Ytomnhcogchceiaa.Mk