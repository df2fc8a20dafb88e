/- The walks: lists of float32 in the call's own memory, the marks that the laws set and look for, lists gathered by append. -/
import Derived.Laws.Cover2
import Derived.Deep.RegionHeldLaw
import Derived.Lib.AppendZeros
import Derived.Test.YtkfhgjknmdlhbaaGreatDoorMe
namespace Go.Proofs.YtkfhgjknmdlhbaaGreatDoor.Eg
open Go Go.RowKit Go.Lib Fl Fw WA WB Md Me
set_option linter.unusedVariables false
theorem ret_int {a b : Int} (h : a = b) : Ending.returned (.int .i64 a) = .returned (.int .i64 b) := by rw [h]
/-- The slice at A, of capacity c, holds the words rs in blocks from 'base' on. -/
def Own (w : World) (base : Nat) (A : Option Addr) (c : Nat) (rs : List Nat) : Prop := w.ownsRow base 28 1 (.slice A rs.length c) rs.length (vs rs)
section
variable {w w' : World} {base : Nat} {A : Option Addr} {c : Nat} {rs : List Nat}
theorem Own.nil (w : World) (base : Nat) : Own w base none 0 [] := World.ownsRow_nil _ _ _ _
theorem own_shape {v : Value} (h : w.ownsRow base 28 1 v rs.length (vs rs)) : ∃ A c, v = .slice A rs.length c ∧ Own w base A c rs := by
  rcases h.2 with ⟨rfl, hn⟩ | ⟨g, cap, cur, rfl, _⟩
  · have : rs = [] := List.eq_nil_of_length_eq_zero hn
    subst this
    exact ⟨none, 0, rfl, h⟩
  · exact ⟨_, _, rfl, h⟩
theorem Own.at_block (h : Own w base A c rs) : A = none ∧ rs = [] ∨ ∃ g, A = some ⟨g, 0, none⟩ ∧ base ≤ g ∧ g < w.heap.size := by
  have hl := h.lt
  rcases h.2 with ⟨hv, hn⟩ | ⟨g, cap, cur, hv, _⟩
  · simp at hv
    exact .inl ⟨hv.1, hv.2.1⟩
  · simp at hv
    obtain ⟨rfl, rfl⟩ := hv
    exact .inr ⟨g, rfl, hl g rfl⟩
theorem Own.rd (h : Own w base A c rs) : Rd w w.heap.size A rs := by
  rcases h.at_block with ⟨rfl, rfl⟩ | ⟨g, rfl, _, _⟩
  · exact fun hn => absurd rfl hn
  · exact Rd.of_own h
theorem Own.drewN (h : Own w base A c rs) (n : Nat) : Own (w.drewN n) base A c rs := h
theorem Own.weaken {b' : Nat} (h : Own w base A c rs) (hb : b' ≤ base) : Own w b' A c rs := by
  refine ⟨h.1, ?_⟩
  rcases h.2 with hn | ⟨g, cap, cur, hv, hg, rest⟩
  · exact .inl hn
  · exact .inr ⟨g, cap, cur, hv, by omega, rest⟩
theorem Own.below (h : Own w base A c rs) (hb : Below w.heap.size w w') : Own w' base A c rs := by
  refine World.ownsRow.kept (row := none) h ⟨hb.os, hb.tape, hb.output, hb.size, fun k hk _ => hb.block k hk⟩ ?_
  cases hv : (Value.slice A rs.length c).ownBlock <;> simp
/-- The block that a slice begins in. -/
def blk (A : Option Addr) : Option Nat := A.map Addr.block
theorem Own.kept {B : Option Addr} (h : Own w base A c rs) (hg : w.grownBy w' (blk B)) (hne : A = none ∨ B = none ∨ blk A ≠ blk B) : Own w' base A c rs := by
  refine World.ownsRow.kept h hg ?_
  have e : (Value.slice A rs.length c).ownBlock = blk A := by cases A <;> rfl
  rw [e]
  rcases hne with rfl | rfl | h
  · exact .inl rfl
  · cases A <;> simp [blk]
  · exact .inr h
theorem grown_below {B : Nat} (hg : w.grownBy w' (blk A)) (hB : B ≤ w.heap.size) (h : ∀ a, A = some a → B ≤ a.block) : Below B w w' := by
  refine (Below.refl _ _).grown hg hB ?_
  intro k hk
  cases A with
  | none => cases hk
  | some a => simp [blk] at hk; subst hk; exact h a rfl
theorem Own.ge (h : Own w base A c rs) : ∀ a, A = some a → base ≤ a.block := by
  rintro a rfl
  rcases h.at_block with ⟨h, _⟩ | ⟨g, h, hb, _⟩
  · cases h
  · cases h; exact hb
theorem Own.lt' (h : Own w base A c rs) : ∀ a, A = some a → a.block < w.heap.size := by
  rintro a rfl
  rcases h.at_block with ⟨h, _⟩ | ⟨g, h, _, hb⟩
  · cases h
  · cases h; exact hb
/-- Two rows, the one begun where the other was already there. -/
theorem apart {B : Option Addr} {d b2 : Nat} {ss : List Nat} {w2 : World} (h : Own w base A c rs) (h2 : Own w2 b2 B d ss) (hb : w.heap.size ≤ b2) : A = none ∨ B = none ∨ blk A ≠ blk B := by
  rcases h.at_block with ⟨rfl, _⟩ | ⟨g, rfl, _, hg⟩
  · exact .inl rfl
  rcases h2.at_block with ⟨rfl, _⟩ | ⟨g', rfl, hg', _⟩
  · exact .inr (.inl rfl)
  refine .inr (.inr fun e => ?_)
  simp [blk] at e
  omega
theorem apart' {B : Option Addr} {d b2 : Nat} {ss : List Nat} {w2 : World} (h : Own w base A c rs) (h2 : Own w2 b2 B d ss) (hb : w.heap.size ≤ b2) : B = none ∨ A = none ∨ blk B ≠ blk A := by
  rcases apart h h2 hb with h | h | h
  · exact .inr (.inl h)
  · exact .inl h
  · exact .inr (.inr (Ne.symm h))
end
/-- The marks K .. K + n - 1. -/
def mark (K : Int) (j : Nat) : Nat := floatOfInt .f32 ((j : Int) + K)
def marks (K : Int) (n : Nat) : List Nat := (List.range n).map (mark K)
theorem marks_len (K : Int) (n : Nat) : (marks K n).length = n := by simp [marks]
theorem marks_at {K : Int} {n j : Nat} (h : j < n) : (marks K n)[j]? = some (mark K j) := by simp [marks, h]
theorem mark_self (K : Int) (j : Nat) : FloatKind.f32.format.order (mark K j) (mark K j) = some .eq := by
  have h : fl .f32 (mark K j) = some (mark K j) := fl_num (write_not_nan _ (binade_le .f32) (.number _ _ _) rfl)
  rw [order_self, if_neg]
  simp [(fl_some h).2]
def MarkMid (w : World) (base : Nat) (A : Option Addr) (c : Nat) (rs : List Nat) (K : Int) (j : Nat) (wr : World) : Prop :=
  wr.ownsRow base 28 1 (.slice A rs.length c) rs.length (vs ((marks K rs.length).take j ++ rs.drop j)) ∧ w.grownBy wr (blk A)
theorem MarkMid.zero {w : World} {base : Nat} {A : Option Addr} {c : Nat} {rs : List Nat} {K : Int} (h : Own w base A c rs) : MarkMid w base A c rs K 0 w := by
  refine ⟨?_, World.grownBy.refl _ _⟩
  simp only [List.take_zero, List.nil_append, List.drop_zero]
  exact h
theorem MarkMid.done {w wr : World} {base : Nat} {A : Option Addr} {c : Nat} {rs : List Nat} {K : Int} {j : Nat} (h : MarkMid w base A c rs K j wr) (hj : j ≤ rs.length) (hl : ¬ j < rs.length) :
    Own wr base A c (marks K rs.length) ∧ w.grownBy wr (blk A) := by
  obtain rfl : j = rs.length := by omega
  refine ⟨?_, h.2⟩
  have h1 := h.1
  rw [List.drop_length, List.append_nil, List.take_of_length_le (by rw [marks_len]; omega)] at h1
  unfold Own
  rw [marks_len]
  exact h1
theorem MarkMid.facts {w wr : World} {base : Nat} {A : Option Addr} {c : Nat} {rs : List Nat} {K : Int} {j : Nat} (h : MarkMid w base A c rs K j wr) (hj : j < rs.length) :
    ∃ g, A = some ⟨g, 0, none⟩ ∧ (∃ u, wr.cell? ⟨g, j, none⟩ = some u) ∧ wr.frozen? ⟨g, j, none⟩ = false ∧ MarkMid w base A c rs K (j + 1) (wr.setCell ⟨g, j, none⟩ (.float .f32 (mark K j))) := by
  obtain ⟨h1, h2⟩ := h
  rcases h1.2 with ⟨hv, hn⟩ | ⟨g, cap, cur, hv, _⟩
  · simp at hv; rw [hv.2.1] at hj; simp at hj
  · simp at hv
    obtain ⟨rfl, rfl⟩ := hv
    have hlen : (marks K rs.length).length = rs.length := marks_len _ _
    refine ⟨g, rfl, ?_, h1.frozenAt j, ?_, ?_⟩
    · rw [h1.cellAt j (by omega), List.getElem?_eq_getElem (by simp [vs_len, hlen]; omega)]
      exact ⟨_, rfl⟩
    · have hs := (h1.stored j (.float .f32 (mark K j))).1
      have e : (vs ((marks K rs.length).take j ++ rs.drop j)).set j (.float .f32 (mark K j)) = vs ((marks K rs.length).take (j + 1) ++ rs.drop (j + 1)) := by
        unfold vs
        rw [List.map_append, List.map_append, List.set_append_right _ _ (by simp [hlen]; omega)]
        have hm : ((marks K rs.length).take j).length = j := by rw [List.length_take, hlen]; omega
        rw [List.length_map, hm, Nat.sub_self, List.drop_eq_getElem_cons hj, List.map_cons, List.set_cons_zero, List.take_succ_eq_append_getElem (show j < (marks K rs.length).length by rw [hlen]; exact hj)]
        have hk : (marks K rs.length)[j]'(by rw [hlen]; exact hj) = mark K j := by
          have := marks_at (K := K) hj
          rw [List.getElem?_eq_getElem (by rw [hlen]; exact hj)] at this
          exact Option.some.inj this
        rw [hk, List.map_append, List.append_assoc]; rfl
      rw [e] at hs
      exact hs
    · have hg := (h1.stored j (.float .f32 (mark K j))).2
      refine ⟨hg.os.trans h2.os, hg.tape.trans h2.tape, hg.output.trans h2.output, Nat.le_trans h2.size hg.size, fun k hk hne => ?_⟩
      rw [hg.block k (Nat.lt_of_lt_of_le hk h2.size) (by simpa [blk] using hne), h2.block k hk hne]
/-- v holds the words rs in memory that is new since w0. -/
structure Gath (w0 wr : World) (v : Value) (rs : List Nat) : Prop where
  own : wr.ownsRow w0.heap.size 28 1 v rs.length (vs rs)
  below : Below w0.heap.size w0 wr
theorem Gath.drewN {w0 wr : World} {v : Value} {rs : List Nat} (h : Gath w0 wr v rs) (n : Nat) : Gath w0 (wr.drewN n) v rs := ⟨h.own, ⟨h.below.os, h.below.tape, h.below.output, h.below.size, h.below.block⟩⟩
theorem Gath.empty (w : World) : Gath w (w.alloc (.cells #[] 28)) (.slice (some ⟨w.heap.size, 0, none⟩) 0 0) [] :=
  ⟨World.ownsRow_made w #[] 0 (Nat.le_refl _) (by unfold maxLen; omega) rfl, (Below.refl _ _).alloc (Nat.le_refl _) _⟩
theorem gath_empty {w : World} (n : Nat) : Gath w ((w.drewN n).alloc (.cells #[] 28)) (.slice (some ⟨w.heap.size, 0, none⟩) 0 0) [] :=
  ⟨World.ownsRow_made (w.drewN n) #[] 0 (Nat.le_refl _) (by unfold maxLen; omega) rfl, ⟨rfl, rfl, rfl, (Gath.empty w).below.size, (Gath.empty w).below.block⟩⟩
theorem Gath.rd {w0 wr : World} {v : Value} {rs : List Nat} {A : Option Addr} {xs : List Nat} (h : Gath w0 wr v rs) (hx : Rd w0 w0.heap.size A xs) : Rd wr w0.heap.size A xs := hx.below h.below
/-- 'append(out, x)', x ONE NUMBER. -/
theorem wpList_push {ops : Array Oper} {rest : List Oper} {o : Oper} {a : Act} {Q : Exit → Act → World → Prop} (w0 wr : World) (rs : List Nat) (x : Nat) (a_v : Value) (hg : Hid (Gath w0 wr a_v rs)) (hlen : rs.length ≤ 1099511627776)
    (hgd : o.guard = none) (s y : Operand) (ho : o.op = .call { callee := .builtin .append, args := #[s, y], argTypes := #[52, 52] })
    (hs : a.eval s = a_v) (hy : a.eval y = .slice (some ⟨wr.heap.size, 0, none⟩) 1 1)
    (h : ∀ v' w', Hid (Gath w0 w' v' (rs ++ [x])) → wpList Tryz.prog ops Q rest (a.put o.dst v') w') : wpList Tryz.prog ops Q (o :: rest) a (wr.alloc (.cells #[.float .f32 x] 28)) := by
  obtain ⟨i0, hi, hz0, hz1, hz2⟩ := info_parts f32_info
  have H := hg.out
  refine wpList_append_own _ hgd s y 52 ho w0.heap.size 28 i0 (.float .f32 0) 1 4 Tryz.underlying52 hi hz0 hz1 hz2 rfl (by decide) _ _ _ hs (H.own.alloc _) ⟨wr.heap.size, 0, none⟩ 1 1 [.float .f32 x] hy rfl ?c1 ?c2 ?c3 ?c4 ?c5 ?_
  case c1 =>
    intro j u hj
    match j, hj with
    | 0, hj => simp at hj; subst hj; simp [Addr.add]
  case c2 => intro u hu; simp at hu; subst hu; rfl
  case c3 => unfold maxLen; omega
  case c4 => omega
  case c5 => have := H.below.size; simp; omega
  · intro v' w' hown' hgrow _
    refine h v' w' ⟨?_, ?_⟩
    · have e1 : (rs ++ [x]).length = rs.length + 1 := by simp
      have e2 : vs (rs ++ [x]) = vs rs ++ [.float .f32 x] := by unfold vs; simp
      rw [e1, e2]; exact hown'
    · refine (H.below.alloc H.below.size _).grown hgrow (by simp; have := H.below.size; omega) ?_
      intro k hk
      exact (H.own.lt k hk).1
theorem gath_below {w0 wr w2 : World} {v : Value} {rs : List Nat} (h : Gath w0 wr v rs) (hb : Below wr.heap.size wr w2) : Gath w0 w2 v rs :=
  ⟨h.own.kept (row := none) ⟨hb.os, hb.tape, hb.output, hb.size, fun k hk _ => hb.block k hk⟩ (by cases hv : v.ownBlock <;> simp), h.below.trans (Below.mono hb h.below.size)⟩
theorem Gath.after {w0 w1 wr : World} {v : Value} {rs : List Nat} (h : Gath w1 wr v rs) (hb : Below w0.heap.size w0 w1) : Gath w0 wr v rs := by
  refine ⟨?_, hb.trans (Below.mono h.below hb.size)⟩
  obtain ⟨A, c, rfl, ho⟩ := own_shape h.own
  exact ho.weaken hb.size
/-- A list, in new memory, and whether. -/
def RetLF (zs : List Nat) (b : Bool) (w : World) (e : Ending) (w' : World) : Prop :=
  ∃ rs A c, rs = (if b then zs else []) ∧ e = .returned (.tuple #[.slice A rs.length c, .bool b]) ∧ Own w' w.heap.size A c rs ∧ Below w.heap.size w w'
theorem RetLF.no {zs : List Nat} {w w' : World} (hb : Below w.heap.size w w') : RetLF zs false w (.returned (.tuple #[.slice none 0 0, .bool false])) w' :=
  ⟨[], none, 0, rfl, rfl, World.ownsRow_nil _ _ _ _, hb⟩
theorem Gath.retLF {w wr : World} {v : Value} {rs zs : List Nat} (h : Gath w wr v rs) (he : rs = zs) : RetLF zs true w (.returned (.tuple #[v, .bool true])) wr := by
  obtain ⟨A, c, rfl, ho⟩ := own_shape h.own
  exact ⟨rs, A, c, by simpa using he, rfl, ho, h.below⟩
/-- Gathered since w0, or since w1 if anything is. -/
def GI (w0 w1 wr : World) (v : Value) (rs : List Nat) : Prop := (rs = [] ∧ (∃ g0, v = .slice (some ⟨g0, 0, none⟩) 0 0) ∧ Gath w0 wr v [] ∧ Below w1.heap.size w1 wr) ∨ (rs ≠ [] ∧ Gath w1 wr v rs)
section
variable {w0 w1 wr w2 : World} {v : Value} {rs : List Nat}
theorem GI.below (h : GI w0 w1 wr v rs) : Below w1.heap.size w1 wr := by
  rcases h with ⟨_, _, _, h⟩ | ⟨_, h⟩
  · exact h
  · exact h.below
theorem GI.after (h : GI w0 w1 wr v rs) (hb : Below wr.heap.size wr w2) : GI w0 w1 w2 v rs := by
  rcases h with ⟨e, hv, hg, hb1⟩ | ⟨e, hg⟩
  · exact .inl ⟨e, hv, gath_below hg hb, hb1.trans (Below.mono hb hb1.size)⟩
  · exact .inr ⟨e, gath_below hg hb⟩
theorem GI.gath (h : GI w0 w1 wr v rs) (hb : Below w0.heap.size w0 w1) : Gath w0 wr v rs := by
  rcases h with ⟨rfl, _, hg, _⟩ | ⟨_, hg⟩
  · exact hg
  · exact hg.after hb
theorem GI.zero {g0 : Nat} (hg : Gath w0 w1 (.slice (some ⟨g0, 0, none⟩) 0 0) []) : GI w0 w1 w1 (.slice (some ⟨g0, 0, none⟩) 0 0) [] := .inl ⟨rfl, ⟨g0, rfl⟩, hg, Below.refl _ _⟩
end
theorem wpList_pushFirst {ops : Array Oper} {rest : List Oper} {o : Oper} {a : Act} {Q : Exit → Act → World → Prop} (w0 w1 wr : World) (x : Nat) (g0 : Nat) (hg : Gath w0 wr (.slice (some ⟨g0, 0, none⟩) 0 0) []) (hb : Below w1.heap.size w1 wr)
    (hgd : o.guard = none) (s y : Operand) (ho : o.op = .call { callee := .builtin .append, args := #[s, y], argTypes := #[52, 52] })
    (hs : a.eval s = .slice (some ⟨g0, 0, none⟩) 0 0) (hy : a.eval y = .slice (some ⟨wr.heap.size, 0, none⟩) 1 1)
    (h : ∀ v' w', Gath w1 w' v' [x] → wpList Tryz.prog ops Q rest (a.put o.dst v') w') : wpList Tryz.prog ops Q (o :: rest) a (wr.alloc (.cells #[.float .f32 x] 28)) := by
  obtain ⟨i0, hi, hz0, hz1, hz2⟩ := info_parts f32_info
  have hnews : ∀ (j : Nat) u, [.float .f32 x][j]? = some u → (wr.alloc (.cells #[.float .f32 x] 28)).cell? ((⟨wr.heap.size, 0, none⟩ : Addr).add j) = some u := by
    intro j u hj
    match j, hj with
    | 0, hj => simp at hj; subst hj; simp [Addr.add]
  have hsz := hg.below.size
  obtain ⟨v1, w2, hr, hown, hgrow, _⟩ := run_append_own (P := Tryz.prog) (wr.alloc (.cells #[.float .f32 x] 28)) w0.heap.size 52 o.type 28 i0 (.float .f32 0) 1 4 Tryz.underlying52 hi hz0 hz1 hz2 rfl (by decide) _ 0 [] (hg.own.alloc _) ⟨wr.heap.size, 0, none⟩ 1 1 [.float .f32 x] rfl hnews
    (by intro u hu; simp at hu; subst hu; rfl) (by unfold maxLen; omega) (by omega) (by simp; omega)
  have hr2 := run_append_grow (P := Tryz.prog) (wr.alloc (.cells #[.float .f32 x] 28)) 52 o.type 28 i0 (.float .f32 0) Tryz.underlying52 hi hz0 ⟨g0, 0, none⟩ 0 0 [] (by simp) (by intro j u hj; simp at hj) ⟨wr.heap.size, 0, none⟩ 1 1 [.float .f32 x] (by rw [hz1]; rfl) hnews (by omega) (by omega)
    (by rw [hz2]; exact growslice_fits (by omega) (by omega))
  rw [hr] at hr2
  simp only [Result.ok.injEq] at hr2
  obtain ⟨hv, hw⟩ := hr2
  have hb1 := hb.alloc hb.size (.cells #[.float .f32 x] 28)
  refine wpList_append_run _ hgd s y _ _ ho _ _ hs hy v1 w2 hr (h v1 w2 ⟨?_, ?_⟩)
  · refine ⟨hown.1, ?_⟩
    rcases hown.2 with ⟨e, _⟩ | ⟨g, cap, cur, e, _, rest⟩
    · rw [hv] at e; simp at e
    · refine .inr ⟨g, cap, cur, e, ?_, rest⟩
      rw [hv] at e
      simp at e
      have := hb.size
      omega
  · rw [hw]
    have hbd : Below w1.heap.size w1 (wr.alloc (.cells #[.float .f32 x] 28)).drew := ⟨hb1.os, hb1.tape, hb1.output, hb1.size, hb1.block⟩
    exact hbd.alloc hbd.size _
theorem wpList_pushI {ops : Array Oper} {rest : List Oper} {o : Oper} {a : Act} {Q : Exit → Act → World → Prop} (w0 w1 wr : World) (rs : List Nat) (x : Nat) (v : Value) (hg : Hid (GI w0 w1 wr v rs)) (hlen : rs.length ≤ 1099511627776)
    (hgd : o.guard = none) (s y : Operand) (ho : o.op = .call { callee := .builtin .append, args := #[s, y], argTypes := #[52, 52] })
    (hs : a.eval s = v) (hy : a.eval y = .slice (some ⟨wr.heap.size, 0, none⟩) 1 1)
    (h : ∀ v' w', Hid (GI w0 w1 w' v' (rs ++ [x])) → wpList Tryz.prog ops Q rest (a.put o.dst v') w') : wpList Tryz.prog ops Q (o :: rest) a (wr.alloc (.cells #[.float .f32 x] 28)) := by
  rcases hg.out with ⟨rfl, ⟨g0, rfl⟩, hg1, hb⟩ | ⟨hne, hg1⟩
  · exact wpList_pushFirst w0 w1 wr x g0 hg1 hb hgd s y ho hs hy fun v' w' hG => h v' w' (Lib.hid (.inr ⟨by simp, hG⟩))
  · exact wpList_push w1 wr rs x v (Lib.hid hg1) hlen hgd s y ho hs hy fun v' w' hG => h v' w' (Lib.hid (.inr ⟨by simp, hG.out⟩))
end Go.Proofs.YtkfhgjknmdlhbaaGreatDoor.Eg
