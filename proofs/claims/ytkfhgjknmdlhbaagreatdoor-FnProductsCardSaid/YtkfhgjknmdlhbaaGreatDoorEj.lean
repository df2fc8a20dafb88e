/- The walks: lists of complex64 in the call's own memory, the marks that the laws set and look for, their comparison, lists gathered by append. -/
import Derived.Laws.Cover2
import Derived.Deep.RegionHeldLaw
import Derived.Deep.RegionHeld3
import Derived.Lib.AppendZeros
import Derived.Laws.OwnMore
import Derived.OwnWalk
import Derived.Test.YtkfhgjknmdlhbaaGreatDoorFc
import Derived.Test.YtkfhgjknmdlhbaaGreatDoorMe
namespace Go.Proofs.YtkfhgjknmdlhbaaGreatDoor.Ej
open Go Go.RowKit Go.Lib Fl Fw Fm Fy Fx Fc WA WB
open Md (step_fconv upon_fconv add_at add_block)
open Me (same_wide)
set_option linter.unusedVariables false
theorem ret_int {a b : Int} (h : a = b) : Ending.returned (.int .i64 a) = .returned (.int .i64 b) := by rw [h]
def cv (p : Nat × Nat) : Value := .complex .f32 p.1 p.2
theorem c64_info : (Tryz.prog.info? 24).map (fun i => (i.zero, i.size, i.bytes)) = some (some (.complex .f32 0 0), 1, 8) := by kernel_rfl
@[go_sem] theorem run_store_complex {P : Program} (w : World) (a : Addr) (m : Mode) (k : FloatKind) (x y : Nat) : (store a (.complex k x y) m).run P w = stored P w a (.complex k x y) m := run_store P w a _ m rfl
def vs (xs : List (Nat × Nat)) : List Value := xs.map cv
/-- The slice at A reads as the words xs, below block B. -/
def Rd (w : World) (B : Nat) (A : Option Addr) (xs : List (Nat × Nat)) : Prop := xs ≠ [] → ∃ ad : Addr, A = some ad ∧ ad.block < B ∧ ∀ j x, xs[j]? = some x → w.cell? (ad.add j) = some (cv x)
section
variable {w w' : World} {B B' : Nat} {A : Option Addr} {xs : List (Nat × Nat)}
theorem Rd.at_ (h : Rd w B A xs) {j : Nat} (hj : j < xs.length) : ∃ ad : Addr, A = some ad ∧ ad.block < B ∧ w.cell? (ad.add j) = some (cv xs[j]) := by
  obtain ⟨ad, e, hb, hc⟩ := h (by intro e; subst e; simp at hj)
  exact ⟨ad, e, hb, hc j _ (List.getElem?_eq_getElem hj)⟩
theorem Rd.keep (h : Rd w B A xs) (hk : ∀ p : Addr, p.block < B → w'.cell? p = w.cell? p) : Rd w' B A xs := fun hn => by
  obtain ⟨ad, e, hb, hc⟩ := h hn
  exact ⟨ad, e, hb, fun j x hx => (hk _ (by rw [add_block]; exact hb)).trans (hc j x hx)⟩
theorem Rd.more (h : Rd w B A xs) (hB : B ≤ B') : Rd w B' A xs := fun hn => by
  obtain ⟨ad, e, hb, hc⟩ := h hn
  exact ⟨ad, e, by omega, hc⟩
theorem Rd.below (h : Rd w B A xs) (hb : Below B w w') : Rd w' B A xs := h.keep fun _ hp => hb.cell hp
theorem Rd.drewN (h : Rd w B A xs) (k : Nat) : Rd (w.drewN k) B A xs := h
theorem Rd.of_own {base g cap n : Nat} {e : TypeId} (h : w.ownsRow base e 1 (.slice (some ⟨g, 0, none⟩) n cap) n (vs xs)) : Rd w w.heap.size (some ⟨g, 0, none⟩) xs := fun _ =>
  ⟨_, rfl, (h.lt g rfl).2, fun j x hx => h.cells (g := g) rfl j _ (by unfold vs; rw [List.getElem?_map, hx]; rfl)⟩
end
theorem vs_len (xs : List (Nat × Nat)) : (vs xs).length = xs.length := by unfold vs; simp

/-- The slice at A, of capacity c, holds the words rs in blocks from 'base' on. -/
def Own (w : World) (base : Nat) (A : Option Addr) (c : Nat) (rs : List (Nat × Nat)) : Prop := w.ownsRow base 24 1 (.slice A rs.length c) rs.length (vs rs)
section
variable {w w' : World} {base : Nat} {A : Option Addr} {c : Nat} {rs : List (Nat × Nat)}
theorem Own.nil (w : World) (base : Nat) : Own w base none 0 [] := World.ownsRow_nil _ _ _ _
theorem own_shape {v : Value} (h : w.ownsRow base 24 1 v rs.length (vs rs)) : ∃ A c, v = .slice A rs.length c ∧ Own w base A c rs := by
  rcases h.2 with ⟨rfl, hn⟩ | ⟨g, cap, cur, rfl, _⟩
  · have : rs = [] := List.eq_nil_of_length_eq_zero hn
    subst this
    exact ⟨none, 0, rfl, h⟩
  · exact ⟨_, _, rfl, h⟩
theorem Own.at_block (h : Own w base A c rs) : A = none ∧ rs = [] ∨ ∃ g, A = some ⟨g, 0, none⟩ ∧ base ≤ g ∧ g < w.heap.size := by
  have hl := h.lt
  rcases h.2 with ⟨hv, hn⟩ | ⟨g, cap, cur, hv, _⟩
  · simp at hv
    exact .inl ⟨hv.1, hv.2.1⟩
  · simp at hv
    obtain ⟨rfl, rfl⟩ := hv
    exact .inr ⟨g, rfl, hl g rfl⟩
theorem Own.rd (h : Own w base A c rs) : Rd w w.heap.size A rs := by
  rcases h.at_block with ⟨rfl, rfl⟩ | ⟨g, rfl, _, _⟩
  · exact fun hn => absurd rfl hn
  · exact Rd.of_own h
theorem Own.drewN (h : Own w base A c rs) (n : Nat) : Own (w.drewN n) base A c rs := h
theorem Own.weaken {b' : Nat} (h : Own w base A c rs) (hb : b' ≤ base) : Own w b' A c rs := by
  refine ⟨h.1, ?_⟩
  rcases h.2 with hn | ⟨g, cap, cur, hv, hg, rest⟩
  · exact .inl hn
  · exact .inr ⟨g, cap, cur, hv, by omega, rest⟩
theorem Own.below (h : Own w base A c rs) (hb : Below w.heap.size w w') : Own w' base A c rs := by
  refine World.ownsRow.kept (row := none) h ⟨hb.os, hb.tape, hb.output, hb.size, fun k hk _ => hb.block k hk⟩ ?_
  cases hv : (Value.slice A rs.length c).ownBlock <;> simp
/-- The block that a slice begins in. -/
def blk (A : Option Addr) : Option Nat := A.map Addr.block
theorem Own.kept {B : Option Addr} (h : Own w base A c rs) (hg : w.grownBy w' (blk B)) (hne : A = none ∨ B = none ∨ blk A ≠ blk B) : Own w' base A c rs := by
  refine World.ownsRow.kept h hg ?_
  have e : (Value.slice A rs.length c).ownBlock = blk A := by cases A <;> rfl
  rw [e]
  rcases hne with rfl | rfl | h
  · exact .inl rfl
  · cases A <;> simp [blk]
  · exact .inr h
theorem grown_below {B : Nat} (hg : w.grownBy w' (blk A)) (hB : B ≤ w.heap.size) (h : ∀ a, A = some a → B ≤ a.block) : Below B w w' := by
  refine (Below.refl _ _).grown hg hB ?_
  intro k hk
  cases A with
  | none => cases hk
  | some a => simp [blk] at hk; subst hk; exact h a rfl
theorem Own.ge (h : Own w base A c rs) : ∀ a, A = some a → base ≤ a.block := by
  rintro a rfl
  rcases h.at_block with ⟨h, _⟩ | ⟨g, h, hb, _⟩
  · cases h
  · cases h; exact hb
theorem Own.lt' (h : Own w base A c rs) : ∀ a, A = some a → a.block < w.heap.size := by
  rintro a rfl
  rcases h.at_block with ⟨h, _⟩ | ⟨g, h, _, hb⟩
  · cases h
  · cases h; exact hb
/-- Two rows, the one begun where the other was already there. -/
theorem apart {B : Option Addr} {d b2 : Nat} {ss : List (Nat × Nat)} {w2 : World} (h : Own w base A c rs) (h2 : Own w2 b2 B d ss) (hb : w.heap.size ≤ b2) : A = none ∨ B = none ∨ blk A ≠ blk B := by
  rcases h.at_block with ⟨rfl, _⟩ | ⟨g, rfl, _, hg⟩
  · exact .inl rfl
  rcases h2.at_block with ⟨rfl, _⟩ | ⟨g', rfl, hg', _⟩
  · exact .inr (.inl rfl)
  refine .inr (.inr fun e => ?_)
  simp [blk] at e
  omega
theorem apart' {B : Option Addr} {d b2 : Nat} {ss : List (Nat × Nat)} {w2 : World} (h : Own w base A c rs) (h2 : Own w2 b2 B d ss) (hb : w.heap.size ≤ b2) : B = none ∨ A = none ∨ blk B ≠ blk A := by
  rcases apart h h2 hb with h | h | h
  · exact .inr (.inl h)
  · exact .inl h
  · exact .inr (.inr (Ne.symm h))
end
/-- The marks K .. K + n - 1. -/
def m1 (K : Int) (j : Nat) : Nat := (fconv .f64 .f32 (some (floatOfInt .f64 ((j : Int) + K)))).getD 0
def mark (K : Int) (j : Nat) : Nat × Nat := (m1 K j, 1065353216)
def marks (K : Int) (n : Nat) : List (Nat × Nat) := (List.range n).map (mark K)
theorem marks_len (K : Int) (n : Nat) : (marks K n).length = n := by simp [marks]
theorem marks_at {K : Int} {n j : Nat} (h : j < n) : (marks K n)[j]? = some (mark K j) := by simp [marks, h]
theorem fl_int (n : Int) : fl .f64 (floatOfInt .f64 n) = some (floatOfInt .f64 n) := fl_num (write_not_nan _ (binade_le .f64) (.number _ _ _) rfl)
theorem m1_is {K : Int} {j r : Nat} (h : ((j : Int) + K).natAbs ≤ 2048) (hr : FC .f64 .f32 (fl .f64 (floatOfInt .f64 ((j : Int) + K))) r) : r = m1 K j ∧ fl .f32 r = some r := by
  rw [fl_int] at hr
  have hb : Bd 127 (some (fi ((j : Int) + K))) := (bd_fi h).mono (by omega)
  have e := hr.1 (bd_over hb)
  have e2 : fconv .f64 .f32 (some (floatOfInt .f64 ((j : Int) + K))) = some (m1 K j) := rfl
  rw [e2] at e
  have := (fl_some e).1
  exact ⟨this.symm, by rw [e, this]⟩
theorem one_is {r : Nat} (hr : FC .f64 .f32 (fl .f64 4607182418800017408) r) : r = 1065353216 := by
  have e := hr.1 (by decide +kernel)
  rw [show fconv .f64 .f32 (fl .f64 4607182418800017408) = some 1065353216 by decide +kernel] at e
  exact (fl_some e).1.symm
theorem eq_self {x : Nat} (h : fl .f32 x = some x) : FloatKind.f32.format.order x x = some .eq := by
  rw [order_self, if_neg]
  simp [(fl_some h).2]
def MarkMid (w : World) (base : Nat) (A : Option Addr) (c : Nat) (rs : List (Nat × Nat)) (K : Int) (j : Nat) (wr : World) : Prop :=
  wr.ownsRow base 24 1 (.slice A rs.length c) rs.length (vs ((marks K rs.length).take j ++ rs.drop j)) ∧ w.grownBy wr (blk A)
theorem MarkMid.zero {w : World} {base : Nat} {A : Option Addr} {c : Nat} {rs : List (Nat × Nat)} {K : Int} (h : Own w base A c rs) : MarkMid w base A c rs K 0 w := by
  refine ⟨?_, World.grownBy.refl _ _⟩
  simp only [List.take_zero, List.nil_append, List.drop_zero]
  exact h
theorem MarkMid.done {w wr : World} {base : Nat} {A : Option Addr} {c : Nat} {rs : List (Nat × Nat)} {K : Int} {j : Nat} (h : MarkMid w base A c rs K j wr) (hj : j ≤ rs.length) (hl : ¬ j < rs.length) :
    Own wr base A c (marks K rs.length) ∧ w.grownBy wr (blk A) := by
  obtain rfl : j = rs.length := by omega
  refine ⟨?_, h.2⟩
  have h1 := h.1
  rw [List.drop_length, List.append_nil, List.take_of_length_le (by rw [marks_len]; omega)] at h1
  unfold Own
  rw [marks_len]
  exact h1
theorem MarkMid.facts {w wr : World} {base : Nat} {A : Option Addr} {c : Nat} {rs : List (Nat × Nat)} {K : Int} {j : Nat} (h : MarkMid w base A c rs K j wr) (hj : j < rs.length) :
    ∃ g, A = some ⟨g, 0, none⟩ ∧ (∃ u, wr.cell? ⟨g, j, none⟩ = some u) ∧ wr.frozen? ⟨g, j, none⟩ = false ∧ MarkMid w base A c rs K (j + 1) (wr.setCell ⟨g, j, none⟩ (cv (mark K j))) := by
  obtain ⟨h1, h2⟩ := h
  rcases h1.2 with ⟨hv, hn⟩ | ⟨g, cap, cur, hv, _⟩
  · simp at hv; rw [hv.2.1] at hj; simp at hj
  · simp at hv
    obtain ⟨rfl, rfl⟩ := hv
    have hlen : (marks K rs.length).length = rs.length := marks_len _ _
    refine ⟨g, rfl, ?_, h1.frozenAt j, ?_, ?_⟩
    · rw [h1.cellAt j (by omega), List.getElem?_eq_getElem (by simp [vs_len, hlen]; omega)]
      exact ⟨_, rfl⟩
    · have hs := (h1.stored j (cv (mark K j))).1
      have e : (vs ((marks K rs.length).take j ++ rs.drop j)).set j (cv (mark K j)) = vs ((marks K rs.length).take (j + 1) ++ rs.drop (j + 1)) := by
        unfold vs
        rw [List.map_append, List.map_append, List.set_append_right _ _ (by simp [hlen]; omega)]
        have hm : ((marks K rs.length).take j).length = j := by rw [List.length_take, hlen]; omega
        rw [List.length_map, hm, Nat.sub_self, List.drop_eq_getElem_cons hj, List.map_cons, List.set_cons_zero, List.take_succ_eq_append_getElem (show j < (marks K rs.length).length by rw [hlen]; exact hj)]
        have hk : (marks K rs.length)[j]'(by rw [hlen]; exact hj) = mark K j := by
          have := marks_at (K := K) hj
          rw [List.getElem?_eq_getElem (by rw [hlen]; exact hj)] at this
          exact Option.some.inj this
        rw [hk, List.map_append, List.append_assoc]; rfl
      rw [e] at hs
      exact hs
    · have hg := (h1.stored j (cv (mark K j))).2
      refine ⟨hg.os.trans h2.os, hg.tape.trans h2.tape, hg.output.trans h2.output, Nat.le_trans h2.size hg.size, fun k hk hne => ?_⟩
      rw [hg.block k (Nat.lt_of_lt_of_le hk h2.size) (by simpa [blk] using hne), h2.block k hk hne]
/-- v holds the words rs in memory that is new since w0. -/
structure Gath (w0 wr : World) (v : Value) (rs : List (Nat × Nat)) : Prop where
  own : wr.ownsRow w0.heap.size 24 1 v rs.length (vs rs)
  below : Below w0.heap.size w0 wr
theorem Gath.drewN {w0 wr : World} {v : Value} {rs : List (Nat × Nat)} (h : Gath w0 wr v rs) (n : Nat) : Gath w0 (wr.drewN n) v rs := ⟨h.own, ⟨h.below.os, h.below.tape, h.below.output, h.below.size, h.below.block⟩⟩
theorem Gath.empty (w : World) : Gath w (w.alloc (.cells #[] 24)) (.slice (some ⟨w.heap.size, 0, none⟩) 0 0) [] :=
  ⟨World.ownsRow_made w #[] 0 (Nat.le_refl _) (by unfold maxLen; omega) rfl, (Below.refl _ _).alloc (Nat.le_refl _) _⟩
theorem gath_empty {w : World} (n : Nat) : Gath w ((w.drewN n).alloc (.cells #[] 24)) (.slice (some ⟨w.heap.size, 0, none⟩) 0 0) [] :=
  ⟨World.ownsRow_made (w.drewN n) #[] 0 (Nat.le_refl _) (by unfold maxLen; omega) rfl, ⟨rfl, rfl, rfl, (Gath.empty w).below.size, (Gath.empty w).below.block⟩⟩
theorem Gath.rd {w0 wr : World} {v : Value} {rs : List (Nat × Nat)} {A : Option Addr} {xs : List (Nat × Nat)} (h : Gath w0 wr v rs) (hx : Rd w0 w0.heap.size A xs) : Rd wr w0.heap.size A xs := hx.below h.below
/-- 'append(out, x)', x ONE NUMBER. -/
theorem wpList_push {ops : Array Oper} {rest : List Oper} {o : Oper} {a : Act} {Q : Exit → Act → World → Prop} (w0 wr : World) (rs : List (Nat × Nat)) (x : Nat × Nat) (a_v : Value) (hg : Hid (Gath w0 wr a_v rs)) (hlen : rs.length ≤ 1099511627776)
    (hgd : o.guard = none) (s y : Operand) (ho : o.op = .call { callee := .builtin .append, args := #[s, y], argTypes := #[25, 25] })
    (hs : a.eval s = a_v) (hy : a.eval y = .slice (some ⟨wr.heap.size, 0, none⟩) 1 1)
    (h : ∀ v' w', Hid (Gath w0 w' v' (rs ++ [x])) → wpList Tryz.prog ops Q rest (a.put o.dst v') w') : wpList Tryz.prog ops Q (o :: rest) a (wr.alloc (.cells #[cv x] 24)) := by
  obtain ⟨i0, hi, hz0, hz1, hz2⟩ := info_parts c64_info
  have H := hg.out
  refine wpList_append_own _ hgd s y 25 ho w0.heap.size 24 i0 (.complex .f32 0 0) 1 8 Tryz.underlying25 hi hz0 hz1 hz2 rfl (by decide) _ _ _ hs (H.own.alloc _) ⟨wr.heap.size, 0, none⟩ 1 1 [cv x] hy rfl ?c1 ?c2 ?c3 ?c4 ?c5 ?_
  case c1 =>
    intro j u hj
    match j, hj with
    | 0, hj => simp at hj; subst hj; simp [Addr.add]
  case c2 => intro u hu; simp at hu; subst hu; rfl
  case c3 => unfold maxLen; omega
  case c4 => omega
  case c5 => have := H.below.size; simp; omega
  · intro v' w' hown' hgrow _
    refine h v' w' ⟨?_, ?_⟩
    · have e1 : (rs ++ [x]).length = rs.length + 1 := by simp
      have e2 : vs (rs ++ [x]) = vs rs ++ [cv x] := by unfold vs; simp
      rw [e1, e2]; exact hown'
    · refine (H.below.alloc H.below.size _).grown hgrow (by simp; have := H.below.size; omega) ?_
      intro k hk
      exact (H.own.lt k hk).1
theorem gath_below {w0 wr w2 : World} {v : Value} {rs : List (Nat × Nat)} (h : Gath w0 wr v rs) (hb : Below wr.heap.size wr w2) : Gath w0 w2 v rs :=
  ⟨h.own.kept (row := none) ⟨hb.os, hb.tape, hb.output, hb.size, fun k hk _ => hb.block k hk⟩ (by cases hv : v.ownBlock <;> simp), h.below.trans (Below.mono hb h.below.size)⟩
theorem Gath.after {w0 w1 wr : World} {v : Value} {rs : List (Nat × Nat)} (h : Gath w1 wr v rs) (hb : Below w0.heap.size w0 w1) : Gath w0 wr v rs := by
  refine ⟨?_, hb.trans (Below.mono h.below hb.size)⟩
  obtain ⟨A, c, rfl, ho⟩ := own_shape h.own
  exact ho.weaken hb.size
/-- A list, in new memory, and whether. -/
def RetLC (zs : List (Nat × Nat)) (b : Bool) (w : World) (e : Ending) (w' : World) : Prop :=
  ∃ rs A c, rs = (if b then zs else []) ∧ e = .returned (.tuple #[.slice A rs.length c, .bool b]) ∧ Own w' w.heap.size A c rs ∧ Below w.heap.size w w'
theorem RetLC.no {zs : List (Nat × Nat)} {w w' : World} (hb : Below w.heap.size w w') : RetLC zs false w (.returned (.tuple #[.slice none 0 0, .bool false])) w' :=
  ⟨[], none, 0, rfl, rfl, World.ownsRow_nil _ _ _ _, hb⟩
theorem Gath.retLC {w wr : World} {v : Value} {rs zs : List (Nat × Nat)} (h : Gath w wr v rs) (he : rs = zs) : RetLC zs true w (.returned (.tuple #[v, .bool true])) wr := by
  obtain ⟨A, c, rfl, ho⟩ := own_shape h.own
  exact ⟨rs, A, c, by simpa using he, rfl, ho, h.below⟩
/-- Gathered since w0, or since w1 if anything is. -/
def GI (w0 w1 wr : World) (v : Value) (rs : List (Nat × Nat)) : Prop := (rs = [] ∧ (∃ g0, v = .slice (some ⟨g0, 0, none⟩) 0 0) ∧ Gath w0 wr v [] ∧ Below w1.heap.size w1 wr) ∨ (rs ≠ [] ∧ Gath w1 wr v rs)
section
variable {w0 w1 wr w2 : World} {v : Value} {rs : List (Nat × Nat)}
theorem GI.below (h : GI w0 w1 wr v rs) : Below w1.heap.size w1 wr := by
  rcases h with ⟨_, _, _, h⟩ | ⟨_, h⟩
  · exact h
  · exact h.below
theorem GI.after (h : GI w0 w1 wr v rs) (hb : Below wr.heap.size wr w2) : GI w0 w1 w2 v rs := by
  rcases h with ⟨e, hv, hg, hb1⟩ | ⟨e, hg⟩
  · exact .inl ⟨e, hv, gath_below hg hb, hb1.trans (Below.mono hb hb1.size)⟩
  · exact .inr ⟨e, gath_below hg hb⟩
theorem GI.gath (h : GI w0 w1 wr v rs) (hb : Below w0.heap.size w0 w1) : Gath w0 wr v rs := by
  rcases h with ⟨rfl, _, hg, _⟩ | ⟨_, hg⟩
  · exact hg
  · exact hg.after hb
theorem GI.zero {g0 : Nat} (hg : Gath w0 w1 (.slice (some ⟨g0, 0, none⟩) 0 0) []) : GI w0 w1 w1 (.slice (some ⟨g0, 0, none⟩) 0 0) [] := .inl ⟨rfl, ⟨g0, rfl⟩, hg, Below.refl _ _⟩
end
theorem wpList_pushFirst {ops : Array Oper} {rest : List Oper} {o : Oper} {a : Act} {Q : Exit → Act → World → Prop} (w0 w1 wr : World) (x : (Nat × Nat)) (g0 : Nat) (hg : Gath w0 wr (.slice (some ⟨g0, 0, none⟩) 0 0) []) (hb : Below w1.heap.size w1 wr)
    (hgd : o.guard = none) (s y : Operand) (ho : o.op = .call { callee := .builtin .append, args := #[s, y], argTypes := #[25, 25] })
    (hs : a.eval s = .slice (some ⟨g0, 0, none⟩) 0 0) (hy : a.eval y = .slice (some ⟨wr.heap.size, 0, none⟩) 1 1)
    (h : ∀ v' w', Gath w1 w' v' [x] → wpList Tryz.prog ops Q rest (a.put o.dst v') w') : wpList Tryz.prog ops Q (o :: rest) a (wr.alloc (.cells #[cv x] 24)) := by
  obtain ⟨i0, hi, hz0, hz1, hz2⟩ := info_parts c64_info
  have hnews : ∀ (j : Nat) u, [cv x][j]? = some u → (wr.alloc (.cells #[cv x] 24)).cell? ((⟨wr.heap.size, 0, none⟩ : Addr).add j) = some u := by
    intro j u hj
    match j, hj with
    | 0, hj => simp at hj; subst hj; simp [Addr.add]
  have hsz := hg.below.size
  obtain ⟨v1, w2, hr, hown, hgrow, _⟩ := run_append_own (P := Tryz.prog) (wr.alloc (.cells #[cv x] 24)) w0.heap.size 25 o.type 24 i0 (.complex .f32 0 0) 1 8 Tryz.underlying25 hi hz0 hz1 hz2 rfl (by decide) _ 0 [] (hg.own.alloc _) ⟨wr.heap.size, 0, none⟩ 1 1 [cv x] rfl hnews
    (by intro u hu; simp at hu; subst hu; rfl) (by unfold maxLen; omega) (by omega) (by simp; omega)
  have hr2 := run_append_grow (P := Tryz.prog) (wr.alloc (.cells #[cv x] 24)) 25 o.type 24 i0 (.complex .f32 0 0) Tryz.underlying25 hi hz0 ⟨g0, 0, none⟩ 0 0 [] (by simp) (by intro j u hj; simp at hj) ⟨wr.heap.size, 0, none⟩ 1 1 [cv x] (by rw [hz1]; rfl) hnews (by omega) (by omega)
    (by rw [hz2]; exact growslice_fits (by omega) (by omega))
  rw [hr] at hr2
  simp only [Result.ok.injEq] at hr2
  obtain ⟨hv, hw⟩ := hr2
  have hb1 := hb.alloc hb.size (.cells #[cv x] 24)
  refine wpList_append_run _ hgd s y _ _ ho _ _ hs hy v1 w2 hr (h v1 w2 ⟨?_, ?_⟩)
  · refine ⟨hown.1, ?_⟩
    rcases hown.2 with ⟨e, _⟩ | ⟨g, cap, cur, e, _, rest⟩
    · rw [hv] at e; simp at e
    · refine .inr ⟨g, cap, cur, e, ?_, rest⟩
      rw [hv] at e
      simp at e
      have := hb.size
      omega
  · rw [hw]
    have hbd : Below w1.heap.size w1 (wr.alloc (.cells #[cv x] 24)).drew := ⟨hb1.os, hb1.tape, hb1.output, hb1.size, hb1.block⟩
    exact hbd.alloc hbd.size _
theorem wpList_pushI {ops : Array Oper} {rest : List Oper} {o : Oper} {a : Act} {Q : Exit → Act → World → Prop} (w0 w1 wr : World) (rs : List (Nat × Nat)) (x : (Nat × Nat)) (v : Value) (hg : Hid (GI w0 w1 wr v rs)) (hlen : rs.length ≤ 1099511627776)
    (hgd : o.guard = none) (s y : Operand) (ho : o.op = .call { callee := .builtin .append, args := #[s, y], argTypes := #[25, 25] })
    (hs : a.eval s = v) (hy : a.eval y = .slice (some ⟨wr.heap.size, 0, none⟩) 1 1)
    (h : ∀ v' w', Hid (GI w0 w1 w' v' (rs ++ [x])) → wpList Tryz.prog ops Q rest (a.put o.dst v') w') : wpList Tryz.prog ops Q (o :: rest) a (wr.alloc (.cells #[cv x] 24)) := by
  rcases hg.out with ⟨rfl, ⟨g0, rfl⟩, hg1, hb⟩ | ⟨hne, hg1⟩
  · exact wpList_pushFirst w0 w1 wr x g0 hg1 hb hgd s y ho hs hy fun v' w' hG => h v' w' (Lib.hid (.inr ⟨by simp, hG⟩))
  · exact wpList_push w1 wr rs x v (Lib.hid hg1) hlen hgd s y ho hs hy fun v' w' hG => h v' w' (Lib.hid (.inr ⟨by simp, hG.out⟩))
theorem mid_drew {w wr : World} {base : Nat} {A : Option Addr} {c : Nat} {rs : List (Nat × Nat)} {K : Int} {j : Nat} (n : Nat) (h : MarkMid w base A c rs K j wr) : MarkMid w base A c rs K j (wr.drewN n) :=
  ⟨h.1, ⟨h.2.os, h.2.tape, h.2.output, h.2.size, h.2.block⟩⟩
theorem m1_fl {K : Int} {j : Nat} (h : ((j : Int) + K).natAbs ≤ 2048) : fl .f32 (m1 K j) = some (m1 K j) := by
  have hb : Bd 127 (some (fi ((j : Int) + K))) := (bd_fi h).mono (by omega)
  unfold m1 fconv
  simp only [Option.map_some, Option.getD_some]
  have e : (Ieee.double.read (floatOfInt .f64 ((j : Int) + K))).isNaN = false := (fl_some (fl_int _)).2
  exact fl_num (write_not_nan _ (binade_le .f32) _ e)
section step
variable {P : Program} {ops : Array Oper} {o : Oper} {a : Act} {w : World} {K : Act → World → Prop} {Q : Exit → Act → World → Prop}
theorem upon_cconv (src dst : TypeId) (s k : FloatKind) (hsk : s ≠ k) (u v : Nat) (hs : (P.underlying src).isSome = true) (hd : P.underlying dst = some (.complex k))
    (h : ∀ r1 r2 n, FC s k (fl s u) r1 → FC s k (fl s v) r2 → K (a.put o.dst (.complex k r1 r2)) (w.drewN n)) : Oper.upon P o a K Q (((convert src dst (.complex s u v)).run P w).andThen fun v w' => .ok (.value v) w') := by
  obtain ⟨r1, r2, n, hr, h1, h2⟩ := run_cconv (P := P) w src dst s k hsk u v hs hd
  rw [hr]
  exact h r1 r2 n h1 h2
end step
def Yes (w : World) (e : Ending) (w' : World) : Prop := ∃ n, e = .returned (.bool true) ∧ w' = w.drewN n
end Go.Proofs.YtkfhgjknmdlhbaaGreatDoor.Ej
