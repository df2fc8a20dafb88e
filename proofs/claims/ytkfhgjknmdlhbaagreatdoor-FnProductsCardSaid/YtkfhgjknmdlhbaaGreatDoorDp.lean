/- The walks: ReadList. -/
import Derived.Lib.AppendZeros
import Derived.Test.YtkfhgjknmdlhbaaGreatDoorDn
namespace Go.Proofs.YtkfhgjknmdlhbaaGreatDoor.Dp
open Go Go.RowKit Go.Lib Da Dc Dd De Di Dj Dl Dm Dn
set_option linter.unusedVariables false
/-- Gathered since w0, or since w1 if anything is. -/
def GI (w0 w1 wr : World) (v : Value) (rs : List Int) : Prop := (rs = [] ∧ (∃ g0, v = .slice (some ⟨g0, 0, none⟩) 0 0) ∧ Gath w0 wr v [] ∧ Below w1.heap.size w1 wr) ∨ (rs ≠ [] ∧ Gath w1 wr v rs)
section
variable {w0 w1 wr w2 : World} {v : Value} {rs : List Int}
theorem GI.below (h : GI w0 w1 wr v rs) : Below w1.heap.size w1 wr := by
  rcases h with ⟨_, _, _, h⟩ | ⟨_, h⟩
  · exact h
  · exact h.below
theorem GI.after (h : GI w0 w1 wr v rs) (hb : Below wr.heap.size wr w2) : GI w0 w1 w2 v rs := by
  rcases h with ⟨e, hv, hg, hb1⟩ | ⟨e, hg⟩
  · exact .inl ⟨e, hv, gath_below hg hb, hb1.trans (Below.mono hb hb1.size)⟩
  · exact .inr ⟨e, gath_below hg hb⟩
theorem GI.gath (h : GI w0 w1 wr v rs) (hb : Below w0.heap.size w0 w1) : Gath w0 wr v rs := by
  rcases h with ⟨rfl, _, hg, _⟩ | ⟨_, hg⟩
  · exact hg
  · exact hg.after hb
theorem GI.zero {g0 : Nat} (hg : Gath w0 w1 (.slice (some ⟨g0, 0, none⟩) 0 0) []) : GI w0 w1 w1 (.slice (some ⟨g0, 0, none⟩) 0 0) [] := .inl ⟨rfl, ⟨g0, rfl⟩, hg, Below.refl _ _⟩
end
theorem wpList_pushFirst {ops : Array Oper} {rest : List Oper} {o : Oper} {a : Act} {Q : Exit → Act → World → Prop} (w0 w1 wr : World) (x : Int) (g0 : Nat) (hg : Gath w0 wr (.slice (some ⟨g0, 0, none⟩) 0 0) []) (hb : Below w1.heap.size w1 wr)
    (hgd : o.guard = none) (s y : Operand) (ho : o.op = .call { callee := .builtin .append, args := #[s, y], argTypes := #[98, 98] })
    (hs : a.eval s = .slice (some ⟨g0, 0, none⟩) 0 0) (hy : a.eval y = .slice (some ⟨wr.heap.size, 0, none⟩) 1 1)
    (h : ∀ v' w', Gath w1 w' v' [x] → wpList Tryz.prog ops Q rest (a.put o.dst v') w') : wpList Tryz.prog ops Q (o :: rest) a (wr.alloc (.cells #[.int .i64 x] 2)) := by
  obtain ⟨i0, hi, hz0, hz1, hz2⟩ := info_parts i64_info
  have hnews : ∀ (j : Nat) u, [.int .i64 x][j]? = some u → (wr.alloc (.cells #[.int .i64 x] 2)).cell? ((⟨wr.heap.size, 0, none⟩ : Addr).add j) = some u := by
    intro j u hj
    match j, hj with
    | 0, hj => simp at hj; subst hj; simp [Addr.add]
  have hsz := hg.below.size
  obtain ⟨v1, w2, hr, hown, hgrow, _⟩ := run_append_own (P := Tryz.prog) (wr.alloc (.cells #[.int .i64 x] 2)) w0.heap.size 98 o.type 2 i0 (.int .i64 0) 1 8 Tryz.underlying98 hi hz0 hz1 hz2 rfl (by decide) _ 0 [] (hg.own.alloc _) ⟨wr.heap.size, 0, none⟩ 1 1 [.int .i64 x] rfl hnews
    (by intro u hu; simp at hu; subst hu; rfl) (by unfold maxLen; omega) (by omega) (by simp; omega)
  have hr2 := run_append_grow (P := Tryz.prog) (wr.alloc (.cells #[.int .i64 x] 2)) 98 o.type 2 i0 (.int .i64 0) Tryz.underlying98 hi hz0 ⟨g0, 0, none⟩ 0 0 [] (by simp) (by intro j u hj; simp at hj) ⟨wr.heap.size, 0, none⟩ 1 1 [.int .i64 x] (by rw [hz1]; rfl) hnews (by omega) (by omega)
    (by rw [hz2]; exact growslice_fits (by omega) (by omega))
  rw [hr] at hr2
  simp only [Result.ok.injEq] at hr2
  obtain ⟨hv, hw⟩ := hr2
  have hb1 := hb.alloc hb.size (.cells #[.int .i64 x] 2)
  refine wpList_append_run _ hgd s y _ _ ho _ _ hs hy v1 w2 hr (h v1 w2 ⟨?_, ?_⟩)
  · refine ⟨hown.1, ?_⟩
    rcases hown.2 with ⟨e, _⟩ | ⟨g, cap, cur, e, _, rest⟩
    · rw [hv] at e; simp at e
    · refine .inr ⟨g, cap, cur, e, ?_, rest⟩
      rw [hv] at e
      simp at e
      have := hb.size
      omega
  · rw [hw]
    have hbd : Below w1.heap.size w1 (wr.alloc (.cells #[.int .i64 x] 2)).drew := ⟨hb1.os, hb1.tape, hb1.output, hb1.size, hb1.block⟩
    exact hbd.alloc hbd.size _
theorem wpList_pushI {ops : Array Oper} {rest : List Oper} {o : Oper} {a : Act} {Q : Exit → Act → World → Prop} (w0 w1 wr : World) (rs : List Int) (x : Int) (v : Value) (hg : Hid (GI w0 w1 wr v rs)) (hlen : rs.length ≤ 1099511627776)
    (hgd : o.guard = none) (s y : Operand) (ho : o.op = .call { callee := .builtin .append, args := #[s, y], argTypes := #[98, 98] })
    (hs : a.eval s = v) (hy : a.eval y = .slice (some ⟨wr.heap.size, 0, none⟩) 1 1)
    (h : ∀ v' w', Hid (GI w0 w1 w' v' (rs ++ [x])) → wpList Tryz.prog ops Q rest (a.put o.dst v') w') : wpList Tryz.prog ops Q (o :: rest) a (wr.alloc (.cells #[.int .i64 x] 2)) := by
  rcases hg.out with ⟨rfl, ⟨g0, rfl⟩, hg1, hb⟩ | ⟨hne, hg1⟩
  · exact wpList_pushFirst w0 w1 wr x g0 hg1 hb hgd s y ho hs hy fun v' w' hG => h v' w' (Lib.hid (.inr ⟨by simp, hG⟩))
  · exact wpList_push w1 wr rs x v (Lib.hid hg1) hlen hgd s y ho hs hy fun v' w' hG => h v' w' (Lib.hid (.inr ⟨by simp, hG.out⟩))

theorem cutF_mem {l p : List UInt8} (h : p ∈ cutF l) : p.length ≤ l.length := by
  have key : ∀ (l : List UInt8) (D : List (List UInt8)) (c : List UInt8) (n : Nat), (∀ p ∈ D, p.length ≤ n) → c.length + l.length ≤ n → ∀ p ∈ (l.foldl cstep (D, c)).1 ++ [(l.foldl cstep (D, c)).2], p.length ≤ n := by
    intro l
    induction l with
    | nil =>
      intro D c n hD hc p hp
      rw [List.foldl_nil, List.mem_append, List.mem_singleton] at hp
      rcases hp with hp | rfl
      · exact hD p hp
      · simpa using hc
    | cons x l ih =>
      intro D c n hD hc p hp
      rw [List.length_cons] at hc
      by_cases h : x = 44
      · rw [List.foldl_cons, show cstep (D, c) x = (D ++ [c], []) by unfold cstep; rw [if_pos h]] at hp
        refine ih (D ++ [c]) [] n ?_ (by simp; omega) p hp
        intro q hq
        rw [List.mem_append, List.mem_singleton] at hq
        rcases hq with hq | rfl
        · exact hD q hq
        · omega
      · rw [List.foldl_cons, show cstep (D, c) x = (D, c ++ [x]) by unfold cstep; rw [if_neg h]] at hp
        exact ih D (c ++ [x]) n hD (by simp; omega) p hp
  exact key l [] [] l.length (by simp) (by simp) p h
/-- The numbers of a list with a text, and whether. -/
def numsV (l : List UInt8) : List Int := (piecesV l).map specN
def numsB (l : List UInt8) : Bool := decide ((piecesV l).length ≤ 64) && (piecesV l).all readB
theorem numsB_long {l : List UInt8} (h : ¬ (piecesV l).length ≤ 64) : numsB l = false := by unfold numsB; rw [decide_eq_false h]; rfl
theorem all_no {P : List (List UInt8)} {j : Nat} (hj : j < P.length) (hr : readB P[j] = false) : P.all readB = false := by
  rw [List.all_eq_false]
  exact ⟨P[j], List.getElem_mem hj, by simp [hr]⟩
theorem take_map {P : List (List UInt8)} {j : Nat} (hj : j < P.length) : (P.take j).map specN ++ [specN P[j]] = (P.take (j + 1)).map specN := by
  rw [List.take_succ_eq_append_getElem hj, List.map_append]; rfl
theorem all_step {P : List (List UInt8)} {j : Nat} (hj : j < P.length) (h : (P.take j).all readB = true) (hr : readB P[j] = true) : (P.take (j + 1)).all readB = true := by
  rw [List.take_succ_eq_append_getElem hj, List.all_append, h]; simp [hr]

theorem numsB_fail {P : List (List UInt8)} {l : List UInt8} {w w' : World} (h : P.all readB = false) (hP : P = piecesV l) (hb : Below w.heap.size w w') : RetLI (numsV l) (numsB l) w (.returned (.tuple #[.slice none 0 0, .bool false])) w' := by
  have e : numsB l = false := by unfold numsB; rw [← hP, h, Bool.and_false]
  rw [e]; exact RetLI.no hb
theorem nums_ok {P : List (List UInt8)} {l : List UInt8} {zs : List Int} {w w' : World} {v : Value} (h1 : zs = P.map specN) (h2 : P.all readB = true) (hP : P = piecesV l) (h64 : P.length ≤ 64) (hg : Gath w w' v zs) :
    RetLI (numsV l) (numsB l) w (.returned (.tuple #[v, .bool true])) w' := by
  have e : numsB l = true := by unfold numsB; rw [← hP, h2, decide_eq_true h64]; rfl
  have e2 : zs = numsV l := by unfold numsV; rw [h1, hP]
  rw [e]; exact hg.retLI e2
/-- As ReadList, any number of pieces. -/
def RetAny (l : List UInt8) (w : World) (e : Ending) (w' : World) : Prop := RetLI (numsV l) ((piecesV l).all readB) w e w'
theorem RetAny.no {P : List (List UInt8)} {l : List UInt8} {w w' : World} (h : P.all readB = false) (hP : P = piecesV l) (hb : Below w.heap.size w w') : RetAny l w (.returned (.tuple #[.slice none 0 0, .bool false])) w' := by
  unfold RetAny
  rw [← hP, h]; exact RetLI.no hb
theorem RetAny.yes {P : List (List UInt8)} {l : List UInt8} {zs : List Int} {w w' : World} {v : Value} (h1 : zs = P.map specN) (h2 : P.all readB = true) (hP : P = piecesV l) (hg : Gath w w' v zs) :
    RetAny l w (.returned (.tuple #[v, .bool true])) w' := by
  unfold RetAny
  rw [← hP, h2]
  exact hg.retLI (by unfold numsV; rw [h1, hP])
theorem pieces_mem {s : ByteArray} {p : List UInt8} (h : p ∈ piecesV s.data.toList) : p.length ≤ s.size := by
  unfold piecesV at h
  split at h
  · simp at h
  · exact cutF_mem h
theorem pieces_len (s : ByteArray) : (piecesV s.data.toList).length ≤ s.size + 1 := by
  unfold piecesV
  split
  · simp
  · exact cutF_len _
theorem short_any {l : List UInt8} {rs : List Int} (h : rs = if (piecesV l).all readB then numsV l else []) (ha : (piecesV l).all readB = true) : rs.length = (piecesV l).length := by
  rw [ha] at h
  rw [h]
  unfold numsV
  simp
end Go.Proofs.YtkfhgjknmdlhbaaGreatDoor.Dp