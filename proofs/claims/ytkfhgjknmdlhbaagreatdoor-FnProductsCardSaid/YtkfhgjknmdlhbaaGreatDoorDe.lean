/- The walks: ListText: texts gathered and joined. -/
import Derived.Test.YtkfhgjknmdlhbaaGreatDoorDd
namespace Go.Proofs.YtkfhgjknmdlhbaaGreatDoor.De
open Go Go.RowKit Go.Lib Da Dc Dd
set_option linter.unusedVariables false
theorem str_info : (Tryz.prog.info? 9).map (fun i => (i.zero, i.size, i.bytes)) = some (some (.string ⟨#[]⟩), 1, 16) := by kernel_rfl
def strs (ls : List (List UInt8)) : List Value := ls.map fun l => Value.string ⟨l.toArray⟩
theorem strs_len (ls : List (List UInt8)) : (strs ls).length = ls.length := by simp [strs]
/-- v holds the texts ls in memory that is new since w0. -/
structure GathT (w0 wr : World) (v : Value) (ls : List (List UInt8)) : Prop where
  own : wr.ownsRow w0.heap.size 9 1 v ls.length (strs ls)
  below : Below w0.heap.size w0 wr
theorem GathT.empty (w : World) : GathT w (w.alloc (.cells #[] 9)) (.slice (some ⟨w.heap.size, 0, none⟩) 0 0) [] :=
  ⟨World.ownsRow_made w #[] 0 (Nat.le_refl _) (by unfold maxLen; omega) rfl, (Below.refl _ _).alloc (Nat.le_refl _) _⟩
/-- 'append(texts, s)'. -/
theorem wpList_pushS {ops : Array Oper} {rest : List Oper} {o : Oper} {a : Act} {Q : Exit → Act → World → Prop} (w0 wr : World) (ls : List (List UInt8)) (l : List UInt8) (a_v : Value) (hg : Hid (GathT w0 wr a_v ls)) (hlen : ls.length ≤ 1099511627776)
    (hgd : o.guard = none) (s y : Operand) (ho : o.op = .call { callee := .builtin .append, args := #[s, y], argTypes := #[69, 69] })
    (hs : a.eval s = a_v) (hy : a.eval y = .slice (some ⟨wr.heap.size, 0, none⟩) 1 1)
    (h : ∀ v' w', Hid (GathT w0 w' v' (ls ++ [l])) → wpList Tryz.prog ops Q rest (a.put o.dst v') w') : wpList Tryz.prog ops Q (o :: rest) a (wr.alloc (.cells #[.string ⟨l.toArray⟩] 9)) := by
  obtain ⟨i0, hi, hz0, hz1, hz2⟩ := info_parts str_info
  have H := hg.out
  refine wpList_append_own _ hgd s y 69 ho w0.heap.size 9 i0 (.string ⟨#[]⟩) 1 16 Tryz.underlying69 hi hz0 hz1 hz2 rfl (by decide) _ _ _ hs (H.own.alloc _) ⟨wr.heap.size, 0, none⟩ 1 1 [.string ⟨l.toArray⟩] hy rfl ?c1 ?c2 ?c3 ?c4 ?c5 ?_
  case c1 =>
    intro j u hj
    match j, hj with
    | 0, hj => simp at hj; subst hj; simp [Addr.add]
  case c2 => intro u hu; simp at hu; subst hu; rfl
  case c3 => unfold maxLen; omega
  case c4 => omega
  case c5 => have := H.below.size; simp; omega
  · intro v' w' hown' hgrow _
    refine h v' w' ⟨?_, ?_⟩
    · have e1 : (ls ++ [l]).length = ls.length + 1 := by simp
      have e2 : strs (ls ++ [l]) = strs ls ++ [.string ⟨l.toArray⟩] := by unfold strs; simp
      rw [e1, e2]; exact hown'
    · refine (H.below.alloc H.below.size _).grown hgrow (by simp; have := H.below.size; omega) ?_
      intro k hk
      exact (H.own.lt k hk).1
theorem gathT_shape {w0 wr : World} {v : Value} {ls : List (List UInt8)} (h : GathT w0 wr v ls) : ∃ A c, v = .slice A ls.length c ∧ GathT w0 wr (.slice A ls.length c) ls := by
  rcases h.own.2 with ⟨rfl, hn⟩ | ⟨g, cap, cur, rfl, _⟩
  · have : ls = [] := List.eq_nil_of_length_eq_zero hn
    subst this
    exact ⟨none, 0, rfl, h⟩
  · exact ⟨_, _, rfl, h⟩
/-- Texts with commas between them. -/
def joinedV (ls : List (List UInt8)) : List UInt8 := if ls = [] then [110, 111, 110, 101] else join ls [44]
theorem map_back (ls : List (List UInt8)) : (ls.map fun l => (⟨l.toArray⟩ : ByteArray)).map (·.data.toList) = ls := by
  rw [List.map_map]
  conv => rhs; rw [← List.map_id ls]
  congr 1
theorem impl_joined (ls : List (List UInt8)) (A : Option Addr) (c : Nat) (w0 w : World) (hg : GathT w0 w (.slice A ls.length c) ls) (hl : ls.length ≤ 1048576) (hlen : (join ls [44]).length ≤ 1099511627776) :
    Calls Tryz.prog 48 #[.slice A ls.length c] w (RetS (joinedV ls) w) := by
  by_cases he : ls = []
  · subst he
    clear hg
    go_enter Tryz.func48, Tryz.ntmps48
    go_wp2
    go_ret
    exact ⟨rfl, Below.refl _ _⟩
  · have hne : 0 < ls.length := List.length_pos_iff.2 he
    have HJ := Lib.hid (show joinedV ls = join ls [44] by unfold joinedV; rw [if_neg he])
    have hl0 : ¬ (ls.length : Int) = 0 := by omega
    have hlb : ((ls.length : Int) == 0) = false := by simpa using hl0
    have HG := Lib.hid hg
    have hlt := hg.own.lt
    obtain ⟨g, rfl, hcap⟩ : ∃ g, A = some ⟨g, 0, none⟩ ∧ ls.length ≤ c := by
      rcases hg.own.2 with ⟨hv, hn⟩ | ⟨g, cap, cur, hv, _, _, hc, _⟩
      · omega
      · simp at hv
        exact ⟨g, hv.1, by omega⟩
    have hgb := (hlt g rfl).2
    have hcells : ∀ (j : Nat) (x : ByteArray), (ls.map fun l => (⟨l.toArray⟩ : ByteArray))[j]? = some x → w.cell? ⟨g, 0 + j, none⟩ = some (.string x) := by
      intro j x hj
      have h1 := hg.own.cells (g := g) rfl j (.string x) (by
        unfold strs
        rw [List.getElem?_map] at hj ⊢
        cases h : ls[j]? with
        | none => rw [h] at hj; cases hj
        | some l => rw [h] at hj; cases hj; rfl)
      have e : (⟨g, 0, none⟩ : Addr).add j = ⟨g, 0 + j, none⟩ := by rw [add_at, Nat.zero_add]
      rw [e] at h1
      exact h1
    have hjoin := Tryz.strings_Join g 0 c (ls.map fun l => (⟨l.toArray⟩ : ByteArray)) ⟨#[44]⟩ w hcells hgb (by rw [List.length_map]; omega) (by rw [List.length_map]; exact hcap) (by rw [map_back]; show (join ls [44]).length ≤ _; omega)
    rw [map_back, List.length_map] at hjoin
    have HC := Lib.hid hjoin
    clear he hg hlt hcells hjoin
    go_enter Tryz.func48, Tryz.ntmps48
    go_wp2_with fail
    refine HC.out.mono ?_
    rintro e w' ⟨rfl, hb⟩
    have HB := Lib.hid hb
    clear hb
    go_wp2
    go_ret
    exact ⟨by rw [HJ.out]; rfl, HB.out⟩
theorem text_joined (zs : List Int) : joinedV (zs.map itoa) = textV zs := by
  unfold joinedV textV joinT
  cases zs <;> simp
def TextR (zs : List Int) (w : World) (j : Nat) (v : Value) (wr : World) : Prop := ∃ ls, ls = (zs.take j).map itoa ∧ GathT w wr v ls
theorem gathT_below {w0 wr w2 : World} {v : Value} {ls : List (List UInt8)} (h : GathT w0 wr v ls) (hb : Below wr.heap.size wr w2) : GathT w0 w2 v ls :=
  ⟨h.own.kept (row := none) ⟨hb.os, hb.tape, hb.output, hb.size, fun k hk _ => hb.block k hk⟩ (by cases hv : v.ownBlock <;> simp), h.below.trans (Below.mono hb h.below.size)⟩
theorem RetS.after {l : List UInt8} {w w1 : World} {e : Ending} {w' : World} (h : RetS l w1 e w') (hb : Below w.heap.size w w1) : RetS l w e w' := ⟨h.1, hb.trans (Below.mono h.2 hb.size)⟩
/-- A text and whether. -/
def pickS (b : Bool) (l : List UInt8) : ByteArray := if b then ⟨l.toArray⟩ else ⟨#[]⟩
def RetSB (l : List UInt8) (b : Bool) (w : World) (e : Ending) (w' : World) : Prop := e = .returned (.tuple #[.string (pickS b l), .bool b]) ∧ Below w.heap.size w w'
theorem list_64 {zs : List Int} (h : listB zs = true) : zs.length ≤ 64 := by
  unfold listB at h
  simp only [Bool.and_eq_true, decide_eq_true_eq] at h
  omega
end Go.Proofs.YtkfhgjknmdlhbaaGreatDoor.De