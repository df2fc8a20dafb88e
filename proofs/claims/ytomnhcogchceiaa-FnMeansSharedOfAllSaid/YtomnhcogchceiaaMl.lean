/- The walks: a list gathered by append in the call's own memory; lists that are handed on if finite. -/
import Derived.Test.YtomnhcogchceiaaMk
namespace Go.Proofs.Ytomnhcogchceiaa.Ml
open Go Go.RowKit Fl WA WB Md Me Mf Mi Mj Mk
set_option linter.unusedVariables false
/-- v holds the words rs in memory that is new since w0. -/
structure Gath (w0 wr : World) (v : Value) (rs : List Nat) : Prop where
  own : wr.ownsRow w0.heap.size 29 1 v rs.length (vs rs)
  below : Below w0.heap.size w0 wr
theorem Gath.drewN {w0 wr : World} {v : Value} {rs : List Nat} (h : Gath w0 wr v rs) (n : Nat) : Gath w0 (wr.drewN n) v rs := ⟨h.own, ⟨h.below.os, h.below.tape, h.below.output, h.below.size, h.below.block⟩⟩
theorem Gath.empty (w : World) : Gath w (w.alloc (.cells #[] 29)) (.slice (some ⟨w.heap.size, 0, none⟩) 0 0) [] :=
  ⟨World.ownsRow_made w #[] 0 (Nat.le_refl _) (by unfold maxLen; omega) rfl, (Below.refl _ _).alloc (Nat.le_refl _) _⟩
theorem gath_empty {w : World} (n : Nat) : Gath w ((w.drewN n).alloc (.cells #[] 29)) (.slice (some ⟨w.heap.size, 0, none⟩) 0 0) [] :=
  ⟨World.ownsRow_made (w.drewN n) #[] 0 (Nat.le_refl _) (by unfold maxLen; omega) rfl, ⟨rfl, rfl, rfl, (Gath.empty w).below.size, (Gath.empty w).below.block⟩⟩
theorem Gath.rd {w0 wr : World} {v : Value} {rs : List Nat} {A : Option Addr} {xs : List Nat} (h : Gath w0 wr v rs) (hx : Rd w0 w0.heap.size A xs) : Rd wr w0.heap.size A xs := hx.below h.below
/-- 'append(out, x)', x ONE NUMBER. -/
theorem wpList_push {ops : Array Oper} {rest : List Oper} {o : Oper} {a : Act} {Q : Exit → Act → World → Prop} (w0 wr : World) (rs : List Nat) (x : Nat) (a_v : Value) (hg : Hid (Gath w0 wr a_v rs)) (hlen : rs.length ≤ 1099511627776)
    (hgd : o.guard = none) (s y : Operand) (ho : o.op = .call { callee := .builtin .append, args := #[s, y], argTypes := #[23, 23] })
    (hs : a.eval s = a_v) (hy : a.eval y = .slice (some ⟨wr.heap.size, 0, none⟩) 1 1)
    (h : ∀ v' w', Hid (Gath w0 w' v' (rs ++ [x])) → wpList Try.prog ops Q rest (a.put o.dst v') w') : wpList Try.prog ops Q (o :: rest) a (wr.alloc (.cells #[.float .f32 x] 29)) := by
  obtain ⟨i0, hi, hz0, hz1, hz2⟩ := info_parts f32_info
  have H := hg.out
  refine wpList_append_own _ hgd s y 23 ho w0.heap.size 29 i0 (.float .f32 0) 1 4 Try.underlying23 hi hz0 hz1 hz2 rfl (by decide) _ _ _ hs (H.own.alloc _) ⟨wr.heap.size, 0, none⟩ 1 1 [.float .f32 x] hy rfl ?c1 ?c2 ?c3 ?c4 ?c5 ?_
  case c1 =>
    intro j u hj
    match j, hj with
    | 0, hj => simp at hj; subst hj; simp [Addr.add]
  case c2 => intro u hu; simp at hu; subst hu; rfl
  case c3 => unfold maxLen; omega
  case c4 => omega
  case c5 => have := H.below.size; simp; omega
  · intro v' w' hown' hgrow _
    refine h v' w' ⟨?_, ?_⟩
    · have e1 : (rs ++ [x]).length = rs.length + 1 := by simp
      have e2 : vs (rs ++ [x]) = vs rs ++ [.float .f32 x] := by unfold vs; simp
      rw [e1, e2]; exact hown'
    · refine (H.below.alloc H.below.size _).grown hgrow (by simp; have := H.below.size; omega) ?_
      intro k hk
      exact (H.own.lt k hk).1
/-- A list, in new memory. -/
def RetV (O : List (Option Nat)) (w : World) (e : Ending) (w' : World) : Prop :=
  ∃ rs A c, rs.map (fl .f32) = O ∧ e = .returned (.slice A rs.length c) ∧ Own w' w.heap.size A c rs ∧ Below w.heap.size w w'
/-- A list, in new memory, and whether. -/
def RetL (O : List (Option Nat)) (b : Bool) (w : World) (e : Ending) (w' : World) : Prop :=
  ∃ rs A c, rs.map (fl .f32) = (if b then O else []) ∧ e = .returned (.tuple #[.slice A rs.length c, .bool b]) ∧ Own w' w.heap.size A c rs ∧ Below w.heap.size w w'
theorem RetL.no {O : List (Option Nat)} {w : World} (n : Nat) : RetL O false w (.returned (.tuple #[.slice none 0 0, .bool false])) (w.drewN n) :=
  ⟨[], none, 0, rfl, rfl, World.ownsRow_nil _ _ _ _, ⟨rfl, rfl, rfl, Nat.le_refl _, fun _ _ => rfl⟩⟩
theorem Gath.retV {w wr : World} {v : Value} {rs : List Nat} {O : List (Option Nat)} (h : Gath w wr v rs) (he : rs.map (fl .f32) = O) : RetV O w (.returned v) wr := by
  obtain ⟨A, c, rfl, ho⟩ := own_shape h.own
  exact ⟨rs, A, c, he, rfl, ho, h.below⟩
theorem Gath.retL {w wr : World} {v : Value} {rs : List Nat} {O : List (Option Nat)} (h : Gath w wr v rs) (he : rs.map (fl .f32) = O) : RetL O true w (.returned (.tuple #[v, .bool true])) wr := by
  obtain ⟨A, c, rfl, ho⟩ := own_shape h.own
  exact ⟨rs, A, c, by simpa using he, rfl, ho, h.below⟩
def RetH (rs : List Nat) (A : Option Addr) (c : Nat) (b : Bool) (w : World) (e : Ending) (w' : World) : Prop := ∃ n v, v = (if b then Value.slice A rs.length c else .slice none 0 0) ∧ e = .returned (.tuple #[v, .bool b]) ∧ w' = w.drewN n
def RetQ (b : Bool) (w : World) (e : Ending) (w' : World) : Prop := e = .returned (.bool b) ∧ w' = w
/-- Are all finite? -/
def allO (O : List (Option Nat)) : Bool := O.all finO
theorem allF_o {rs : List Nat} {O : List (Option Nat)} (h : rs.map (fl .f32) = O) : allF rs = allO O := by
  subst h
  unfold allF allO
  rw [List.all_map]; rfl

/-- What a finite list's handing on leaves. -/
theorem handed {w wr : World} {rs : List Nat} {A : Option Addr} {c : Nat} {O : List (Option Nat)} (he : rs.map (fl .f32) = O) (ho : Own wr w.heap.size A c rs) (hb : Below w.heap.size w wr) (n : Nat) {v : Value} (hv : v = (if allF rs then Value.slice A rs.length c else .slice none 0 0)) :
    RetL O (allO O) w (.returned (.tuple #[v, .bool (allF rs)])) (wr.drewN n) := by
  subst hv
  rw [allF_o he]
  cases hb' : allO O
  · exact ⟨[], none, 0, rfl, rfl, World.ownsRow_nil _ _ _ _, hb.os, hb.tape, hb.output, hb.size, hb.block⟩
  · exact ⟨rs, A, c, by simpa using he, rfl, ho, hb.os, hb.tape, hb.output, hb.size, hb.block⟩

/-- Is it a series, and n a period for it? -/
def perB (xs : List Nat) (n : Int) : Bool := serB xs && (decide (1 ≤ n) && decide (n ≤ xs.length))

theorem impl_within (a b c : Int) (w : World) : Calls Try.prog 12 #[.int .i64 a, .int .i64 b, .int .i64 c] w (RetQ (decide (b ≤ a) && decide (a ≤ c)) w) := by
  generalize hB : (decide (b ≤ a) && decide (a ≤ c)) = t
  have HB := Lib.hid hB
  clear hB
  by_cases h1 : b ≤ a
  · by_cases h2 : a ≤ c
    · have hb := Lib.hid (show true = t by rw [← HB.out, decide_eq_true h1, decide_eq_true h2]; rfl)
      go_enter Try.func12, Try.ntmps12
      go_wp2
      go_ret
      exact ⟨ret_bool hb.out, rfl⟩
    · have hb := Lib.hid (show false = t by rw [← HB.out, decide_eq_false h2]; simp)
      go_enter Try.func12, Try.ntmps12
      go_wp2
      go_ret
      exact ⟨ret_bool hb.out, rfl⟩
  · have hb := Lib.hid (show false = t by rw [← HB.out, decide_eq_false h1]; rfl)
    go_enter Try.func12, Try.ntmps12
    go_wp2
    go_ret
    exact ⟨ret_bool hb.out, rfl⟩

theorem spec_l00In (a b c : Int) (w : World) : Calls Try.prog 9 #[.int .i64 a, .int .i64 b, .int .i64 c] w (RetQ (decide (b ≤ a) && decide (a ≤ c)) w) := by
  generalize hB : (decide (b ≤ a) && decide (a ≤ c)) = t
  have HB := Lib.hid hB
  clear hB
  by_cases h1 : b ≤ a
  · by_cases h2 : a ≤ c
    · have hb := Lib.hid (show true = t by rw [← HB.out, decide_eq_true h1, decide_eq_true h2]; rfl)
      go_enter Try.func9, Try.ntmps9
      go_wp2
      go_ret
      exact ⟨ret_bool hb.out, rfl⟩
    · have hb := Lib.hid (show false = t by rw [← HB.out, decide_eq_false h2]; simp)
      go_enter Try.func9, Try.ntmps9
      go_wp2
      go_ret
      exact ⟨ret_bool hb.out, rfl⟩
  · have hb := Lib.hid (show false = t by rw [← HB.out, decide_eq_false h1]; rfl)
    go_enter Try.func9, Try.ntmps9
    go_wp2
    go_ret
    exact ⟨ret_bool hb.out, rfl⟩

theorem undg {n : Nat} {w w' : World} {r : Option Nat} (h : (w.drewN n).grownBy w' r) : w.grownBy w' r := ⟨h.os, h.tape, h.output, h.size, h.block⟩
theorem flip_ap {A B : Option Addr} (h : A = none ∨ B = none ∨ blk A ≠ blk B) : B = none ∨ A = none ∨ blk B ≠ blk A := by
  rcases h with h | h | h
  · exact .inr (.inl h)
  · exact .inl h
  · exact .inr (.inr (Ne.symm h))
theorem und' {B n : Nat} {w w' : World} (h : Below B (w.drewN n) w') : Below B w w' := ⟨h.os, h.tape, h.output, h.size, h.block⟩
theorem upd' {B n : Nat} {a w : World} (h : Below B a w) : Below B a (w.drewN n) := ⟨h.os, h.tape, h.output, h.size, h.block⟩

end Go.Proofs.Ytomnhcogchceiaa.Ml