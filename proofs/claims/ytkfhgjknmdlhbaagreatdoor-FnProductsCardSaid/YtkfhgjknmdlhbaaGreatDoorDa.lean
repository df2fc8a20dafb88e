/- The walks: the reference's decimal text. -/
import Derived.WalkKit
import Derived.OwnWalk
import Derived.IntWalk
import Derived.Laws.IdiomStrings
import Derived.Lib.ItoaNum
import Derived.Lib.UnsafeStr
import Derived.Lib.Hide
import Derived.Test.YtkfhgjknmdlhbaaGreatDoorProg
namespace Go.Proofs.YtkfhgjknmdlhbaaGreatDoor.Da
open Go Go.RowKit Go.Lib
set_option linter.unusedVariables false
theorem u8_info : (Tryz.prog.info? 5).map (fun i => (i.zero, i.size, i.bytes)) = some (some (.int .u8 0), 1, 1) := by kernel_rfl
/-- v holds the bytes l in memory that is new since w0. -/
structure GathB (w0 wr : World) (v : Value) (l : List UInt8) : Prop where
  own : wr.ownsRow w0.heap.size 5 1 v l.length (byteCells l)
  below : Below w0.heap.size w0 wr
theorem GathB.empty (w : World) : GathB w (w.alloc (.cells #[] 5)) (.slice (some ⟨w.heap.size, 0, none⟩) 0 0) [] :=
  ⟨World.ownsRow_made w #[] 0 (Nat.le_refl _) (by unfold maxLen; omega) rfl, (Below.refl _ _).alloc (Nat.le_refl _) _⟩
theorem byteCells_one1 (l : List UInt8) : ∀ u ∈ byteCells l, u.oneCell' = true := by
  intro u hu
  unfold byteCells at hu
  obtain ⟨x, _, rfl⟩ := List.mem_map.1 hu
  rfl
/-- v is a slice at some address: a made row, not nil. -/
def GathS (w0 wr : World) (v : Value) (l : List UInt8) : Prop := ∃ g c, v = .slice (some ⟨g, 0, none⟩) l.length c ∧ GathB w0 wr v l
/-- 'append([]byte{c}, out...)': the byte ahead of the others. -/
theorem wpList_ahead {ops : Array Oper} {rest : List Oper} {o : Oper} {a : Act} {Q : Exit → Act → World → Prop} (w0 wr : World) (l : List UInt8) (c : UInt8) (x : Int) (hx : x = (c.toNat : Int)) (g cp : Nat) (hg : Hid (GathB w0 wr (.slice (some ⟨g, 0, none⟩) l.length cp) l)) (hlen : l.length ≤ 1099511627776)
    (hgd : o.guard = none) (s y : Operand) (ho : o.op = .call { callee := .builtin .append, args := #[s, y], argTypes := #[22, 22] })
    (cap1 : Nat) (hs : a.eval s = .slice (some ⟨wr.heap.size, 0, none⟩) 1 1) (hy : a.eval y = .slice (some ⟨g, 0, none⟩) l.length cp)
    (h : ∀ g' cp' w', Hid (GathB w0 w' (.slice (some ⟨g', 0, none⟩) (c :: l).length cp') (c :: l)) → wpList Tryz.prog ops Q rest (a.put o.dst (.slice (some ⟨g', 0, none⟩) (c :: l).length cp')) w') :
    wpList Tryz.prog ops Q (o :: rest) a (wr.alloc (.cells #[.int .u8 x] 5)) := by
  obtain ⟨i0, hi, hz0, hz1, hz2⟩ := info_parts u8_info
  have H := hg.out
  subst hx
  have hown1 : (wr.alloc (.cells #[.int .u8 (c.toNat : Int)] 5)).ownsRow w0.heap.size 5 1 (.slice (some ⟨wr.heap.size, 0, none⟩) 1 1) 1 (byteCells [c]) :=
    ⟨rfl, .inr ⟨wr.heap.size, 1, #[.int .u8 (c.toNat : Int)], rfl, H.below.size, heap_alloc_new wr _, Nat.le_refl _, by unfold maxLen; omega, rfl, rfl⟩⟩
  have hcells : ∀ j u, (byteCells l)[j]? = some u → (wr.alloc (.cells #[.int .u8 (c.toNat : Int)] 5)).cell? ((⟨g, 0, none⟩ : Addr).add j) = some u := (H.own.alloc _).cells (g := g) rfl
  refine wpList_append_own _ hgd s y 22 ho w0.heap.size 5 i0 (.int .u8 0) 1 1 Tryz.underlying22 hi hz0 hz1 hz2 rfl (by decide) _ _ _ hs hown1 ⟨g, 0, none⟩ l.length cp (byteCells l) hy (by rw [byteCells_length, Nat.mul_one]) hcells (byteCells_one1 l) ?c3 ?c4 ?c5 ?_
  case c3 => unfold maxLen; omega
  case c4 => omega
  case c5 => have := H.below.size; simp; omega
  · intro v' w' hown' hgrow hnil
    have e1 : (c :: l).length = 1 + l.length := by simp; omega
    have e2 : byteCells (c :: l) = byteCells [c] ++ byteCells l := rfl
    have hb' : Below w0.heap.size w0 w' := by
      refine (H.below.alloc H.below.size _).grown hgrow (by simp; have := H.below.size; omega) ?_
      intro k hk
      exact (hown1.lt k hk).1
    rcases hown'.2 with ⟨hv, hn⟩ | ⟨g', cap', cur, hv, _⟩
    · omega
    · rw [hv]
      rw [show 1 + l.length = (c :: l).length from e1.symm]
      refine h g' cap' w' ⟨?_, hb'⟩
      rw [hv] at hown'
      rw [e1, e2]; exact hown'
/-- The digits still to come, ahead of those that are there. -/
def ext (m : Nat) (l : List UInt8) : List UInt8 := if m = 0 ∧ l ≠ [] then l else decDigits m ++ l
theorem ext_step {m : Nat} {l : List UInt8} (h : ¬ (m = 0 ∧ l ≠ [])) : ext (m / 10) (UInt8.ofNat (48 + m % 10) :: l) = ext m l := by
  unfold ext
  rw [if_neg h]
  by_cases h10 : m < 10
  · rw [if_pos ⟨by omega, by simp⟩, decDigits_one h10, Nat.mod_eq_of_lt h10]; rfl
  · have e : decDigits m = decDigits (m / 10) ++ [UInt8.ofNat (48 + m % 10)] := by
      rw [decDigits, dif_neg h10]
    rw [if_neg (by omega), e, List.append_assoc]; rfl
theorem ext_done {n : Nat} {l : List UInt8} (hne : l ≠ []) (h : ext 0 l = decDigits n) : l = decDigits n := by
  rw [← h]; unfold ext; rw [if_pos ⟨rfl, hne⟩]
theorem ext_len {m n : Nat} {l : List UInt8} (h : ext m l = decDigits n) (hn : n ≤ 9223372036854775808) : l.length ≤ 20 := by
  have h1 : l.length ≤ (decDigits n).length := by
    rw [← h]; unfold ext
    split
    · omega
    · rw [List.length_append]; omega
  rw [decDigits_length] at h1
  have h2 : nDigits n ≤ 20 := by
    rcases Nat.lt_or_ge (nDigits n) 21 with h | h
    · omega
    · exfalso
      obtain ⟨k, hk⟩ : ∃ k, nDigits n = k + 1 := ⟨nDigits n - 1, by omega⟩
      have := nDigits_pos n
      have hmono : 10 ^ 20 ≤ n := by
        have : ∀ u, 21 ≤ nDigits u → 10 ^ 20 ≤ u := by
          intro u hu
          rcases Nat.lt_or_ge u (10 ^ 20) with hlt | hge
          · exfalso
            have hle : ∀ (k u : Nat), u < 10 ^ (k + 1) → nDigits u ≤ k + 1 := by
              intro k
              induction k with
              | zero => intro u hu; rw [nDigits_small (by simpa using hu)]; omega
              | succ k ih =>
                intro u hu
                by_cases h10 : u < 10
                · rw [nDigits_small h10]; omega
                · rw [nDigits_big h10]
                  have : u / 10 < 10 ^ (k + 1) := by rw [Nat.div_lt_iff_lt_mul (by omega)]; rw [Nat.pow_succ] at hu; exact hu
                  have := ih _ this
                  omega
            have := hle 19 u hlt
            omega
          · exact hge
        exact this n h
      have e : (10 : Nat) ^ 20 = 100000000000000000000 := by decide
      omega
  omega
def slLen : Value → Nat
  | .slice _ n _ => n
  | _ => 0
/-- How far the reference has come with n. -/
def DecR (n : Int) (w : World) (r : Int) (l : List UInt8) : Prop := ext r.natAbs l = decDigits n.natAbs
theorem dec_step {r : Int} {l : List UInt8} {n : Int} (h : ext r.natAbs l = decDigits n.natAbs) (hc : ¬ (r = 0 ∧ l ≠ [])) : ext (r.tdiv 10).natAbs (UInt8.ofNat (48 + r.natAbs % 10) :: l) = decDigits n.natAbs := by
  rw [← h, ← ext_step (m := r.natAbs) (l := l) (by intro hh; exact hc ⟨by omega, hh.2⟩)]
  congr 1
  rw [Int.natAbs_tdiv]; rfl
theorem dig_pos {r : Int} (h : 0 ≤ r) : r.tmod 10 = (r.natAbs % 10 : Nat) := by
  rw [Int.tmod_eq_emod_of_nonneg h]; omega
theorem dig_neg {r : Int} (h : ¬ 0 ≤ r) : r.tmod 10 = -((r.natAbs % 10 : Nat) : Int) := by
  have : r = -((r.natAbs : Nat) : Int) := by omega
  rw [this, Int.neg_tmod, Int.tmod_eq_emod_of_nonneg (by omega)]
  omega
theorem u8_dig (m : Nat) : (48 + ((m % 10 : Nat) : Int)) = ((UInt8.ofNat (48 + m % 10)).toNat : Int) := by
  rw [UInt8.toNat_ofNat']
  omega
theorem conv_back {w0 wr : World} {g cp : Nat} {l : List UInt8} (h : Hid (GathB w0 wr (.slice (some ⟨g, 0, none⟩) l.length cp) l)) :
    (convert 22 9 (.slice (some ⟨g, 0, none⟩) l.length cp)).run Tryz.prog wr = .ok (.string ⟨l.toArray⟩) wr := by
  refine run_convert_bytes_back wr _ _ 5 ⟨g, 0, none⟩ cp l Tryz.underlying22 Tryz.underlying5 Tryz.underlying9 fun j hj => ?_
  exact h.out.own.cells (g := g) rfl j _ (by unfold byteCells; rw [List.getElem?_map, List.getElem?_eq_getElem hj]; rfl)
theorem conv_cons {w0 wr : World} {g cp : Nat} {c : UInt8} {l : List UInt8} (h : Hid (GathB w0 wr (.slice (some ⟨g, 0, none⟩) (c :: l).length cp) (c :: l))) :
    (convert 22 9 (.slice (some ⟨g, 0, none⟩) (l.length + 1) cp)).run Tryz.prog wr = .ok (.string ⟨(c :: l).toArray⟩) wr := by
  have := conv_back h
  rw [List.length_cons] at this
  exact this
/-- A text, new memory apart. -/
def RetS (l : List UInt8) (w : World) (e : Ending) (w' : World) : Prop := e = .returned (.string ⟨l.toArray⟩) ∧ Below w.heap.size w w'

end Go.Proofs.YtkfhgjknmdlhbaaGreatDoor.Da