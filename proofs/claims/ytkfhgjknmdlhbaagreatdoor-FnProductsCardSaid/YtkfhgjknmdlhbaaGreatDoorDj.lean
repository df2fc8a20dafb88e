/- The walks: ReadDecimal. -/
import Derived.Lib.SmallJoins
import Derived.Test.YtkfhgjknmdlhbaaGreatDoorDi
namespace Go.Proofs.YtkfhgjknmdlhbaaGreatDoor.Dj
open Go Go.RowKit Go.Lib Da Dd Di
set_option linter.unusedVariables false
def pickN (b : Bool) (n : Int) : Int := if b then n else 0
/-- The number of a numeral, and whether. -/
def RetNum (l : List UInt8) (w : World) (e : Ending) (w' : World) : Prop := e = .returned (.tuple #[.int .i64 (pickN (readB l) (specN l)), .bool (readB l)]) ∧ Below w.heap.size w w'
theorem RetNum.no {l : List UInt8} {w w' : World} (h : readB l = false) (hb : Below w.heap.size w w') : RetNum l w (.returned (.tuple #[.int .i64 0, .bool false])) w' := by
  refine ⟨?_, hb⟩
  rw [h]; rfl
theorem RetNum.yes {l : List UInt8} {n : Int} {w w' : World} (h : readB l = true) (hn : specN l = n) (hb : Below w.heap.size w w') : RetNum l w (.returned (.tuple #[.int .i64 n, .bool true])) w' := by
  refine ⟨?_, hb⟩
  rw [h, hn]; rfl
theorem take_snoc (s : ByteArray) (k : Nat) (h : k < s.size) : s.data.toList.take (k + 1) = s.data.toList.take k ++ [s[k]] := by
  have hk : k < s.data.toList.length := by simpa using h
  rw [List.take_succ_eq_append_getElem hk]; rfl
theorem size_len (s : ByteArray) : s.data.toList.length = s.size := rfl
theorem sum_bd (l : List UInt8) : sumD l < 10 ^ l.length := by
  have key : ∀ (l : List UInt8) (a : Nat), l.foldl dstep a < (a + 1) * 10 ^ l.length := by
    intro l
    induction l with
    | nil => intro a; simp
    | cons c l ih =>
      intro a
      rw [List.foldl_cons, List.length_cons, Nat.pow_succ]
      have h1 := ih (dstep a c)
      have h2 : dstep a c + 1 ≤ (a + 1) * 10 := by
        unfold dstep
        have := c.toNat_lt
        split <;> omega
      have h3 : (dstep a c + 1) * 10 ^ l.length ≤ (a + 1) * 10 * 10 ^ l.length := Nat.mul_le_mul_right _ h2
      have h4 : (a + 1) * 10 * 10 ^ l.length = (a + 1) * (10 ^ l.length * 10) := by rw [Nat.mul_assoc, Nat.mul_comm 10]
      omega
  have := key l 0
  unfold sumD
  omega
theorem sum_17 {l : List UInt8} (h : l.length ≤ 17) : sumD l < 100000000000000000 := by
  have h1 := sum_bd l
  have h2 : 10 ^ l.length ≤ 10 ^ 17 := Nat.pow_le_pow_right (by omega) h
  have h3 : (10 : Nat) ^ 17 = 100000000000000000 := by decide
  omega
theorem sum_yes {s : ByteArray} {k : Nat} (h : k < s.size) (h0 : 48 ≤ s[k].toNat) (h1 : s[k].toNat ≤ 57) : (sumD (s.data.toList.take (k + 1)) : Int) = 10 * (sumD (s.data.toList.take k) : Int) + ((s[k].toNat : Int) - 48) := by
  rw [take_snoc s k h, sum_snoc]; unfold dstep; rw [if_pos ⟨h0, h1⟩]; omega
theorem sum_no {s : ByteArray} {k : Nat} (h : k < s.size) (h0 : ¬ (48 ≤ s[k].toNat ∧ s[k].toNat ≤ 57)) : sumD (s.data.toList.take (k + 1)) = sumD (s.data.toList.take k) := by
  rw [take_snoc s k h, sum_snoc]; unfold dstep; rw [if_neg h0]
theorem cmp_eq {s : ByteArray} {l : List UInt8} (h : l = s.data.toList) : (l == s.toList) = true := by
  rw [ByteArray.toList_eq]; simpa using h
theorem cmp_ne {s : ByteArray} {l : List UInt8} (h : ¬ l = s.data.toList) : (l == s.toList) = false := by
  rw [ByteArray.toList_eq]; simpa using h
/-- The two error variables hold errors. -/
def Errs (w : World) : Prop := (∃ tp p, w.var? Tryz.prog "strconv.ErrSyntax" = some #[.iface tp p]) ∧ ∃ tp p, w.var? Tryz.prog "strconv.ErrRange" = some #[.iface tp p]
theorem Errs.below {w w' : World} (h : Errs w) (hb : Below w.heap.size w w') : Errs w' := by
  obtain ⟨⟨t1, p1, h1⟩, t2, p2, h2⟩ := h
  exact ⟨⟨t1, p1, Go.Joins.var_stays (g := 2) (by kernel_rfl) h1 hb (Nat.le_refl _)⟩, t2, p2, Go.Joins.var_stays (g := 3) (by kernel_rfl) h2 hb (Nat.le_refl _)⟩

theorem read_long {l : List UInt8} (h : ¬ (1 ≤ l.length ∧ l.length ≤ 17)) : readB l = false := by
  unfold readB
  by_cases h1 : 1 ≤ l.length
  · rw [decide_eq_false (p := l.length ≤ 17) (by omega)]; simp
  · rw [decide_eq_false h1]; rfl
theorem head_eq {s : ByteArray} (h : 0 < s.size) : (s.data.toList.head? = some 45) ↔ s[0].toNat = 45 := by
  have e : s.data.toList.head? = some s[0] := by
    rw [List.head?_eq_getElem?, List.getElem?_eq_getElem (by rw [size_len]; exact h)]; rfl
  rw [e]
  constructor
  · intro h; rw [Option.some.inj h]; rfl
  · intro h
    congr 1
    exact UInt8.toNat_inj.1 h
theorem neg_spec {s : ByteArray} (h : 0 < s.size) (h45 : s[0].toNat = 45) : specN s.data.toList = -(sumD s.data.toList : Int) := by
  unfold specN; rw [if_pos ((head_eq h).2 h45)]
theorem pos_spec {s : ByteArray} (h : 0 < s.size) (h45 : ¬ s[0].toNat = 45) : specN s.data.toList = (sumD s.data.toList : Int) := by
  unfold specN; rw [if_neg (fun e => h45 ((head_eq h).1 e))]
theorem read_is {s : ByteArray} {v : Int} (h1 : 1 ≤ s.size) (h2 : s.size ≤ 17) (hv : specN s.data.toList = v) : readB s.data.toList = (okV v && decide (itoa v = s.data.toList)) := by
  unfold readB
  rw [size_len, decide_eq_true h1, decide_eq_true h2, hv]; rfl
end Go.Proofs.YtkfhgjknmdlhbaaGreatDoor.Dj