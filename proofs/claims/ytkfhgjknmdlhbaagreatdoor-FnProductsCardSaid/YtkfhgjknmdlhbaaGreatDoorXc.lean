/- The walks: bytes that came in; b10Long, b10At, b10Gap. -/
import Derived.Test.YtkfhgjknmdlhbaaGreatDoorMd
import Derived.Test.YtkfhgjknmdlhbaaGreatDoorWH
import Derived.Deep.Slices
import Derived.ChangeSame
import Derived.WideShapes
import Derived.Carry
import Derived.IntWalk
import Derived.DataShut
namespace Go.Proofs.YtkfhgjknmdlhbaaGreatDoor.Xc
open Go Go.RowKit Go.WideShapes Go.ChangeShapes Go.Deep Fl Md WA WH
set_option linter.unusedVariables false
/-- The slice at A reads as the bytes bs, below block B. -/
def RdB (w : World) (B : Nat) (A : Option Addr) (bs : List Nat) : Prop := bs ≠ [] → ∃ ad : Addr, A = some ad ∧ ad.block < B ∧ ∀ (j x : Nat), bs[j]? = some x → w.cell? (ad.add j) = some (.int .u8 (x : Int)) ∧ x < 256
section
variable {w w' : World} {B B' : Nat} {A : Option Addr} {bs : List Nat}
theorem RdB.at_ (h : RdB w B A bs) {j : Nat} (hj : j < bs.length) : ∃ (ad : Addr) (x : Nat), A = some ad ∧ ad.block < B ∧ w.cell? (ad.add j) = some (.int .u8 (x : Int)) ∧ x < 256 := by
  obtain ⟨ad, e, hb, hc⟩ := h (by intro e; subst e; simp at hj)
  exact ⟨ad, bs[j], e, hb, (hc j _ (List.getElem?_eq_getElem hj)).1, (hc j _ (List.getElem?_eq_getElem hj)).2⟩
theorem RdB.below (h : RdB w B A bs) (hb : Below B w w') : RdB w' B A bs := fun hn => by
  obtain ⟨ad, e, hB, hc⟩ := h hn
  exact ⟨ad, e, hB, fun j x hx => ⟨(hb.cell (by rw [add_block]; exact hB)).trans (hc j x hx).1, (hc j x hx).2⟩⟩
theorem RdB.more (h : RdB w B A bs) (hB : B ≤ B') : RdB w B' A bs := fun hn => by
  obtain ⟨ad, e, hb, hc⟩ := h hn
  exact ⟨ad, e, by omega, hc⟩
theorem RdB.drewN (h : RdB w B A bs) (k : Nat) : RdB (w.drewN k) B A bs := h
end
section
variable {H : Type} {enc : TypeId × Value → H} {P : Program} {W : World} {base : Nat} {spare : Nat → Bool} {held : Bool}
theorem elem_u8 {fuel : Nat} {e : TypeId} {v : Value} {x : DataW H × List MemPlace} (he : P.underlying e = some (.int .u8)) (h : DataW.trod enc P W base spare held fuel e [v] = some x) :
    ∃ b : Nat, v = .int .u8 (b : Int) ∧ b < 256 := by
  obtain ⟨n, e1, _, hw⟩ := DataW.trod_int he h
  simp at e1
  subst e1
  have h2 := (Lit.wf_int_iff .u8 n).1 hw
  have h3 : IntKind.u8.min = 0 := rfl
  have h4 : IntKind.u8.max = 255 := rfl
  exact ⟨n.toNat, by rw [Int.toNat_of_nonneg (by omega)], by omega⟩
theorem open_bytes {t e : TypeId} {r : Reach} {b0 : Nat} {v : Value} {d : DataW H} {ps : List MemPlace} (ht : P.underlying t = some (.slice e)) (he : P.underlying e = some (.int .u8)) (hc : P.cellsOf e = 1)
    (hval : Value.okWide P W r b0 t v) (hd : DataW.Trod enc P W base spare held t v d ps) :
    ∃ (A : Option Addr) (c : Nat) (bs : List Nat), v = .slice A bs.length c ∧ RdB W W.heap.size A bs := by
  obtain ⟨A, len, cap, rfl⟩ := okWide_slice ht hval
  obtain ⟨fuel, hf⟩ := hd
  rcases open_slice1 ht hc hf with ⟨hcs, _⟩ | ⟨a, len', cap', m, n, V, D, Pl, hcs, _, hl, _, hm, _, hx⟩
  · simp [Value.cells] at hcs
    obtain ⟨rfl, rfl, rfl⟩ := hcs
    exact ⟨none, 0, [], rfl, fun h => absurd rfl h⟩
  · simp [Value.cells] at hcs
    obtain ⟨rfl, rfl, rfl⟩ := hcs
    have hlm : len ≤ m := by rw [hm]; split <;> omega
    obtain ⟨X, hX⟩ := choose_lt (α := Nat) (p := fun i (b : Nat) => V i = .int .u8 (b : Int) ∧ b < 256) (fun i hi => elem_u8 he (hx i hi).2)
    refine ⟨some a, cap, (List.range len).map X, by simp, fun hne => ⟨a, rfl, ?_, ?_⟩⟩
    · have h0 : 0 < len := by
        rcases Nat.eq_zero_or_pos len with h0 | h0
        · subst h0; simp at hne
        · exact h0
      have := World.block_lt_of_cell? W (a.add 0) (hx 0 (by omega)).1
      rw [add_block] at this
      exact this
    · intro j x hjx
      have hj : j < len := by
        rcases Nat.lt_or_ge j len with h | h
        · exact h
        · rw [List.getElem?_eq_none (by simpa using h)] at hjx; cases hjx
      have : x = X j := by simpa [hj, eq_comm] using hjx
      rw [this, (hx j (by omega)).1, (hX j (by omega)).1]
      exact ⟨rfl, (hX j (by omega)).2⟩
end
def RetQ (b : Bool) (w : World) (e : Ending) (w' : World) : Prop := e = .returned (.bool b) ∧ w' = w
theorem b10Long_no (A B : Option Addr) (n m c d : Nat) (hn : n ≤ 1048576) (hm : m ≤ 1048576) (w : World) : Calls Tryz.prog 5 #[.slice A n c, .slice B m d] w (RetQ false w) := by
  have h1 : decide ((1048576 : Int) < (n : Int)) = false := decide_eq_false (by omega)
  have h2 : decide ((1048576 : Int) < (m : Int)) = false := decide_eq_false (by omega)
  go_enter Tryz.func5, Tryz.ntmps5
  go_wp2
  go_ret
  exact ⟨rfl, rfl⟩
theorem b10Long_yes (A B : Option Addr) (n m c d : Nat) (h : ¬ (n ≤ 1048576 ∧ m ≤ 1048576)) (w : World) : Calls Tryz.prog 5 #[.slice A n c, .slice B m d] w (RetQ true w) := by
  by_cases h1 : n ≤ 1048576
  · have h2 : decide ((1048576 : Int) < (n : Int)) = false := decide_eq_false (by omega)
    have h3 : decide ((1048576 : Int) < (m : Int)) = true := decide_eq_true (by omega)
    clear h
    go_enter Tryz.func5, Tryz.ntmps5
    go_wp2
    go_ret
    exact ⟨rfl, rfl⟩
  · have h2 : decide ((1048576 : Int) < (n : Int)) = true := decide_eq_true (by omega)
    clear h
    go_enter Tryz.func5, Tryz.ntmps5
    go_wp2
    go_ret
    exact ⟨rfl, rfl⟩
/-- A number below n. -/
def RetN (n : Int) (w : World) (e : Ending) (w' : World) : Prop := ∃ i : Nat, (i : Int) < n ∧ e = .returned (.int .i64 (i : Int)) ∧ w' = w
theorem tmod_nat {a n : Int} (ha : 0 ≤ a) (hn : 0 < n) : ∃ i : Nat, (i : Int) < n ∧ a.tmod n = (i : Int) := by
  rw [Int.tmod_eq_emod_of_nonneg ha]
  have h1 := Int.emod_nonneg a (by omega : n ≠ 0)
  have h2 := Int.emod_lt_of_pos a hn
  exact ⟨(a % n).toNat, by omega, by omega⟩
set_option maxHeartbeats 1000000 in
theorem b10At_any (bs : List Nat) (A : Option Addr) (c : Nat) (k n : Int) (hk0 : 0 ≤ k) (hk1 : k ≤ 1000) (hn0 : 2 ≤ n) (hn1 : n ≤ 1000) (w : World) (M : Nat) (hx : RdB w M A bs) (hl : bs.length ≤ 1048576) :
    Calls Tryz.prog 16 #[.slice A bs.length c, .int .i64 k, .int .i64 n] w (RetN n w) := by
  have HX := Lib.hid hx
  clear hx
  have h1 : decide (n ≤ 1) = false := decide_eq_false (by omega)
  by_cases hlt : k < (bs.length : Int)
  · obtain ⟨kn, rfl⟩ : ∃ kn : Nat, k = kn := ⟨k.toNat, by omega⟩
    obtain ⟨ad, x, rfl, hb, hc, hx⟩ := HX.out.at_ (j := kn) (by omega)
    obtain ⟨i, hi, ht⟩ := tmod_nat (a := (x : Int)) (n := n) (by omega) (by omega)
    have HI := Lib.hid hi
    clear hi
    go_enter Tryz.func16, Tryz.ntmps16
    go_wp2
    go_ret
    exact ⟨i, HI.out, ret_int (by first | exact ht | rfl), rfl⟩
  · obtain ⟨i, hi, ht⟩ := tmod_nat (a := k * 37 + 11) (n := n) (by omega) (by omega)
    have HI := Lib.hid hi
    clear hi
    go_enter Tryz.func16, Tryz.ntmps16
    go_wp2
    go_ret
    exact ⟨i, HI.out, ret_int (by first | exact ht | rfl), rfl⟩
/-- How far apart. -/
def gapV (a b : Option Nat) : Option Nat := if fcmp .f64 a b == some .lt then fop .sub .f64 b a else fop .sub .f64 a b
end Go.Proofs.YtkfhgjknmdlhbaaGreatDoor.Xc