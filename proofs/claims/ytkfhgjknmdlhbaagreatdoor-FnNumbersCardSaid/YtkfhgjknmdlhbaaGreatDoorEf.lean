/- Which texts are the numerals of numbers, with no program in sight. -/
import Derived.Test.YtkfhgjknmdlhbaaGreatDoorEc
import Derived.Test.YtkfhgjknmdlhbaaGreatDoorEe
import Derived.Test.YtkfhgjknmdlhbaaGreatDoorDp
namespace Go.Proofs.YtkfhgjknmdlhbaaGreatDoor.Ef
open Go Go.Lib Da Dd De Dm Ea Eb Ec Ee Fb
set_option linter.unusedVariables false
theorem hd_val : ∀ d : Fin 16, hexD (hd d.val) = d.val := by decide +kernel
theorem hexD_hd {d : Nat} (h : d < 16) : hexD (hd d) = d := hd_val ⟨d, h⟩
theorem hd_ne : ∀ d : Fin 16, hd d.val ≠ 44 := by decide +kernel
/-- A digit, no capital. -/
def lowH (c : UInt8) : Bool := (decide (48 ≤ c.toNat) && decide (c.toNat ≤ 57)) || (decide (97 ≤ c.toNat) && decide (c.toNat ≤ 102))
theorem low_hd : ∀ d : Fin 16, lowH (hd d.val) = true := by decide +kernel
theorem low_dig : ∀ c : Fin 256, lowH (UInt8.ofNat c.val) = true → hexD (UInt8.ofNat c.val) < 16 ∧ hd (hexD (UInt8.ofNat c.val)) = UInt8.ofNat c.val := by decide +kernel
theorem low_of {c : UInt8} (h : lowH c = true) : hexD c < 16 ∧ hd (hexD c) = c := by
  have e : UInt8.ofNat c.toNat = c := UInt8.ofNat_toNat
  have := low_dig ⟨c.toNat, c.toNat_lt⟩
  simp only [e] at this
  exact this h
theorem hexPad_cons : ∀ (k d v : Nat), d < 16 → v < 16 ^ k → hexPad (k + 1) (d * 16 ^ k + v) = hd d :: hexPad k v
  | 0, d, v, hd', hv => by
    have hv0 : v = 0 := by simpa using hv
    subst hv0
    show hexPad 0 _ ++ [hd ((d * 16 ^ 0 + 0) % 16)] = [hd d]
    rw [Nat.pow_zero, Nat.mul_one, Nat.add_zero, Nat.mod_eq_of_lt hd']
    rfl
  | k + 1, d, v, hd', hv => by
    rw [hexPad]
    have e1 : (d * 16 ^ (k + 1) + v) / 16 = d * 16 ^ k + v / 16 := by
      rw [Nat.pow_succ, ← Nat.mul_assoc, Nat.add_comm, Nat.add_mul_div_right _ _ (by omega), Nat.add_comm]
    have e2 : (d * 16 ^ (k + 1) + v) % 16 = v % 16 := by
      rw [Nat.pow_succ, ← Nat.mul_assoc, Nat.add_comm, Nat.add_mul_mod_self_right]
    rw [e1, e2, hexPad_cons k d (v / 16) hd' (by rw [Nat.div_lt_iff_lt_mul (by omega)]; rw [Nat.pow_succ] at hv; exact hv)]
    rfl
theorem hexA_pad : ∀ (k n acc : Nat), n < 16 ^ k → hexA acc (hexPad k n) = some (acc * 16 ^ k + n)
  | 0, n, acc, h => by
    have : n = 0 := by simpa using h
    subst this
    simp [hexPad, hexA]
  | k + 1, n, acc, h => by
    have hp := Nat.pow_pos (n := k) (show 0 < 16 by omega)
    have hq : n / 16 ^ k < 16 := by rw [Nat.div_lt_iff_lt_mul hp, Nat.mul_comm, ← Nat.pow_succ]; exact h
    have hr : n % 16 ^ k < 16 ^ k := Nat.mod_lt _ hp
    have e : n = n / 16 ^ k * 16 ^ k + n % 16 ^ k := by rw [Nat.mul_comm]; exact (Nat.div_add_mod n _).symm
    generalize n / 16 ^ k = d at hq e
    generalize n % 16 ^ k = v at hr e
    rw [e, hexPad_cons k d v hq hr, hexA, hexD_hd hq, if_pos hq, hexA_pad k v _ hr, Nat.pow_succ, Nat.add_mul]
    congr 1
    rw [Nat.mul_comm (16 ^ k) 16, ← Nat.mul_assoc, Nat.add_assoc]
theorem low_all : ∀ (l : List UInt8) (acc : Nat), l.all lowH = true → ∃ v, v < 16 ^ l.length ∧ hexA acc l = some (acc * 16 ^ l.length + v) ∧ hexPad l.length v = l
  | [], acc, _ => ⟨0, by simp, by simp [hexA], rfl⟩
  | c :: r, acc, h => by
    rw [List.all_cons, Bool.and_eq_true] at h
    obtain ⟨h1, h2⟩ := low_of h.1
    obtain ⟨v, hv, ha, hp⟩ := low_all r (acc * 16 + hexD c) h.2
    refine ⟨hexD c * 16 ^ r.length + v, ?_, ?_, ?_⟩
    · rw [List.length_cons, Nat.pow_succ]
      have : (hexD c + 1) * 16 ^ r.length ≤ 16 * 16 ^ r.length := Nat.mul_le_mul_right _ h1
      rw [Nat.add_mul, Nat.one_mul] at this
      rw [Nat.mul_comm (16 ^ r.length) 16]
      omega
    · rw [hexA, if_pos h1, ha, List.length_cons, Nat.pow_succ, Nat.add_mul]
      congr 1
      rw [Nat.mul_comm (16 ^ r.length) 16, ← Nat.mul_assoc, Nat.add_assoc]
    · rw [List.length_cons, hexPad_cons _ _ _ h1 hv, h2, hp]
theorem pad_low : ∀ (k n : Nat), (hexPad k n).all lowH = true
  | 0, _ => rfl
  | k + 1, n => by rw [hexPad, List.all_append, pad_low k]; simp [low_hd ⟨n % 16, Nat.mod_lt _ (by omega)⟩]
/-- Is the text the numeral of a number? -/
def okX (l : List UInt8) : Bool := decide (l.length = 8) && decide (hexT (readX l) = l)
theorem okX_len {l : List UInt8} (h : ¬ l.length = 8) : okX l = false := by unfold okX; rw [decide_eq_false h]; rfl
theorem okX_bad {l : List UInt8} (h : l.all lowH = false) : okX l = false := by
  unfold okX
  rw [Bool.and_eq_false_iff]; right
  rw [decide_eq_false_iff_not]
  intro e
  rw [← e, hexT, pad_low] at h
  cases h
/-- What the eight digits spell. -/
theorem read_low {l : List UInt8} (hl : l.length = 8) (h : l.all lowH = true) : parsed l = some (readX l) ∧ hexPad 8 (readX l) = l ∧ readX l < 4294967296 := by
  obtain ⟨v, hv, ha, hp⟩ := low_all l 0 h
  rw [Nat.zero_mul, Nat.zero_add] at ha
  have e : readX l = v := by unfold readX parsed; rw [ha]; rfl
  rw [e]
  rw [hl] at hv hp
  exact ⟨ha, hp, by simpa using hv⟩
theorem okX_low {l : List UInt8} (hl : l.length = 8) (h : l.all lowH = true) : okX l = decide (bitsB (readX l) = (readX l : Int)) := by
  obtain ⟨h1, h2, h3⟩ := read_low hl h
  obtain ⟨b1, b2⟩ := bitsN_eq h3
  unfold okX
  rw [decide_eq_true hl, Bool.true_and]
  by_cases he : bitsB (readX l) = (readX l : Int)
  · rw [decide_eq_true he, decide_eq_true]
    unfold hexT
    rw [show bitsN (readX l) = readX l by omega, h2]
  · rw [decide_eq_false he, decide_eq_false]
    intro e
    apply he
    have e2 : hexPad 8 (bitsN (readX l)) = hexPad 8 (readX l) := by rw [h2]; exact e
    have a1 := hexA_pad 8 (bitsN (readX l)) 0 (by simpa using b2)
    have a2 := hexA_pad 8 (readX l) 0 (by simpa using h3)
    rw [e2, a2] at a1
    have := Option.some.inj a1
    rw [b1]
    omega
/-- The numbers of a text, and whether. -/
def xsV (l : List UInt8) : List Nat := (piecesV l).map readX
def xsB (l : List UInt8) : Bool := decide ((piecesV l).length ≤ 256) && (piecesV l).all okX
theorem cutF_join : ∀ (ls : List (List UInt8)), ls ≠ [] → (∀ l ∈ ls, ∀ x ∈ l, x ≠ 44) → cutF (join ls [44]) = ls
  | [], h, _ => absurd rfl h
  | [a], _, h => by rw [join_one, cutF_miss (h a (by simp))]
  | a :: b :: r, _, h => by
    have e : join (a :: b :: r) [44] = a ++ 44 :: join (b :: r) [44] := by
      rw [join_cons, join_cons]
      simp [joinTail]
    rw [e, cutF_hit (h a (by simp)), cutF_join (b :: r) (by simp) (fun l hl => h l (by simp at hl ⊢; exact .inr hl))]
theorem hexT_no (x : Nat) : ∀ c ∈ hexT x, c ≠ 44 := by
  intro c hc e
  subst e
  have := List.all_eq_true.1 (pad_low 8 (bitsN x)) 44 hc
  cases this
theorem cut_text {xs : List Nat} (h : xs ≠ []) : cutF (textX xs) = xs.map hexT := by
  rw [textX_some h]
  exact cutF_join _ (by simpa using h) (fun l hl => by obtain ⟨x, _, rfl⟩ := List.mem_map.1 hl; exact hexT_no x)
theorem tail_snoc (sep y : List UInt8) (r : List (List UInt8)) : joinTail sep (r ++ [y]) = joinTail sep r ++ (sep ++ y) := by simp [joinTail]
theorem join_snoc (ls : List (List UInt8)) (y : List UInt8) (h : ls ≠ []) : join (ls ++ [y]) [44] = join ls [44] ++ (44 :: y) := by
  cases ls with
  | nil => exact absurd rfl h
  | cons a r => rw [List.cons_append, join_cons, join_cons, tail_snoc, List.append_assoc]; rfl
theorem join_last (D : List (List UInt8)) (c : List UInt8) (x : UInt8) : join (D ++ [c ++ [x]]) [44] = join (D ++ [c]) [44] ++ [x] := by
  cases D with
  | nil => rw [List.nil_append, List.nil_append, join_one, join_one]
  | cons a r => rw [List.cons_append, List.cons_append, join_cons, join_cons, tail_snoc, tail_snoc]; simp [List.append_assoc]
theorem join_cut (l : List UInt8) : join (cutF l) [44] = l := by
  have key : ∀ (l : List UInt8) (D : List (List UInt8)) (c : List UInt8), join ((l.foldl cstep (D, c)).1 ++ [(l.foldl cstep (D, c)).2]) [44] = join (D ++ [c]) [44] ++ l := by
    intro l
    induction l with
    | nil => intro D c; simp
    | cons x l ih =>
      intro D c
      rw [List.foldl_cons]
      by_cases h : x = 44
      · rw [show cstep (D, c) x = (D ++ [c], []) by unfold cstep; rw [if_pos h], ih, join_snoc (D ++ [c]) [] (by simp), h]
        simp
      · rw [show cstep (D, c) x = (D, c ++ [x]) by unfold cstep; rw [if_neg h], ih, join_last]
        simp
  have := key l [] []
  rw [List.nil_append, join_one, List.nil_append] at this
  exact this
theorem text_back {l : List UInt8} (hn : ¬ l = noneT) : textX ((cutF l).map readX) = l ↔ (cutF l).map (fun p => hexT (readX p)) = cutF l := by
  have hne : cutF l ≠ [] := by unfold cutF; simp
  have hne2 : (cutF l).map readX ≠ [] := by simpa using hne
  constructor
  · intro h
    have := cut_text hne2
    rw [h, List.map_map] at this
    exact this.symm
  · intro h
    rw [textX_some hne2]
    unfold joinX
    rw [List.map_map]
    show join ((cutF l).map fun p => hexT (readX p)) [44] = l
    rw [h, join_cut]
theorem all_ok {P : List (List UInt8)} (hl : ∀ p ∈ P, p.length = 8) : P.all okX = decide (P.map (fun p => hexT (readX p)) = P) := by
  induction P with
  | nil => rfl
  | cons p P ih =>
    have h1 := hl p (by simp)
    have h2 := ih (fun q hq => hl q (by simp [hq]))
    rw [List.all_cons, h2, List.map_cons]
    unfold okX
    rw [decide_eq_true h1, Bool.true_and]
    by_cases a : hexT (readX p) = p
    · by_cases b : P.map (fun p => hexT (readX p)) = P
      · rw [decide_eq_true a, decide_eq_true b, decide_eq_true (by rw [a, b])]; rfl
      · rw [decide_eq_false b, Bool.and_false, decide_eq_false (by intro e; exact b (List.cons.inj e).2)]
    · rw [decide_eq_false a, Bool.false_and, decide_eq_false (by intro e; exact a (List.cons.inj e).1)]
end Go.Proofs.YtkfhgjknmdlhbaaGreatDoor.Ef