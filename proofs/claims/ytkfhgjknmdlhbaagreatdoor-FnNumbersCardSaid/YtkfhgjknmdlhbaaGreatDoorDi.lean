/- Which texts are numerals: the reference's test and the library's parse, with no program in sight. -/
import Derived.Lib.ParseIntB
import Derived.Test.YtkfhgjknmdlhbaaGreatDoorDd
namespace Go.Proofs.YtkfhgjknmdlhbaaGreatDoor.Di
open Go Go.Lib Da Dd
set_option linter.unusedVariables false
def dstep (n : Nat) (c : UInt8) : Nat := if 48 ≤ c.toNat ∧ c.toNat ≤ 57 then 10 * n + (c.toNat - 48) else n
def sumD (l : List UInt8) : Nat := l.foldl dstep 0
def specN (l : List UInt8) : Int := if l.head? = some 45 then -(sumD l : Int) else sumD l
/-- Is it the numeral of a number that is not too great? -/
def readB (l : List UInt8) : Bool := decide (1 ≤ l.length) && (decide (l.length ≤ 17) && (okV (specN l) && decide (itoa (specN l) = l)))
theorem dig_toNat {d : Nat} (h : d < 10) : (UInt8.ofNat (48 + d)).toNat = 48 + d := by
  rw [UInt8.toNat_ofNat']; omega
theorem sum_snoc (l : List UInt8) (c : UInt8) : sumD (l ++ [c]) = dstep (sumD l) c := by unfold sumD; rw [List.foldl_append]; rfl
theorem dstep_dig {n d : Nat} (h : d < 10) : dstep n (UInt8.ofNat (48 + d)) = 10 * n + d := by
  unfold dstep
  rw [dig_toNat h, if_pos ⟨by omega, by omega⟩]; omega
theorem sum_dec : ∀ u : Nat, sumD (decDigits u) = u := by
  intro u
  induction u using Nat.strongRecOn with
  | _ u ih =>
    by_cases h : u < 10
    · rw [decDigits_one h]
      have := sum_snoc [] (UInt8.ofNat (48 + u))
      simp only [List.nil_append] at this
      rw [this, dstep_dig h]
      show 10 * 0 + u = u
      omega
    · have e : decDigits u = decDigits (u / 10) ++ [UInt8.ofNat (48 + u % 10)] := by rw [decDigits, dif_neg h]
      rw [e, sum_snoc, ih (u / 10) (by omega), dstep_dig (Nat.mod_lt _ (by omega))]; omega
theorem head_dec (u : Nat) : ∃ d r, d < 10 ∧ decDigits u = UInt8.ofNat (48 + d) :: r := by
  induction u using Nat.strongRecOn with
  | _ u ih =>
    by_cases h : u < 10
    · exact ⟨u, [], h, decDigits_one h⟩
    · have e : decDigits u = decDigits (u / 10) ++ [UInt8.ofNat (48 + u % 10)] := by rw [decDigits, dif_neg h]
      obtain ⟨d, r, hd, hr⟩ := ih (u / 10) (by omega)
      exact ⟨d, r ++ [UInt8.ofNat (48 + u % 10)], hd, by rw [e, hr]; rfl⟩
theorem sum_minus (l : List UInt8) : sumD (45 :: l) = sumD l := by
  unfold sumD
  rw [List.foldl_cons]; rfl
theorem specN_itoa (z : Int) : specN (itoa z) = z := by
  unfold specN itoa
  by_cases h : z < 0
  · rw [if_pos h, List.head?_cons, if_pos rfl, sum_minus, sum_dec]; omega
  · rw [if_neg h, sum_dec]
    obtain ⟨d, r, hd, hr⟩ := head_dec z.toNat
    rw [hr, List.head?_cons, if_neg]
    · omega
    · intro hc
      have := congrArg UInt8.toNat (Option.some.inj hc)
      rw [dig_toNat hd] at this
      have e : (45 : UInt8).toNat = 45 := rfl
      omega
theorem dec_len17 {u : Nat} (h : u ≤ 1000000000000000) : (decDigits u).length ≤ 16 := by
  rw [decDigits_length]
  have hle : ∀ (k u : Nat), u < 10 ^ (k + 1) → nDigits u ≤ k + 1 := by
    intro k
    induction k with
    | zero => intro u hu; rw [nDigits_small (by simpa using hu)]; omega
    | succ k ih =>
      intro u hu
      by_cases h10 : u < 10
      · rw [nDigits_small h10]; omega
      · rw [nDigits_big h10]
        have : u / 10 < 10 ^ (k + 1) := by rw [Nat.div_lt_iff_lt_mul (by omega)]; rw [Nat.pow_succ] at hu; exact hu
        have := ih _ this
        omega
  exact hle 15 u (by omega)
theorem okV_range {z : Int} (h : okV z = true) : -1000000000000000 ≤ z ∧ z ≤ 1000000000000000 := by
  unfold okV at h
  simpa using h
theorem itoa_17 {z : Int} (h : okV z = true) : 1 ≤ (itoa z).length ∧ (itoa z).length ≤ 17 := by
  obtain ⟨h0, h1⟩ := okV_range h
  have hne := dec_ne z.natAbs
  have hne2 := dec_ne z.toNat
  have l1 := List.length_pos_iff.2 hne
  have l2 := List.length_pos_iff.2 hne2
  have b1 := dec_len17 (u := z.natAbs) (by omega)
  have b2 := dec_len17 (u := z.toNat) (by omega)
  unfold itoa
  split
  · rw [List.length_cons]; omega
  · omega
theorem read_itoa {z : Int} (h : okV z = true) : readB (itoa z) = true := by
  obtain ⟨h1, h2⟩ := itoa_17 h
  unfold readB
  rw [specN_itoa, h, decide_eq_true h1, decide_eq_true h2, decide_eq_true rfl]; rfl
theorem read_some {l : List UInt8} (h : readB l = true) : okV (specN l) = true ∧ itoa (specN l) = l := by
  unfold readB at h
  simp only [Bool.and_eq_true, decide_eq_true_eq] at h
  exact ⟨h.2.2.1, h.2.2.2⟩
theorem parse_snoc (M : Nat) : ∀ (l : List UInt8) (acc : Nat) (c : UInt8), parseUintM M acc (l ++ [c]) = match parseUintM M acc l with
    | .ok a => parseUintM M a [c]
    | r => r
  | [], acc, c => rfl
  | x :: l, acc, c => by
    rw [List.cons_append, parseUintM, parseUintM]
    split
    · split
      · rfl
      · split
        · rfl
        · exact parse_snoc M l _ c
    · rfl
theorem parse_dec : ∀ u : Nat, u ≤ 1000000000000000 → parseUintM (2 ^ 64 - 1) 0 (decDigits u) = .ok u := by
  intro u
  induction u using Nat.strongRecOn with
  | _ u ih =>
    intro hu
    have one : ∀ (a d : Nat), a ≤ 1000000000000000 → d < 10 → parseUintM (2 ^ 64 - 1) a [UInt8.ofNat (48 + d)] = .ok (a * 10 + d) := by
      intro a d ha hd
      have hp : (2 : Nat) ^ 64 - 1 = 18446744073709551615 := by decide
      rw [parseUintM, dig_toNat hd, if_pos ⟨by omega, by omega⟩, if_neg (by omega), if_neg (by rw [hp]; omega), parseUintM]
      congr 1
      omega
    by_cases h : u < 10
    · rw [decDigits_one h, one 0 u (by omega) h]
      congr 1
      omega
    · have e : decDigits u = decDigits (u / 10) ++ [UInt8.ofNat (48 + u % 10)] := by rw [decDigits, dif_neg h]
      rw [e, parse_snoc, ih (u / 10) (by omega) (by omega)]
      show parseUintM (2 ^ 64 - 1) (u / 10) [UInt8.ofNat (48 + u % 10)] = _
      rw [one _ _ (by omega) (Nat.mod_lt _ (by omega))]
      congr 1
      omega
theorem parse_itoa {z : Int} (h : okV z = true) : parseIntB 64 (itoa z) = .ok z := by
  obtain ⟨h0, h1⟩ := okV_range h
  have hp : (2 : Nat) ^ (64 - 1) = 9223372036854775808 := by decide
  unfold itoa
  by_cases hz : z < 0
  · rw [if_pos hz]
    have hu : parseUintB 64 (decDigits z.natAbs) = .ok z.natAbs := by
      unfold parseUintB
      rw [if_neg (dec_ne _)]
      exact parse_dec _ (by omega)
    have e45 : (45 : UInt8).toNat = 45 := rfl
    unfold parseIntB
    simp only [e45, or_true, if_true, hu, hp]
    rw [if_neg (by simp), if_neg (by simp; omega)]
    congr 1
    omega
  · rw [if_neg hz]
    obtain ⟨d, r, hd, hr⟩ := head_dec z.toNat
    have hu : parseUintB 64 (decDigits z.toNat) = .ok z.toNat := by
      unfold parseUintB
      rw [if_neg (dec_ne _)]
      exact parse_dec _ (by omega)
    rw [hr] at hu ⊢
    unfold parseIntB
    have hc : ¬ ((UInt8.ofNat (48 + d)).toNat = 43 ∨ (UInt8.ofNat (48 + d)).toNat = 45) := by rw [dig_toNat hd]; omega
    have hc2 : ¬ (UInt8.ofNat (48 + d)).toNat = 45 := by rw [dig_toNat hd]; omega
    simp only [if_neg hc, hu, hp]
    rw [if_neg (by intro hh; have := hh.2; omega), if_neg (by intro hh; exact hc2 hh.1), if_neg hc2]
    congr 1
    omega
/-- What the library's parse says of a text that is no numeral, or of one that is. -/
theorem parse_no {l : List UInt8} (h : ∀ v, parseIntB 64 l ≠ .ok v) : readB l = false := by
  cases hb : readB l with
  | false => rfl
  | true =>
    obtain ⟨h1, h2⟩ := read_some hb
    have := parse_itoa h1
    rw [h2] at this
    exact absurd this (h _)
theorem parse_ok {l : List UInt8} {v : Int} (h : parseIntB 64 l = .ok v) : readB l = (okV v && decide (itoa v = l)) ∧ (readB l = true → specN l = v) := by
  have key : readB l = true → specN l = v ∧ okV v = true ∧ itoa v = l := by
    intro hb
    obtain ⟨h1, h2⟩ := read_some hb
    have hp := parse_itoa h1
    rw [h2, h] at hp
    have e : v = specN l := by injection hp
    exact ⟨e.symm, by rw [e]; exact h1, by rw [e]; exact h2⟩
  refine ⟨?_, fun hb => (key hb).1⟩
  cases hb : readB l with
  | true =>
    obtain ⟨_, h1, h2⟩ := key hb
    rw [h1, decide_eq_true h2]; rfl
  | false =>
    cases ho : okV v with
    | false => rfl
    | true =>
      by_cases hi : itoa v = l
      · have := read_itoa ho
        rw [hi, hb] at this
        cases this
      · rw [decide_eq_false hi]; rfl
end Go.Proofs.YtkfhgjknmdlhbaaGreatDoor.Di
