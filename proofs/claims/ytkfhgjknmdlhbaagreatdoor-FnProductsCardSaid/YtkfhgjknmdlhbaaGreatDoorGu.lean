/- FnProducts: what its answers rest on, in plain Lean: small whole numbers as words, narrowing what was widened, texts of complex numbers read back. No program in sight. -/
import Derived.Test.YtkfhgjknmdlhbaaGreatDoorGp
import Derived.Test.YtkfhgjknmdlhbaaGreatDoorEl
namespace Go.Proofs.YtkfhgjknmdlhbaaGreatDoor.Gu
open Go Go.Lib Fl Fs Fo Fw Fb Fm Ff Fz Fy Gp WA WB Dd De Dm Ea Eb Ec Ee Ef Ek El
set_option linter.unusedVariables false
set_option maxRecDepth 20000
/-- What holds of each of the 401 whole numbers holds of one. -/
theorem small_cases {p : Int → Bool} (h : ((List.range 401).all fun n => p ((n : Int) - 200)) = true) {i : Int} (hi : -200 ≤ i ∧ i ≤ 200) : p i = true := by
  have h1 := List.all_eq_true.1 h (i + 200).toNat (List.mem_range.2 (by omega))
  have e : (((i + 200).toNat : Nat) : Int) - 200 = i := by omega
  rw [e] at h1
  exact h1
theorem conv_small {i : Int} (hi : -200 ≤ i ∧ i ≤ 200) : floatToIntVal .f32 (floatOfInt .f32 i) .i64 = some i :=
  eq_of_beq (small_cases (p := fun i => floatToIntVal .f32 (floatOfInt .f32 i) .i64 == some i) (by decide +kernel) hi)
theorem twice_mul {i : Int} (hi : -200 ≤ i ∧ i ≤ 200) : fop .mul .f32 (some (floatOfInt .f32 i)) (some 1073741824) = some (floatOfInt .f32 (2 * i)) :=
  eq_of_beq (small_cases (p := fun i => fop .mul .f32 (some (floatOfInt .f32 i)) (some 1073741824) == some (floatOfInt .f32 (2 * i))) (by decide +kernel) hi)
theorem twice_add {i : Int} (hi : -200 ≤ i ∧ i ≤ 200) : floatBits .add .f32 (floatOfInt .f32 i) (floatOfInt .f32 i) = some (floatOfInt .f32 (2 * i)) :=
  eq_of_beq (small_cases (p := fun i => floatBits .add .f32 (floatOfInt .f32 i) (floatOfInt .f32 i) == some (floatOfInt .f32 (2 * i))) (by decide +kernel) hi)
theorem sq_small {i : Int} (hi : -200 ≤ i ∧ i ≤ 200) : fop .mul .f64 (some (fi i)) (some (fi i)) = some (fi (i * i)) :=
  eq_of_beq (small_cases (p := fun i => fop .mul .f64 (some (fi i)) (some (fi i)) == some (fi (i * i))) (by decide +kernel) hi)
theorem sq_bound {i : Int} (hi : -200 ≤ i ∧ i ≤ 200) : 0 ≤ i * i ∧ i * i ≤ 40000 := by
  have h := small_cases (p := fun i => decide (0 ≤ i * i ∧ i * i ≤ 40000)) (by decide +kernel) hi
  exact of_decide_eq_true h
theorem mul_bound {i j B C : Int} (hB : 0 ≤ B) (hC : 0 ≤ C) (hi : -B ≤ i ∧ i ≤ B) (hj : -C ≤ j ∧ j ≤ C) : -(B * C) ≤ i * j ∧ i * j ≤ B * C := by
  have h : (i * j).natAbs ≤ B.natAbs * C.natAbs := by
    rw [Int.natAbs_mul]; exact Nat.mul_le_mul (by omega) (by omega)
  have e : ((B.natAbs * C.natAbs : Nat) : Int) = B * C := by
    push_cast
    rw [Int.natAbs_of_nonneg hB, Int.natAbs_of_nonneg hC]
  omega
theorem small_mul {i j : Int} (hi : -200 ≤ i ∧ i ≤ 200) (hj : -200 ≤ j ∧ j ≤ 200) : -40000 ≤ i * j ∧ i * j ≤ 40000 :=
  mul_bound (B := 200) (C := 200) (by omega) (by omega) hi hj
theorem fl_ofInt {n : Int} (hn : n.natAbs ≤ 16777215) : fl .f32 (floatOfInt .f32 n) = some (floatOfInt .f32 n) := (is_ofInt hn).fl32
/-! Narrowing what was widened. -/
theorem over_no {b : Nat} (h : (Ieee.single.read (Ieee.single.write (Ieee.double.read b))).isInfinity = false) : over .f64 .f32 (some b) = false := by
  unfold over
  show (match Ieee.double.read b with | .number sg m e => (Ieee.single.read (Ieee.single.write (.number sg m e))).isInfinity | _ => false) = false
  split
  · rename_i hb; rw [hb] at h; exact h
  · rfl
theorem narrow_wide {x u r : Nat} (hx : x < 4294967296) (hu : FC .f32 .f64 (fl .f32 x) u) (hr : FC .f64 .f32 (fl .f64 u) r) : fl .f32 r = fl .f32 x := by
  cases hn : fl .f32 x with
  | none =>
    have h1 := FC_widen hu
    rw [hn] at h1
    rw [show fl .f64 u = none from h1] at hr
    exact hr.1 rfl
  | some v =>
    have e := (fl_some hn).1
    subst e
    have h1 := FC_widen hu
    rw [hn] at h1
    by_cases hf : rung Ieee.single v < Ieee.single.infRung
    · obtain ⟨s, g1, g2, g3⟩ := widen_word hf
      have hs := rung_word' Ieee.double (sgn Ieee.single v) (Nat.le_of_lt g1)
      have hg := sgn_word' Ieee.double (sgn Ieee.single v) (Nat.le_of_lt g1)
      rw [← g3] at hs hg
      obtain ⟨y, hy⟩ : ∃ y, y = Ieee.double.write (Ieee.single.read v) := ⟨_, rfl⟩
      have h2 : fl .f64 u = some y := by rw [hy]; exact h1
      rw [← hy] at hs hg
      clear h1
      have hb := narrow_back (x := y) (r := rung Ieee.single v) (by rw [hs]; exact g1) (Nat.le_of_lt hf) (by rw [hs]; exact g2)
      rw [hg, ← word_of Ieee.single (show v < 2 ^ Ieee.single.width from hx)] at hb
      rw [h2] at hr
      have hov : over .f64 .f32 (some y) = false := over_no (by
        rw [hb, word_of Ieee.single (show v < 2 ^ Ieee.single.width from hx)]
        exact isInf_lt _ hf)
      rw [hr.1 hov]
      show some (Ieee.single.write (Ieee.double.read y)) = some v
      rw [hb]
    · have hle := le_of_fl hn
      have h5 : rung Ieee.single v = v % 2147483648 := rfl
      have h6 : Ieee.single.infRung = 2139095040 := by decide +kernel
      have h7 : rung Ieee.single v ≤ Ieee.single.infRung := hle
      rw [h5, h6] at hf h7
      have hv : v = 2139095040 ∨ v = 4286578688 := by omega
      rcases hv with rfl | rfl
      · rw [show fconv .f32 .f64 (some 2139095040) = some 9218868437227405312 by decide +kernel] at h1
        rw [h1] at hr
        rw [hr.1 (by decide +kernel)]; decide +kernel
      · rw [show fconv .f32 .f64 (some 4286578688) = some 18442240474082181120 by decide +kernel] at h1
        rw [h1] at hr
        rw [hr.1 (by decide +kernel)]; decide +kernel
/-! Bits and texts. -/
theorem back_fl (x : Nat) : fl .f32 (bitsB x).toNat = fl .f32 x := by
  unfold bitsB
  cases hn : (FloatKind.f32.format.read x).isNaN
  · simp
  · have h1 : fl .f32 x = none := by unfold fl; rw [hn]; rfl
    rw [h1, if_pos rfl]
    decide +kernel
theorem bits_idem (x : Nat) : bitsB (bitsB x).toNat = bitsB x := by
  cases hn : (FloatKind.f32.format.read x).isNaN
  · have h2 : bitsB x = x := by simp [bitsB, hn]
    rw [h2, Int.toNat_natCast, h2]
  · have h2 : bitsB x = 2143289344 := by simp [bitsB, hn]
    rw [h2]
    decide +kernel
theorem read_hex {x : Nat} (hx : x < 4294967296) : readX (hexT x) = bitsN x := by
  have hb := (bitsN_eq hx).2
  unfold readX parsed hexT
  rw [hexA_pad 8 (bitsN x) 0 (by simpa using hb)]
  simp
theorem bitsN_idem (x : Nat) : bitsN (bitsN x) = bitsN x := by
  show (bitsB (bitsB x).toNat).toNat = (bitsB x).toNat
  rw [bits_idem]
def bitsC (z : Nat × Nat) : Nat × Nat := (bitsN z.1, bitsN z.2)
theorem take_hexC (z : Nat × Nat) : (hexC z).take 8 = hexT z.1 ∧ (hexC z).drop 8 = hexT z.2 := by
  unfold hexC
  constructor
  · rw [List.take_append_of_le_length (by rw [hexT_len]; omega), List.take_of_length_le (by rw [hexT_len]; omega)]
  · rw [List.drop_append_of_le_length (by rw [hexT_len]; omega), List.drop_of_length_le (by rw [hexT_len]; omega), List.nil_append]
theorem read_hexC {z : Nat × Nat} (hz : z.1 < 4294967296 ∧ z.2 < 4294967296) : readC (hexC z) = bitsC z := by
  unfold readC bitsC
  rw [(take_hexC z).1, (take_hexC z).2, read_hex hz.1, read_hex hz.2]
theorem ok_hexC {z : Nat × Nat} (hz : z.1 < 4294967296 ∧ z.2 < 4294967296) : okC (hexC z) = true := by
  rw [okC_is (hexC_len z), read_hexC hz]
  refine decide_eq_true ?_
  unfold hexC bitsC hexT
  rw [bitsN_idem, bitsN_idem]
theorem pieces_textC (zs : List (Nat × Nat)) : piecesV (textC zs) = zs.map hexC := by
  unfold piecesV
  by_cases h : zs = []
  · subst h; rfl
  · have hm : zs.map hexC ≠ [] := by simpa using h
    have e : textC zs = join (zs.map hexC) [44] := by unfold textC joinedV; rw [if_neg hm]
    have hc : cutF (textC zs) = zs.map hexC := by
      rw [e]
      exact cutF_join _ hm (fun q hq => by obtain ⟨x, _, rfl⟩ := List.mem_map.1 hq; exact hexC_no _)
    rw [if_neg, hc]
    intro e
    rw [e] at hc
    obtain ⟨a, r, rfl⟩ : ∃ a r, zs = a :: r := by
      cases zs with
      | nil => exact absurd rfl h
      | cons a r => exact ⟨a, r, rfl⟩
    have h1 : cutF noneT = [noneT] := by decide
    rw [h1, List.map_cons] at hc
    have h2 := (List.cons.inj hc).1
    have h3 := hexC_len a
    rw [← h2] at h3
    cases h3
theorem textC_read {zs : List (Nat × Nat)} (hw : InC zs) (hl : zs.length ≤ 256) : xcV (textC zs) = zs.map bitsC ∧ xcB (textC zs) = true := by
  unfold xcV xcB
  rw [pieces_textC]
  refine ⟨?_, ?_⟩
  · rw [List.map_map]
    exact List.map_congr_left fun z hz => read_hexC (hw z hz)
  · rw [decide_eq_true (by rw [List.length_map]; exact hl), Bool.true_and, List.all_eq_true]
    intro l h
    obtain ⟨z, hz, rfl⟩ := List.mem_map.1 h
    exact ok_hexC (hw z hz)
theorem textC_len (zs : List (Nat × Nat)) (h : zs.length ≤ 1000) : (textC zs).length ≤ 17004 := by
  unfold textC joinedV
  split
  · decide
  · have := joinC_len zs
    omega
end Go.Proofs.YtkfhgjknmdlhbaaGreatDoor.Gu
