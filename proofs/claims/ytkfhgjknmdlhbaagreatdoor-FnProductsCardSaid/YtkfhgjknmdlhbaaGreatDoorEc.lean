/- The walks: NumbersText. -/
import Derived.Test.YtkfhgjknmdlhbaaGreatDoorEb
import Derived.Test.YtkfhgjknmdlhbaaGreatDoorDe
namespace Go.Proofs.YtkfhgjknmdlhbaaGreatDoor.Ec
open Go Go.RowKit Go.Lib Da Dd De Ea Eb
set_option linter.unusedVariables false
def InW (xs : List Nat) : Prop := ∀ x ∈ xs, x < 4294967296
def joinX (xs : List Nat) : List UInt8 := join (xs.map hexT) [44]
def fewB (xs : List Nat) : Bool := decide ((xs.length : Int) ≤ 256)
/-- The text of a list of numbers. -/
def textX (xs : List Nat) : List UInt8 := joinedV (xs.map hexT)
theorem textX_none : textX [] = [110, 111, 110, 101] := rfl
theorem textX_some {xs : List Nat} (h : xs ≠ []) : textX xs = joinX xs := by
  unfold textX joinedV joinX
  rw [if_neg (by simpa using h)]
theorem joinX_one (x : Nat) : joinX [x] = hexT x := join_one _ _
theorem joinX_step {xs : List Nat} {j x : Nat} (h1 : 1 ≤ j) (hj : j < xs.length) (hz : x = xs[j]) : joinX (xs.take (j + 1)) = joinX (xs.take j) ++ [44] ++ hexT x := by
  obtain ⟨a, r, rfl⟩ : ∃ a r, xs = a :: r := by
    cases xs with
    | nil => simp at hj
    | cons a r => exact ⟨a, r, rfl⟩
  obtain ⟨k, rfl⟩ : ∃ k, j = k + 1 := ⟨j - 1, by omega⟩
  have hk : k < r.length := by simpa using hj
  have hz' : x = r[k] := by rw [hz]; rfl
  unfold joinX
  rw [List.take_succ_cons, List.take_succ_cons, List.map_cons, List.map_cons, join_cons, join_cons, List.map_take, List.map_take, joinTail_take_succ [44] (r.map hexT) k (hexT x) (by rw [List.getElem?_map, List.getElem?_eq_getElem hk, hz']; rfl)]
  simp [List.append_assoc]
theorem joinX_len {xs : List Nat} : ∀ j, j ≤ xs.length → (joinX (xs.take j)).length ≤ 9 * j
  | 0, _ => by simp [joinX, join_nil]
  | 1, h => by
    obtain ⟨a, r, rfl⟩ : ∃ a r, xs = a :: r := by
      cases xs with
      | nil => simp at h
      | cons a r => exact ⟨a, r, rfl⟩
    rw [List.take_succ_cons, List.take_zero, joinX_one, hexT_len]
    omega
  | j + 2, h => by
    have ih := joinX_len (j + 1) (show j + 1 ≤ xs.length by omega)
    rw [joinX_step (by omega) (show j + 1 < xs.length by omega) rfl]
    simp only [List.length_append, List.length_cons, List.length_nil, hexT_len]
    omega
theorem few_le {xs : List Nat} (h : fewB xs = true) : xs.length ≤ 256 := by
  unfold fewB at h
  simp only [decide_eq_true_eq] at h
  omega
def TextX (xs : List Nat) (w : World) (j : Nat) (v : Value) (wr : World) : Prop := ∃ ls, ls = (xs.take j).map hexT ∧ GathT w wr v ls
set_option maxHeartbeats 2000000 in
theorem impl_NumbersText (xs : List Nat) (A : Option Addr) (c : Nat) (w : World) (M : Nat) (hx : Md.Rd w M A xs) (hl : xs.length ≤ 1048576) (hr : InW xs) (hM : M ≤ w.heap.size) (ht : Bru w) : Calls Tryz.prog 31 #[.slice A xs.length c] w (RetSB (textX xs) (fewB xs) w) := by
  have HX := Lib.hid hx
  have HR := Lib.hid hr
  have HT := Lib.hid ht
  clear hx hr ht
  by_cases h256 : xs.length ≤ 256
  · have hd : decide ((256 : Int) < (xs.length : Int)) = false := decide_eq_false (by omega)
    have HF := Lib.hid (show fewB xs = true from decide_eq_true (by omega))
    go_enter Tryz.func31, Tryz.ntmps31
    go_wp2
    go_loopw [4, 13] (fun v i wr => ∃ j : Nat, j ≤ xs.length ∧ i = .int .i64 j ∧ Hid (TextX xs w j v wr)) (fun _ i _ => xs.length - (RowKit.intOf i).toNat)
    case atStart => exact ⟨0, by omega, rfl, Lib.hid ⟨[], rfl, GathT.empty w⟩⟩
    case round =>
      obtain ⟨j, hj, rfl, HJ⟩ := hrel
      obtain ⟨ls, hls, hg0⟩ := HJ.out
      have hll : ls.length = j := by rw [hls, List.length_map, List.length_take]; omega
      have HLN := Lib.hid (show ls.length ≤ 1099511627776 by omega)
      have HL := Lib.hid hls
      have HG := Lib.hid hg0
      clear HJ hls hg0 hll
      by_cases hlt : j < xs.length
      · obtain ⟨ad, rfl, hb, hc⟩ := ((HX.out.more hM).below HG.out.below).at_ hlt
        obtain ⟨z, hz⟩ : ∃ z, z = xs[j] := ⟨_, rfl⟩
        rw [← hz] at hc
        have HRZ := Lib.hid (HR.out z (by rw [hz]; exact List.getElem_mem hlt))
        obtain ⟨D, hD⟩ : ∃ D, D = hexT z := ⟨_, rfl⟩
        have HD := Lib.hid hD
        have HN := Lib.hid (show ls ++ [D] = (xs.take (j + 1)).map hexT by rw [HL.out, List.take_succ_eq_append_getElem hlt, List.map_append, hD, hz]; rfl)
        clear hz hD
        go_wp2_with fail
        refine (impl_hexOf z HRZ.out _ (HT.out.below HG.out.below)).mono ?_
        rw [← HD.out]
        rintro e w2 ⟨rfl, hb2⟩
        have HG2 := Lib.hid (gathT_below HG.out hb2)
        clear hb2
        go_wp2_with (at_builtin; refine wpList_pushS w _ _ D _ HG2 HLN.out (by rfl) _ _ (by rfl) (by rfl) (by rfl) ?_; intro v' w' HG')
        go_roundw
        case rel => exact ⟨j + 1, by omega, by go_num, Lib.hid ⟨_, HN.out, HG'.out⟩⟩
        case measure => simp [RowKit.intOf]; omega
      · have hjl : j = xs.length := by omega
        have hls2 : ls = xs.map hexT := by rw [HL.out, hjl, List.take_length]
        have hlm : ls.length ≤ 1048576 := by rw [hls2, List.length_map]; omega
        have HV := Lib.hid (show joinedV ls = textX xs by rw [hls2]; rfl)
        have hjl2 := joinX_len xs.length (Nat.le_refl _)
        rw [List.take_length] at hjl2
        have hjn : (join ls [44]).length ≤ 1099511627776 := by rw [hls2]; show (joinX xs).length ≤ _; omega
        clear hjl hls2 hjl2
        obtain ⟨A', c', rfl, hg⟩ := gathT_shape HG.out
        have HG3 := Lib.hid hg
        clear hg HG
        go_wp2_with fail
        have HCJ := Lib.hid (impl_joined ls A' c' w wr HG3.out hlm hjn)
        refine HCJ.out.mono ?_
        rw [HV.out]
        rintro e w2 ⟨rfl, hb2⟩
        have HB2 := Lib.hid (HG3.out.below.trans (Below.mono hb2 HG3.out.below.size))
        clear hb2 HCJ
        go_wp2
        go_ret2
        rw [HF.out]
        exact ⟨rfl, HB2.out⟩
  · have hd : decide ((256 : Int) < (xs.length : Int)) = true := decide_eq_true (by omega)
    have HF := Lib.hid (show fewB xs = false from decide_eq_false (by omega))
    go_enter Tryz.func31, Tryz.ntmps31
    go_wp2
    go_ret2
    rw [HF.out]
    exact ⟨rfl, Below.refl _ _⟩

end Go.Proofs.YtkfhgjknmdlhbaaGreatDoor.Ec