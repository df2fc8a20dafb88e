/- The walks: NumbersText. -/
import Derived.Test.YtjkkfimkojmifaaDoorEb
import Derived.Test.YtjkkfimkojmifaaDoorDe
namespace Go.Proofs.YtjkkfimkojmifaaDoor.Ec
open Go Go.RowKit Go.Lib Da Dd De Ea Eb
set_option linter.unusedVariables false
def InW (xs : List Nat) : Prop := ∀ x ∈ xs, x < 4294967296
def joinX (xs : List Nat) : List UInt8 := join (xs.map hexT) [44]
def fewB (xs : List Nat) : Bool := decide ((xs.length : Int) ≤ 256)
/-- The text of a list of numbers. -/
def textX (xs : List Nat) : List UInt8 := joinedV (xs.map hexT)
theorem textX_none : textX [] = [110, 111, 110, 101] := rfl
theorem textX_some {xs : List Nat} (h : xs ≠ []) : textX xs = joinX xs := by
  unfold textX joinedV joinX
  rw [if_neg (by simpa using h)]
theorem joinX_one (x : Nat) : joinX [x] = hexT x := join_one _ _
theorem joinX_step {xs : List Nat} {j x : Nat} (h1 : 1 ≤ j) (hj : j < xs.length) (hz : x = xs[j]) : joinX (xs.take (j + 1)) = joinX (xs.take j) ++ [44] ++ hexT x := by
  obtain ⟨a, r, rfl⟩ : ∃ a r, xs = a :: r := by
    cases xs with
    | nil => simp at hj
    | cons a r => exact ⟨a, r, rfl⟩
  obtain ⟨k, rfl⟩ : ∃ k, j = k + 1 := ⟨j - 1, by omega⟩
  have hk : k < r.length := by simpa using hj
  have hz' : x = r[k] := by rw [hz]; rfl
  unfold joinX
  rw [List.take_succ_cons, List.take_succ_cons, List.map_cons, List.map_cons, join_cons, join_cons, List.map_take, List.map_take, joinTail_take_succ [44] (r.map hexT) k (hexT x) (by rw [List.getElem?_map, List.getElem?_eq_getElem hk, hz']; rfl)]
  simp [List.append_assoc]
theorem joinX_len {xs : List Nat} : ∀ j, j ≤ xs.length → (joinX (xs.take j)).length ≤ 9 * j
  | 0, _ => by simp [joinX, join_nil]
  | 1, h => by
    obtain ⟨a, r, rfl⟩ : ∃ a r, xs = a :: r := by
      cases xs with
      | nil => simp at h
      | cons a r => exact ⟨a, r, rfl⟩
    rw [List.take_succ_cons, List.take_zero, joinX_one, hexT_len]
    omega
  | j + 2, h => by
    have ih := joinX_len (j + 1) (show j + 1 ≤ xs.length by omega)
    rw [joinX_step (by omega) (show j + 1 < xs.length by omega) rfl]
    simp only [List.length_append, List.length_cons, List.length_nil, hexT_len]
    omega
theorem few_le {xs : List Nat} (h : fewB xs = true) : xs.length ≤ 256 := by
  unfold fewB at h
  simp only [decide_eq_true_eq] at h
  omega
theorem spec_l01Few (A : Option Addr) (xs : List Nat) (c : Nat) (w : World) : Calls Tryd.prog 41 #[.slice A xs.length c] w (RetQ (fewB xs) w) := by
  go_enter Tryd.func41, Tryd.ntmps41
  go_wp2
  go_ret
  exact ⟨rfl, rfl⟩
set_option maxHeartbeats 2000000 in
theorem spec_l01NText (xs : List Nat) (A : Option Addr) (c : Nat) (w : World) (M : Nat) (hx : Md.Rd w M A xs) (hl : xs.length ≤ 1048576) (hr : InW xs) (h256 : xs.length ≤ 256) (hM : M ≤ w.heap.size) : Calls Tryd.prog 42 #[.slice A xs.length c] w (RetS (textX xs) w) := by
  have HX := Lib.hid hx
  have HR := Lib.hid hr
  clear hx hr
  by_cases he : xs = []
  · subst he
    go_enter Tryd.func42, Tryd.ntmps42
    go_wp2
    go_ret
    exact ⟨rfl, Below.refl _ _⟩
  · have hne : 0 < xs.length := List.length_pos_iff.2 he
    have HT := Lib.hid (textX_some he)
    have hl0 : ¬ (xs.length : Int) = 0 := by omega
    have hlb : ((xs.length : Int) == 0) = false := by simpa using hl0
    clear he
    obtain ⟨ad, hA, hb, hc⟩ := HX.out.at_ hne
    subst hA
    obtain ⟨z0, hz0⟩ : ∃ z, z = xs[0] := ⟨_, rfl⟩
    rw [← hz0] at hc
    have hc0 : w.cell? ad = some (.float .f32 z0) := by
      have e : ad.add 0 = ad := by unfold Addr.add; simp
      rw [e] at hc; exact hc
    have HR0 := Lib.hid (HR.out z0 (by rw [hz0]; exact List.getElem_mem hne))
    have h1 := Lib.hid (show joinX (xs.take 1) = hexT z0 by
      obtain ⟨a, r, hzs⟩ : ∃ a r, xs = a :: r := by
        cases xs with
        | nil => simp at hne
        | cons a r => exact ⟨a, r, rfl⟩
      subst hzs
      rw [List.take_succ_cons, List.take_zero, joinX_one, hz0]; rfl)
    clear hz0
    go_enter Tryd.func42, Tryd.ntmps42
    go_wp2_with fail
    refine (spec_l01Hex z0 HR0.out _).mono ?_
    rintro e w1 ⟨rfl, hb1⟩
    have B1 := Lib.hid hb1
    clear hb1
    rw [← h1.out]
    go_wp2
    go_loopw [3, 4] (fun s i wr => ∃ (j : Nat) (S : List UInt8), 1 ≤ j ∧ j ≤ xs.length ∧ i = .int .i64 j ∧ s = .string ⟨S.toArray⟩ ∧ Hid (S = joinX (xs.take j)) ∧ Hid (Below w.heap.size w wr)) (fun _ i _ => xs.length - (RowKit.intOf i).toNat)
    case atStart => exact ⟨1, _, by omega, by omega, rfl, rfl, Lib.hid rfl, B1⟩
    case round =>
      obtain ⟨j, S, hj1, hj, rfl, rfl, HS, HB⟩ := hrel
      have hSl := joinX_len j hj
      rw [← HS.out] at hSl
      by_cases hlt : j < xs.length
      · obtain ⟨bd, hbd, hb2, hc2⟩ := ((HX.out.more hM).below HB.out).at_ hlt
        cases hbd
        obtain ⟨z, hz⟩ : ∃ z, z = xs[j] := ⟨_, rfl⟩
        rw [← hz] at hc2
        have HRZ := Lib.hid (HR.out z (by rw [hz]; exact List.getElem_mem hlt))
        have hN := Lib.hid (joinX_step hj1 hlt hz)
        obtain ⟨D, hD⟩ : ∃ D, D = hexT z := ⟨_, rfl⟩
        have hDl : D.length ≤ 8 := by rw [hD, hexT_len]; omega
        have HD := Lib.hid hD
        clear hz hD
        have hadd1 := add_comma D (by omega)
        have hadd2 : ∀ w, (Op.stringOp .add ⟨S.toArray⟩ ⟨(44 :: D).toArray⟩).run Tryd.prog w = .ok (.string ⟨(S ++ 44 :: D).toArray⟩) w := fun w => run_string_add_lists w S (44 :: D) (by omega) (by simp; omega)
        go_wp2_with fail
        refine (spec_l01Hex z HRZ.out _).mono ?_
        rw [← HD.out]
        rintro e w2 ⟨rfl, hb2'⟩
        have HB2 := Lib.hid (HB.out.trans (Below.mono hb2' HB.out.size))
        clear hb2'
        go_wp2
        go_roundw
        case rel => exact ⟨j + 1, _, by omega, by omega, by go_num, rfl, Lib.hid (by rw [hN.out, HS.out, HD.out, List.append_assoc]; rfl), HB2⟩
        case measure => simp [RowKit.intOf]; omega
      · have hjl : j = xs.length := by omega
        have HE := Lib.hid (show S = textX xs by rw [HT.out, HS.out, hjl, List.take_length])
        clear hjl hSl
        go_wp2
        go_ret
        exact ⟨by rw [HE.out]; rfl, HB.out⟩
theorem spec_NumbersText (xs : List Nat) (A : Option Addr) (c : Nat) (w : World) (M : Nat) (hx : Md.Rd w M A xs) (hl : xs.length ≤ 1048576) (hr : InW xs) (hM : M ≤ w.heap.size) : Calls Tryd.prog 16 #[.slice A xs.length c] w (RetSB (textX xs) (fewB xs) w) := by
  have HX := Lib.hid hx
  have HR := Lib.hid hr
  clear hx hr
  cases hb : fewB xs
  · have HB := Lib.hid hb
    clear hb
    go_enter Tryd.func16, Tryd.ntmps16
    go_wp2_with fail
    refine (spec_l01Few A xs c _).mono ?_
    unfold RetQ
    rw [HB.out]
    rintro e w ⟨rfl, rfl⟩
    go_wp2
    go_ret2
    exact ⟨rfl, Below.refl _ _⟩
  · have HB := Lib.hid hb
    clear hb
    go_enter Tryd.func16, Tryd.ntmps16
    go_wp2_with fail
    refine (spec_l01Few A xs c _).mono ?_
    unfold RetQ
    rw [HB.out]
    rintro e w ⟨rfl, rfl⟩
    go_wp2_with fail
    refine (spec_l01NText xs A c _ M (by exact HX.out) hl HR.out (few_le HB.out) hM).mono ?_
    rintro e w2 ⟨rfl, hb2⟩
    have HB2 := Lib.hid hb2
    clear hb2
    go_wp2
    go_ret2
    exact ⟨rfl, HB2.out⟩
def TextX (xs : List Nat) (w : World) (j : Nat) (v : Value) (wr : World) : Prop := ∃ ls, ls = (xs.take j).map hexT ∧ GathT w wr v ls
set_option maxHeartbeats 2000000 in
theorem impl_NumbersText (xs : List Nat) (A : Option Addr) (c : Nat) (w : World) (M : Nat) (hx : Md.Rd w M A xs) (hl : xs.length ≤ 1048576) (hr : InW xs) (hM : M ≤ w.heap.size) (ht : Bru w) : Calls Tryd.prog 18 #[.slice A xs.length c] w (RetSB (textX xs) (fewB xs) w) := by
  have HX := Lib.hid hx
  have HR := Lib.hid hr
  have HT := Lib.hid ht
  clear hx hr ht
  by_cases h256 : xs.length ≤ 256
  · have hd : decide ((256 : Int) < (xs.length : Int)) = false := decide_eq_false (by omega)
    have HF := Lib.hid (show fewB xs = true from decide_eq_true (by omega))
    go_enter Tryd.func18, Tryd.ntmps18
    go_wp2
    go_loopw [4, 13] (fun v i wr => ∃ j : Nat, j ≤ xs.length ∧ i = .int .i64 j ∧ Hid (TextX xs w j v wr)) (fun _ i _ => xs.length - (RowKit.intOf i).toNat)
    case atStart => exact ⟨0, by omega, rfl, Lib.hid ⟨[], rfl, GathT.empty w⟩⟩
    case round =>
      obtain ⟨j, hj, rfl, HJ⟩ := hrel
      obtain ⟨ls, hls, hg0⟩ := HJ.out
      have hll : ls.length = j := by rw [hls, List.length_map, List.length_take]; omega
      have HLN := Lib.hid (show ls.length ≤ 1099511627776 by omega)
      have HL := Lib.hid hls
      have HG := Lib.hid hg0
      clear HJ hls hg0 hll
      by_cases hlt : j < xs.length
      · obtain ⟨ad, rfl, hb, hc⟩ := ((HX.out.more hM).below HG.out.below).at_ hlt
        obtain ⟨z, hz⟩ : ∃ z, z = xs[j] := ⟨_, rfl⟩
        rw [← hz] at hc
        have HRZ := Lib.hid (HR.out z (by rw [hz]; exact List.getElem_mem hlt))
        obtain ⟨D, hD⟩ : ∃ D, D = hexT z := ⟨_, rfl⟩
        have HD := Lib.hid hD
        have HN := Lib.hid (show ls ++ [D] = (xs.take (j + 1)).map hexT by rw [HL.out, List.take_succ_eq_append_getElem hlt, List.map_append, hD, hz]; rfl)
        clear hz hD
        go_wp2_with fail
        refine (impl_hexOf z HRZ.out _ (HT.out.below HG.out.below)).mono ?_
        rw [← HD.out]
        rintro e w2 ⟨rfl, hb2⟩
        have HG2 := Lib.hid (gathT_below HG.out hb2)
        clear hb2
        go_wp2_with (at_builtin; refine wpList_pushS w _ _ D _ HG2 HLN.out (by rfl) _ _ (by rfl) (by rfl) (by rfl) ?_; intro v' w' HG')
        go_roundw
        case rel => exact ⟨j + 1, by omega, by go_num, Lib.hid ⟨_, HN.out, HG'.out⟩⟩
        case measure => simp [RowKit.intOf]; omega
      · have hjl : j = xs.length := by omega
        have hls2 : ls = xs.map hexT := by rw [HL.out, hjl, List.take_length]
        have hlm : ls.length ≤ 1048576 := by rw [hls2, List.length_map]; omega
        have HV := Lib.hid (show joinedV ls = textX xs by rw [hls2]; rfl)
        have hjl2 := joinX_len xs.length (Nat.le_refl _)
        rw [List.take_length] at hjl2
        have hjn : (join ls [44]).length ≤ 1099511627776 := by rw [hls2]; show (joinX xs).length ≤ _; omega
        clear hjl hls2 hjl2
        obtain ⟨A', c', rfl, hg⟩ := gathT_shape HG.out
        have HG3 := Lib.hid hg
        clear hg HG
        go_wp2_with fail
        have HCJ := Lib.hid (impl_joined ls A' c' w wr HG3.out hlm hjn)
        refine HCJ.out.mono ?_
        rw [HV.out]
        rintro e w2 ⟨rfl, hb2⟩
        have HB2 := Lib.hid (HG3.out.below.trans (Below.mono hb2 HG3.out.below.size))
        clear hb2 HCJ
        go_wp2
        go_ret2
        rw [HF.out]
        exact ⟨rfl, HB2.out⟩
  · have hd : decide ((256 : Int) < (xs.length : Int)) = true := decide_eq_true (by omega)
    have HF := Lib.hid (show fewB xs = false from decide_eq_false (by omega))
    go_enter Tryd.func18, Tryd.ntmps18
    go_wp2
    go_ret2
    rw [HF.out]
    exact ⟨rfl, Below.refl _ _⟩

end Go.Proofs.YtjkkfimkojmifaaDoor.Ec