/- The walks: ListText. -/
import Derived.Lib.Join
import Derived.Lib.AppendIntMem
import Derived.Laws.Concat
import Derived.Deep.RegionHeldLaw
import Derived.Test.YtjkkfimkojmifaaDoorSh
import Derived.Test.YtjkkfimkojmifaaDoorSj
import Derived.Test.YtjkkfimkojmifaaDoorDa
import Derived.Test.YtjkkfimkojmifaaDoorDc
namespace Go.Proofs.YtjkkfimkojmifaaDoor.Dd
open Go Go.RowKit Go.Lib Da Dc
set_option linter.unusedVariables false
theorem ret_bool {a b : Bool} (h : a = b) : Ending.returned (.bool a) = .returned (.bool b) := by rw [h]
def RetQ (b : Bool) (w : World) (e : Ending) (w' : World) : Prop := e = .returned (.bool b) ∧ w' = w
/-- What the walks ask of the listed table. -/
def Pow10 (w : World) : Prop := TabIs Tryd.prog w "internal/strconv.uint64pow10" .u64 pow10Tab
theorem Pow10.below {w w' : World} (h : Pow10 w) (hb : Below w.heap.size w w') : Pow10 w' := tabBelow_of_tabIs h w' hb
theorem Pow10.drewN {w : World} (h : Pow10 w) (n : Nat) : Pow10 (w.drewN n) := h
theorem Pow10.back {w : World} {n : Nat} (h : Pow10 (w.drewN n)) : Pow10 w := h
def okV (z : Int) : Bool := decide (-1000000000000000 ≤ z) && decide (z ≤ 1000000000000000)
def listB (zs : List Int) : Bool := zs.all okV && decide ((zs.length : Int) ≤ 64)
def joinT (zs : List Int) : List UInt8 := join (zs.map itoa) [44]
/-- The text of a list of numbers. -/
def textV (zs : List Int) : List UInt8 := if zs = [] then [110, 111, 110, 101] else joinT zs
theorem dec_ne (n : Nat) : decDigits n ≠ [] := by
  intro h
  have h1 := decDigits_length n
  rw [h] at h1
  have := nDigits_pos n
  simp at h1
  omega
theorem dec_len {n : Nat} (h : n ≤ 9223372036854775808) : (decDigits n).length ≤ 20 := by
  refine ext_len (m := 0) (n := n) ?_ h
  unfold ext
  rw [if_pos ⟨rfl, dec_ne n⟩]
theorem itoa_len {z : Int} (h0 : -9223372036854775808 ≤ z) (h1 : z ≤ 9223372036854775807) : (itoa z).length ≤ 21 := by
  unfold itoa
  split
  · have := dec_len (n := z.natAbs) (by omega)
    simp
    omega
  · have := dec_len (n := z.toNat) (by omega)
    omega
theorem joinT_one (z : Int) : joinT [z] = itoa z := join_one _ _
theorem joinT_step {zs : List Int} {j : Nat} {z : Int} (h1 : 1 ≤ j) (hj : j < zs.length) (hz : z = zs[j]) : joinT (zs.take (j + 1)) = joinT (zs.take j) ++ [44] ++ itoa z := by
  obtain ⟨a, r, rfl⟩ : ∃ a r, zs = a :: r := by
    cases zs with
    | nil => simp at hj
    | cons a r => exact ⟨a, r, rfl⟩
  obtain ⟨k, rfl⟩ : ∃ k, j = k + 1 := ⟨j - 1, by omega⟩
  have hk : k < r.length := by simpa using hj
  have hz' : z = r[k] := by rw [hz]; rfl
  unfold joinT
  rw [List.take_succ_cons, List.take_succ_cons, List.map_cons, List.map_cons, join_cons, join_cons, List.map_take, List.map_take, joinTail_take_succ [44] (r.map itoa) k (itoa z) (by rw [List.getElem?_map, List.getElem?_eq_getElem hk, hz']; rfl)]
  simp [List.append_assoc]
def InR (zs : List Int) : Prop := ∀ z ∈ zs, -9223372036854775808 ≤ z ∧ z ≤ 9223372036854775807
theorem joinT_len {zs : List Int} (hr : InR zs) : ∀ j, j ≤ zs.length → (joinT (zs.take j)).length ≤ 22 * j
  | 0, _ => by simp [joinT, join_nil]
  | 1, h => by
    obtain ⟨a, r, rfl⟩ : ∃ a r, zs = a :: r := by
      cases zs with
      | nil => simp at h
      | cons a r => exact ⟨a, r, rfl⟩
    have := itoa_len (hr a (by simp)).1 (hr a (by simp)).2
    rw [List.take_succ_cons, List.take_zero, joinT_one]
    omega
  | j + 2, h => by
    have ih := joinT_len hr (j + 1) (by omega)
    have hm := hr _ (List.getElem_mem (show j + 1 < zs.length by omega))
    have := itoa_len hm.1 hm.2
    rw [joinT_step (by omega) (show j + 1 < zs.length by omega) rfl]
    simp only [List.length_append, List.length_cons, List.length_nil]
    omega

theorem impl_within (a b c : Int) (w : World) : Calls Tryd.prog 65 #[.int .i64 a, .int .i64 b, .int .i64 c] w (RetQ (decide (b ≤ a) && decide (a ≤ c)) w) := by
  generalize hB : (decide (b ≤ a) && decide (a ≤ c)) = t
  have HB := Lib.hid hB
  clear hB
  by_cases h1 : b ≤ a
  · by_cases h2 : a ≤ c
    · have hb := Lib.hid (show true = t by rw [← HB.out, decide_eq_true h1, decide_eq_true h2]; rfl)
      go_enter Tryd.func65, Tryd.ntmps65
      go_wp2
      go_ret
      exact ⟨ret_bool hb.out, rfl⟩
    · have hb := Lib.hid (show false = t by rw [← HB.out, decide_eq_false h2]; simp)
      go_enter Tryd.func65, Tryd.ntmps65
      go_wp2
      go_ret
      exact ⟨ret_bool hb.out, rfl⟩
  · have hb := Lib.hid (show false = t by rw [← HB.out, decide_eq_false h1]; rfl)
    go_enter Tryd.func65, Tryd.ntmps65
    go_wp2
    go_ret
    exact ⟨ret_bool hb.out, rfl⟩

theorem spec_l00In (a b c : Int) (w : World) : Calls Tryd.prog 58 #[.int .i64 a, .int .i64 b, .int .i64 c] w (RetQ (decide (b ≤ a) && decide (a ≤ c)) w) := by
  generalize hB : (decide (b ≤ a) && decide (a ≤ c)) = t
  have HB := Lib.hid hB
  clear hB
  by_cases h1 : b ≤ a
  · by_cases h2 : a ≤ c
    · have hb := Lib.hid (show true = t by rw [← HB.out, decide_eq_true h1, decide_eq_true h2]; rfl)
      go_enter Tryd.func58, Tryd.ntmps58
      go_wp2
      go_ret
      exact ⟨ret_bool hb.out, rfl⟩
    · have hb := Lib.hid (show false = t by rw [← HB.out, decide_eq_false h2]; simp)
      go_enter Tryd.func58, Tryd.ntmps58
      go_wp2
      go_ret
      exact ⟨ret_bool hb.out, rfl⟩
  · have hb := Lib.hid (show false = t by rw [← HB.out, decide_eq_false h1]; rfl)
    go_enter Tryd.func58, Tryd.ntmps58
    go_wp2
    go_ret
    exact ⟨ret_bool hb.out, rfl⟩

theorem allV_step {zs : List Int} {j : Nat} {z : Int} (hj : j < zs.length) (hz : z = zs[j]) (h : (zs.take j).all okV = true) (hf : okV z = true) : (zs.take (j + 1)).all okV = true := by
  rw [List.take_succ_eq_append_getElem hj, List.all_append, h, ← hz]; simp [hf]
theorem allV_no {zs : List Int} {j : Nat} {z : Int} (hj : j < zs.length) (hz : z = zs[j]) (hf : okV z = false) : listB zs = false := by
  unfold listB
  have : zs.all okV = false := by
    rw [List.all_eq_false]
    exact ⟨z, by rw [hz]; exact List.getElem_mem hj, by simp [hf]⟩
  rw [this]; rfl
theorem allV_done {zs : List Int} {j : Nat} (hj : j ≤ zs.length) (hl : ¬ j < zs.length) (h : (zs.take j).all okV = true) : decide ((zs.length : Int) ≤ 64) = listB zs := by
  obtain rfl : j = zs.length := by omega
  rw [List.take_length] at h
  unfold listB
  rw [h]; rfl
theorem impl_isValue (z : Int) (w : World) : Calls Tryd.prog 48 #[.int .i64 z] w (RetQ (okV z) w) := by
  go_enter Tryd.func48, Tryd.ntmps48
  go_wp2_with fail
  refine (impl_within z (-1000000000000000) 1000000000000000 _).mono ?_
  rintro e w ⟨rfl, rfl⟩
  go_wp2
  go_ret
  exact ⟨rfl, rfl⟩

set_option maxHeartbeats 1000000 in
theorem spec_l01List (zs : List Int) (A : Option Addr) (c : Nat) (w : World) (M : Nat) (hx : Rd w M A zs) (hl : zs.length ≤ 1048576) : Calls Tryd.prog 37 #[.slice A zs.length c] w (RetQ (listB zs) w) := by
  have HX := Lib.hid hx
  clear hx
  go_enter Tryd.func37, Tryd.ntmps37
  go_wp2
  go_loopw [3] (fun i wr => ∃ j : Nat, j ≤ zs.length ∧ i = .int .i64 j ∧ Hid ((zs.take j).all okV = true) ∧ wr = w) (fun i _ => zs.length - (RowKit.intOf i).toNat)
  case atStart => exact ⟨0, by omega, rfl, Lib.hid rfl, rfl⟩
  case round =>
    obtain ⟨j, hj, rfl, ha, rfl⟩ := hrel
    by_cases hlt : j < zs.length
    · obtain ⟨ad, rfl, hb, hc⟩ := HX.out.at_ hlt
      obtain ⟨z, hz⟩ : ∃ z, z = zs[j] := ⟨_, rfl⟩
      rw [← hz] at hc
      have HZ := Lib.hid hz
      clear hz
      cases hf : okV z
      · have HN := Lib.hid (allV_no hlt HZ.out hf)
        have HF := Lib.hid hf
        clear hf
        go_wp2_with fail
        refine (spec_l00In z (-1000000000000000) 1000000000000000 _).mono ?_
        unfold RetQ
        rw [show (decide (-1000000000000000 ≤ z) && decide (z ≤ 1000000000000000)) = _ from HF.out]
        rintro e w' ⟨rfl, rfl⟩
        go_wp2
        go_ret
        exact ⟨ret_bool HN.out.symm, rfl⟩
      · have HS := Lib.hid (allV_step hlt HZ.out ha.out hf)
        have HF := Lib.hid hf
        clear ha hf
        go_wp2_with fail
        refine (spec_l00In z (-1000000000000000) 1000000000000000 _).mono ?_
        unfold RetQ
        rw [show (decide (-1000000000000000 ≤ z) && decide (z ≤ 1000000000000000)) = _ from HF.out]
        rintro e w' ⟨rfl, rfl⟩
        go_wp2
        go_roundw
        case rel => exact ⟨j + 1, by omega, by go_num, HS, by first | trivial | rfl⟩
        case measure => simp [RowKit.intOf]; omega
    · have hd := Lib.hid (allV_done hj hlt ha.out)
      go_wp2
      go_ret
      exact ⟨ret_bool hd.out, rfl⟩

set_option maxHeartbeats 1000000 in
theorem impl_areValues (zs : List Int) (A : Option Addr) (c : Nat) (w : World) (M : Nat) (hx : Rd w M A zs) (hl : zs.length ≤ 1048576) : Calls Tryd.prog 39 #[.slice A zs.length c] w (RetQ (listB zs) w) := by
  have HX := Lib.hid hx
  clear hx
  go_enter Tryd.func39, Tryd.ntmps39
  go_wp2
  go_loopw [7] (fun i wr => ∃ j : Nat, j ≤ zs.length ∧ i = .int .i64 j ∧ Hid ((zs.take j).all okV = true) ∧ wr = w) (fun i _ => zs.length - (RowKit.intOf i).toNat)
  case atStart => exact ⟨0, by omega, rfl, Lib.hid rfl, rfl⟩
  case round =>
    obtain ⟨j, hj, rfl, ha, rfl⟩ := hrel
    by_cases hlt : j < zs.length
    · obtain ⟨ad, rfl, hb, hc⟩ := HX.out.at_ hlt
      obtain ⟨z, hz⟩ : ∃ z, z = zs[j] := ⟨_, rfl⟩
      rw [← hz] at hc
      have HZ := Lib.hid hz
      clear hz
      cases hf : okV z
      · have HN := Lib.hid (allV_no hlt HZ.out hf)
        have HF := Lib.hid hf
        clear hf
        go_wp2_with fail
        refine (impl_isValue z _).mono ?_
        unfold RetQ
        rw [HF.out]
        rintro e w' ⟨rfl, rfl⟩
        go_wp2
        go_ret
        exact ⟨ret_bool HN.out.symm, rfl⟩
      · have HS := Lib.hid (allV_step hlt HZ.out ha.out hf)
        have HF := Lib.hid hf
        clear ha hf
        go_wp2_with fail
        refine (impl_isValue z _).mono ?_
        unfold RetQ
        rw [HF.out]
        rintro e w' ⟨rfl, rfl⟩
        go_wp2
        go_roundw
        case rel => exact ⟨j + 1, by omega, by go_num, HS, by first | trivial | rfl⟩
        case measure => simp [RowKit.intOf]; omega
    · have hd := Lib.hid (allV_done hj hlt ha.out)
      go_wp2
      go_ret
      exact ⟨ret_bool hd.out, rfl⟩

theorem add_comma (D : List UInt8) (hD : D.length ≤ 8388607) (w : World) : (Op.stringOp .add ⟨#[44]⟩ ⟨D.toArray⟩).run Tryd.prog w = .ok (.string ⟨(44 :: D).toArray⟩) w := by
  have := run_string_add_lists (P := Tryd.prog) w [44] D (by simp) (by omega)
  exact this
set_option maxHeartbeats 2000000 in
theorem spec_l01Text (zs : List Int) (A : Option Addr) (c : Nat) (w : World) (M : Nat) (hx : Rd w M A zs) (hl : zs.length ≤ 1048576) (hr : InR zs) (h64 : zs.length ≤ 64) (hM : M ≤ w.heap.size) : Calls Tryd.prog 38 #[.slice A zs.length c] w (RetS (textV zs) w) := by
  have HX := Lib.hid hx
  have HR := Lib.hid hr
  clear hx hr
  by_cases he : zs = []
  · subst he
    go_enter Tryd.func38, Tryd.ntmps38
    go_wp2
    go_ret
    exact ⟨rfl, Below.refl _ _⟩
  · have hne : 0 < zs.length := List.length_pos_iff.2 he
    have HT := Lib.hid (show textV zs = joinT zs by unfold textV; rw [if_neg he])
    have hl0 : ¬ (zs.length : Int) = 0 := by omega
    have hlb : ((zs.length : Int) == 0) = false := by simpa using hl0
    clear he
    obtain ⟨ad, hA, hb, hc⟩ := HX.out.at_ hne
    subst hA
    obtain ⟨z0, hz0⟩ : ∃ z, z = zs[0] := ⟨_, rfl⟩
    rw [← hz0] at hc
    have hc0 : w.cell? ad = some (.int .i64 z0) := by
      have e : ad.add 0 = ad := by unfold Addr.add; simp
      rw [e] at hc; exact hc
    have hr0 := HR.out z0 (by rw [hz0]; exact List.getElem_mem hne)
    have h1 := Lib.hid (show joinT (zs.take 1) = itoa z0 by
      obtain ⟨a, r, hzs⟩ : ∃ a r, zs = a :: r := by
        cases zs with
        | nil => simp at hne
        | cons a r => exact ⟨a, r, rfl⟩
      subst hzs
      rw [List.take_succ_cons, List.take_zero, joinT_one, hz0]; rfl)
    clear hz0
    go_enter Tryd.func38, Tryd.ntmps38
    go_wp2_with fail
    refine (spec_l01Dec z0 hr0.1 hr0.2 _).mono ?_
    rintro e w1 ⟨rfl, hb1⟩
    have B1 := Lib.hid hb1
    clear hb1
    rw [← h1.out]
    go_wp2
    go_loopw [3, 4] (fun s i wr => ∃ (j : Nat) (S : List UInt8), 1 ≤ j ∧ j ≤ zs.length ∧ i = .int .i64 j ∧ s = .string ⟨S.toArray⟩ ∧ Hid (S = joinT (zs.take j)) ∧ Hid (Below w.heap.size w wr)) (fun _ i _ => zs.length - (RowKit.intOf i).toNat)
    case atStart => exact ⟨1, _, by omega, by omega, rfl, rfl, Lib.hid rfl, B1⟩
    case round =>
      obtain ⟨j, S, hj1, hj, rfl, rfl, HS, HB⟩ := hrel
      have hSl := joinT_len HR.out j hj
      rw [← HS.out] at hSl
      by_cases hlt : j < zs.length
      · obtain ⟨bd, hbd, hb2, hc2⟩ := ((HX.out.more hM).below HB.out).at_ hlt
        cases hbd
        obtain ⟨z, hz⟩ : ∃ z, z = zs[j] := ⟨_, rfl⟩
        rw [← hz] at hc2
        have hrz := HR.out z (by rw [hz]; exact List.getElem_mem hlt)
        have hN := Lib.hid (joinT_step hj1 hlt hz)
        obtain ⟨D, hD⟩ : ∃ D, D = itoa z := ⟨_, rfl⟩
        have hDl : D.length ≤ 21 := by rw [hD]; exact itoa_len hrz.1 hrz.2
        have HD := Lib.hid hD
        clear hz hD
        have hadd1 := add_comma D (by omega)
        have hadd2 : ∀ w, (Op.stringOp .add ⟨S.toArray⟩ ⟨(44 :: D).toArray⟩).run Tryd.prog w = .ok (.string ⟨(S ++ 44 :: D).toArray⟩) w := fun w => run_string_add_lists w S (44 :: D) (by omega) (by simp; omega)
        go_wp2_with fail
        refine (spec_l01Dec z hrz.1 hrz.2 _).mono ?_
        rw [← HD.out]
        rintro e w2 ⟨rfl, hb2'⟩
        have HB2 := Lib.hid (HB.out.trans (Below.mono hb2' HB.out.size))
        clear hb2'
        go_wp2
        go_roundw
        case rel => exact ⟨j + 1, _, by omega, by omega, by go_num, rfl, Lib.hid (by rw [hN.out, HS.out, HD.out, List.append_assoc]; rfl), HB2⟩
        case measure => simp [RowKit.intOf]; omega
      · have hjl : j = zs.length := by omega
        have HE := Lib.hid (show S = textV zs by rw [HT.out, HS.out, hjl, List.take_length])
        clear hjl hSl
        go_wp2
        go_ret
        exact ⟨by rw [HE.out]; rfl, HB.out⟩
theorem impl_Decimal (n : Int) (h0 : -9223372036854775808 ≤ n) (h1 : n ≤ 9223372036854775807) (w : World) (ht : Pow10 w) : Calls Tryd.prog 11 #[.int .i64 n] w (RetS (itoa n) w) := by
  have HT := Lib.hid ht
  clear ht
  go_enter Tryd.func11, Tryd.ntmps11
  go_wp2_with fail
  refine (Tryd.strconv_FormatInt_10 n h0 h1 _ HT.out).mono ?_
  rintro e w' ⟨rfl, k, os, rfl⟩
  have HB := Lib.hid (Lib.below_grow w.heap.size w (Nat.le_refl _) k os)
  generalize Sort.grow (w.drewN k) os = w2 at HB ⊢
  go_wp2
  go_ret
  exact ⟨rfl, HB.out⟩

end Go.Proofs.YtjkkfimkojmifaaDoor.Dd