/- The walks: ReadNumbers. -/
import Derived.Test.YtkfhgjknmdlhbaaGreatDoorEf
import Derived.Test.YtkfhgjknmdlhbaaGreatDoorEg
namespace Go.Proofs.YtkfhgjknmdlhbaaGreatDoor.Eh
open Go Go.RowKit Go.Lib Fb WA Da Dd De Dm Dn Ea Eb Ec Ee Ef Eg
set_option linter.unusedVariables false
theorem spec_l01From (n : Nat) (hn : n < 4294967296) (w : World) : Calls Tryz.prog 52 #[.int .i64 n] w fun e w' => e = .returned (.float .f32 n) ∧ w' = w := by
  go_enter Tryz.func52, Tryz.ntmps52
  go_wp2
  go_ret
  exact ⟨rfl, rfl⟩
theorem hexA_snoc : ∀ (l : List UInt8) (acc : Nat) (c : UInt8), hexA acc (l ++ [c]) = (hexA acc l).bind fun a => if hexD c < 16 then some (a * 16 + hexD c) else none
  | [], acc, c => by
    rw [List.nil_append, hexA, hexA]
    rfl
  | x :: l, acc, c => by
    rw [List.cons_append, hexA, hexA]
    split
    · exact hexA_snoc l _ c
    · rfl
/-- k digits read: v. -/
def HexK (t : ByteArray) (k v : Nat) : Prop := (t.data.toList.take k).all lowH = true ∧ hexA 0 (t.data.toList.take k) = some v ∧ v < 16 ^ k
theorem HexK.zero (t : ByteArray) : HexK t 0 0 := ⟨rfl, rfl, by omega⟩
theorem HexK.step {t : ByteArray} {k v : Nat} (h : HexK t k v) (hk : k < t.size) (hc : lowH t[k] = true) : HexK t (k + 1) (v * 16 + hexD t[k]) := by
  obtain ⟨h1, h2, h3⟩ := h
  have hd := (low_of hc).1
  refine ⟨?_, ?_, ?_⟩
  · rw [Dj.take_snoc t k hk, List.all_append, h1]; simp [hc]
  · rw [Dj.take_snoc t k hk, hexA_snoc, h2, Option.bind_some, if_pos hd]
  · rw [Nat.pow_succ]; omega
theorem HexK.bad {t : ByteArray} {k : Nat} (hk : k < t.size) (hc : lowH t[k] = false) : okX t.data.toList = false := by
  refine okX_bad ?_
  rw [List.all_eq_false]
  exact ⟨t[k], by rw [show t[k] = t.data.toList[k]'(by simpa using hk) from rfl]; exact List.getElem_mem _, by simp [hc]⟩
theorem HexK.done {t : ByteArray} {k v : Nat} (h : HexK t k v) (h8 : t.size = 8) (hk : k = 8) : v = readX t.data.toList ∧ t.data.toList.all lowH = true ∧ v < 4294967296 := by
  subst hk
  obtain ⟨h1, h2, h3⟩ := h
  rw [List.take_of_length_le (by show t.size ≤ 8; omega)] at h1 h2
  exact ⟨by unfold readX parsed; rw [h2]; rfl, h1, by simpa using h3⟩
theorem xsB_long {l : List UInt8} (h : ¬ (piecesV l).length ≤ 256) : xsB l = false := by unfold xsB; rw [decide_eq_false h]; rfl
theorem xsB_no {P : List (List UInt8)} {l : List UInt8} {j : Nat} (hP : P = piecesV l) (hj : j < P.length) (h : okX P[j] = false) : xsB l = false := by
  unfold xsB
  rw [← hP, Bool.and_eq_false_iff]; right
  rw [List.all_eq_false]
  exact ⟨P[j], List.getElem_mem hj, by simp [h]⟩
theorem xs_fail {l : List UInt8} {w w' : World} (h : xsB l = false) (hb : Below w.heap.size w w') : RetLF (xsV l) (xsB l) w (.returned (.tuple #[.slice none 0 0, .bool false])) w' := by
  rw [h]; exact RetLF.no hb
theorem xs_ok {P : List (List UInt8)} {l : List UInt8} {zs : List Nat} {w w' : World} {v : Value} (h1 : zs = P.map readX) (h2 : P.all okX = true) (hP : P = piecesV l) (h256 : P.length ≤ 256) (hg : Gath w w' v zs) :
    RetLF (xsV l) (xsB l) w (.returned (.tuple #[v, .bool true])) w' := by
  have e : xsB l = true := by unfold xsB; rw [← hP, h2, decide_eq_true h256]; rfl
  have e2 : zs = xsV l := by unfold xsV; rw [h1, hP]
  rw [e]; exact hg.retLF e2
theorem take_mapX {P : List (List UInt8)} {j : Nat} (hj : j < P.length) : (P.take j).map readX ++ [readX P[j]] = (P.take (j + 1)).map readX := by
  rw [List.take_succ_eq_append_getElem hj, List.map_append]; rfl
theorem all_stepX {P : List (List UInt8)} {j : Nat} (hj : j < P.length) (h : (P.take j).all okX = true) (hr : okX P[j] = true) : (P.take (j + 1)).all okX = true := by
  rw [List.take_succ_eq_append_getElem hj, List.all_append, h]; simp [hr]
/-- The text of the numbers that were read is the text, or not. -/
theorem final_ok {s : ByteArray} {P : List (List UInt8)} (hP : P = piecesV s.data.toList) (hl : ∀ p ∈ P, p.length = 8) (h : P.length ≤ 256) : xsB s.data.toList = decide (textX (P.map readX) = s.data.toList) := by
  unfold xsB
  rw [← hP, decide_eq_true h, Bool.true_and, all_ok hl]
  unfold piecesV at hP
  split at hP
  · subst hP
    rename_i hn
    rw [hn]
    rfl
  · rename_i hn
    subst hP
    have := text_back hn
    by_cases e : (cutF s.data.toList).map (fun p => hexT (readX p)) = cutF s.data.toList
    · rw [decide_eq_true e, decide_eq_true (this.2 e)]
    · rw [decide_eq_false e, decide_eq_false (fun h => e (this.1 h))]
set_option maxRecDepth 20000 in
set_option maxHeartbeats 16000000 in
theorem impl_ReadNumbers (s : ByteArray) (hs : s.size ≤ 1048576) (w : World) (ht : Bru w) (he : ErrS w) (hm : MaxL w) : Calls Tryz.prog 32 #[.string s] w (RetLF (xsV s.data.toList) (xsB s.data.toList) w) := by
  have HT := Lib.hid ht
  have HE := Lib.hid he
  have HPL := Lib.hid (show (piecesV s.data.toList).length ≤ 1048577 by have := Dp.pieces_len s; omega)
  have HMX := Lib.hid hm
  clear ht he hm
  go_enter Tryz.func32, Tryz.ntmps32
  go_wp2_with fail
  refine (impl_pieces s hs _ (HMX.out.below (Gath.empty w).below)).mono ?_
  rintro e w1 ⟨A, c, rfl, hr1, hb1⟩
  have R1 := Lib.hid hr1
  have G1 := Lib.hid (GI.zero (gath_below (Gath.empty w) hb1))
  have B1 := Lib.hid ((Gath.empty w).below.trans (Below.mono hb1 (Gath.empty w).below.size))
  clear hr1 hb1
  generalize hP : piecesV s.data.toList = P at R1 HPL
  have HP := Lib.hid hP.symm
  clear hP
  have hpl := HPL.out
  go_wp2
  go_loopw [4, 13] (fun v i wr => ∃ (j : Nat) (rs : List Nat) (A : Option Addr) (c : Nat), j ≤ P.length ∧ j ≤ 256 ∧ rs.length = j ∧ v = .slice A rs.length c ∧ i = .int .i64 j ∧ Hid (GI w w1 wr v rs) ∧ Hid (rs = (P.take j).map readX ∧ ∀ p ∈ P.take j, p.length = 8)) (fun _ i _ => P.length - (RowKit.intOf i).toNat)
  case atStart => exact ⟨0, [], _, _, by omega, by omega, rfl, rfl, rfl, G1, Lib.hid ⟨rfl, by simp⟩⟩
  case round =>
    obtain ⟨j, rs, A', c', hj, hj256, hrl, rfl, rfl, HG, HA⟩ := hrel
    have HLN := Lib.hid (show rs.length ≤ 1099511627776 by omega)
    have HRL := Lib.hid hrl
    have HB := Lib.hid (B1.out.trans (Below.mono HG.out.below B1.out.size))
    by_cases hlt : j < P.length
    · obtain ⟨ad, rfl, hb, hc⟩ := (R1.out.below HG.out.below).at_ hlt
      obtain ⟨t, ht⟩ : ∃ t : ByteArray, t = ⟨(P[j]).toArray⟩ := ⟨_, rfl⟩
      have HTL := Lib.hid (show P[j] = t.data.toList by rw [ht])
      rw [← ht] at hc
      clear ht
      by_cases h8 : t.size = 8
      · have h8' : ((t.size : Int) != 8) = false := by simp; omega
        by_cases hjj : j = 256
        · have HF := Lib.hid (show xsB s.data.toList = false from xsB_long (by rw [← HP.out]; omega))
          have hjb : ((rs.length : Int) == 256) = true := by simp; omega
          clear hrl hjj
          go_wp2
          go_ret2
          exact xs_fail HF.out HB.out
        · have hjb : ((rs.length : Int) == 256) = false := by simp; omega
          have HM := Lib.hid (show rs ++ [readX t.data.toList] = (P.take (j + 1)).map readX ∧ ∀ p ∈ P.take (j + 1), p.length = 8 by
            refine ⟨by rw [HA.out.1, ← HTL.out]; exact take_mapX hlt, ?_⟩
            intro p hp
            rw [List.take_succ_eq_append_getElem hlt, List.mem_append, List.mem_singleton] at hp
            rcases hp with hp | rfl
            · exact HA.out.2 p hp
            · rw [HTL.out]; exact h8)
          clear hrl
          go_wp2_with fail
          refine (impl_readHex t h8 _ (HE.out.below HB.out)).mono ?_
          rintro e w2 ⟨rfl, hb2⟩
          have HG2 := Lib.hid (HG.out.after hb2)
          clear hb2
          go_wp2_with (at_builtin; refine wpList_pushI w w1 _ _ (readX t.data.toList) _ HG2 HLN.out (by rfl) _ _ (by rfl) (by rfl) (by rfl) ?_; intro v' w' HG')
          obtain ⟨A2, c2, rfl, _⟩ := own_shape (HG'.out.gath B1.out).own
          go_roundw
          case rel => exact ⟨j + 1, _, _, _, by omega, by omega, by rw [List.length_append, HRL.out]; rfl, rfl, by go_num, HG', HM⟩
          case measure => simp [RowKit.intOf]; omega
      · have h8' : ((t.size : Int) != 8) = true := by simp; omega
        have HF := Lib.hid (xsB_no HP.out hlt (by rw [HTL.out]; exact okX_len h8))
        clear hrl
        go_wp2
        go_ret2
        exact xs_fail HF.out HB.out
    · have hjl : j = P.length := by omega
      have HD := Lib.hid (show rs = P.map readX ∧ ∀ p ∈ P, p.length = 8 by
        have h := HA.out
        rw [hjl, List.take_length] at h
        exact h)
      have HF := Lib.hid (show xsB s.data.toList = decide (textX rs = s.data.toList) by rw [HD.out.1]; exact final_ok HP.out HD.out.2 (by omega))
      have HW := Lib.hid (show InW rs by
        intro x hx
        rw [HD.out.1] at hx
        obtain ⟨p, hp, rfl⟩ := List.mem_map.1 hx
        exact readX_lt (HD.out.2 p hp))
      have HFW := Lib.hid (show fewB rs = true from decide_eq_true (by omega))
      have hg := HG.out.gath B1.out
      have HR := Lib.hid (show Md.Rd wr wr.heap.size A' rs by
        have ho : Own wr w.heap.size A' c' rs := hg.own
        exact ho.rd)
      have HL := Lib.hid (show rs.length ≤ 1048576 by omega)
      clear hjl hrl hg
      by_cases hi : textX rs = s.data.toList
      · have hcm := Dj.cmp_eq hi
        rw [decide_eq_true hi] at HF
        clear hi
        go_wp2_with fail
        refine (impl_NumbersText rs A' c' _ wr.heap.size HR.out HL.out HW.out (Nat.le_refl _) (HT.out.below HB.out)).mono ?_
        rw [HFW.out]
        generalize textX rs = T at hcm ⊢
        rintro e w2 ⟨rfl, hb2⟩
        have HG2 := Lib.hid (HG.out.after hb2)
        clear hb2
        unfold pickS
        go_wp2
        go_ret2
        rw [HF.out]
        exact (HG2.out.gath B1.out).retLF (by rw [HD.out.1]; unfold xsV; rw [← HP.out])
      · have hcm := Dj.cmp_ne hi
        rw [decide_eq_false hi] at HF
        clear hi
        go_wp2_with fail
        refine (impl_NumbersText rs A' c' _ wr.heap.size HR.out HL.out HW.out (Nat.le_refl _) (HT.out.below HB.out)).mono ?_
        rw [HFW.out]
        generalize textX rs = T at hcm ⊢
        rintro e w2 ⟨rfl, hb2⟩
        have HB2 := Lib.hid (HB.out.trans (Below.mono hb2 HB.out.size))
        clear hb2
        unfold pickS
        go_wp2
        go_ret2
        exact xs_fail HF.out HB2.out

end Go.Proofs.YtkfhgjknmdlhbaaGreatDoor.Eh