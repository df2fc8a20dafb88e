/- The walks: ReadComplex: the program's side. -/
import Derived.Test.YtkfhgjknmdlhbaaGreatDoorEl
import Derived.Deep.RegionLaw
import Derived.Deep.RegionHeldLaw
import Derived.Deep.CutRange
namespace Go.Proofs.YtkfhgjknmdlhbaaGreatDoor.Eo
open Go Go.RowKit Go.Lib Fb WA Da Dd De Dm Dn Ea Eb Ec Ee Ef Ej Ek El
open De (pickS)
set_option linter.unusedVariables false
theorem giDrewN {w0 w1 wr : World} {v : Value} {rs : List (Nat × Nat)} (h : GI w0 w1 wr v rs) (n : Nat) : GI w0 w1 (wr.drewN n) v rs := h.after (Mg.upd (Below.refl _ _))
theorem errDrewN {w : World} (h : ErrS w) (n : Nat) : ErrS (w.drewN n) := h.below (Mg.upd (Below.refl _ _))
theorem GI.pieceErr {w0 w1 wr : World} {v : Value} {rs : List (Nat × Nat)} (h : GI w0 w1 wr v rs) (hb : Below w0.heap.size w0 w1) (he : ErrS w0) : ErrS wr := he.below (hb.trans (Below.mono h.below hb.size))
set_option maxRecDepth 20000 in
set_option maxHeartbeats 16000000 in
theorem impl_ReadComplex (s : ByteArray) (hs : s.size ≤ 1048576) (w : World) (ht : Bru w) (he : ErrS w) (hm : MaxL w) : Calls Tryz.prog 18 #[.string s] w (RetLC (xcV s.data.toList) (xcB s.data.toList) w) := by
  have HT := Lib.hid ht
  have HE := Lib.hid he
  have HPL := Lib.hid (show (piecesV s.data.toList).length ≤ 1048577 by have := Dp.pieces_len s; omega)
  have HMX := Lib.hid hm
  clear ht he hm
  go_enter Tryz.func18, Tryz.ntmps18
  go_wp2_with fail
  refine (impl_pieces s hs _ (HMX.out.below (Gath.empty w).below)).mono ?_
  rintro e w1 ⟨A, c, rfl, hr1, hb1⟩
  have R1 := Lib.hid hr1
  have G1 := Lib.hid (GI.zero (gath_below (Gath.empty w) hb1))
  have B1 := Lib.hid ((Gath.empty w).below.trans (Below.mono hb1 (Gath.empty w).below.size))
  clear hr1 hb1
  generalize hP : piecesV s.data.toList = P at R1 HPL
  have HP := Lib.hid hP.symm
  clear hP
  have hpl := HPL.out
  go_wp2
  go_loopw [4, 13] (fun v i wr => ∃ (j : Nat) (rs : List (Nat × Nat)) (A : Option Addr) (c : Nat), j ≤ P.length ∧ j ≤ 256 ∧ rs.length = j ∧ v = .slice A rs.length c ∧ i = .int .i64 j ∧ Hid (GI w w1 wr v rs) ∧ Hid (rs = (P.take j).map readC ∧ ∀ p ∈ P.take j, p.length = 16)) (fun _ i _ => P.length - (RowKit.intOf i).toNat)
  case atStart => exact ⟨0, [], _, _, by omega, by omega, rfl, rfl, rfl, G1, Lib.hid ⟨rfl, by simp⟩⟩
  case round =>
    obtain ⟨j, rs, A', c', hj, hj256, hrl, rfl, rfl, HG, HA⟩ := hrel
    have HLN := Lib.hid (show rs.length ≤ 1099511627776 by omega)
    have HRL := Lib.hid hrl
    have HB := Lib.hid (B1.out.trans (Below.mono HG.out.below B1.out.size))
    by_cases hlt : j < P.length
    · obtain ⟨ad, rfl, hb, hc⟩ := (R1.out.below HG.out.below).at_ hlt
      obtain ⟨t, ht⟩ : ∃ t : ByteArray, t = ⟨(P[j]).toArray⟩ := ⟨_, rfl⟩
      have HTL := Lib.hid (show P[j] = t.data.toList by rw [ht])
      rw [← ht] at hc
      clear ht
      by_cases h16 : t.size = 16
      · have h16' : ((t.size : Int) != 16) = false := by simp; omega
        by_cases hjj : j = 256
        · have HF := Lib.hid (show xcB s.data.toList = false from xcB_long (by rw [← HP.out]; omega))
          have hjb : ((rs.length : Int) == 256) = true := by simp; omega
          clear hrl hjj
          go_wp2
          go_ret2
          exact xc_fail HF.out HB.out
        · have hjb : ((rs.length : Int) == 256) = false := by simp; omega
          have HM := Lib.hid (show rs ++ [readC t.data.toList] = (P.take (j + 1)).map readC ∧ ∀ p ∈ P.take (j + 1), p.length = 16 by
            refine ⟨by rw [HA.out.1, ← HTL.out]; exact take_mapC hlt, ?_⟩
            intro p hp
            rw [List.take_succ_eq_append_getElem hlt, List.mem_append, List.mem_singleton] at hp
            rcases hp with hp | rfl
            · exact HA.out.2 p hp
            · rw [HTL.out]; exact h16)
          have H1 := Lib.hid (half_1 h16).2
          have H2 := Lib.hid (half_2 h16).2
          obtain ⟨x1, hx1⟩ : ∃ x, x = readX (t.extract 0 8).data.toList := ⟨_, rfl⟩
          obtain ⟨x2, hx2⟩ : ∃ x, x = readX (t.extract 8 16).data.toList := ⟨_, rfl⟩
          have HC := Lib.hid (show readC t.data.toList = (x1, x2) by rw [readC_parts h16, hx1, hx2])
          have HX1 := Lib.hid hx1
          have HX2 := Lib.hid hx2
          clear hx1 hx2
          clear hrl
          have HE1 : Hid (ErrS wr.drew) := Lib.hid (errDrewN (HE.out.below HB.out) 1)
          have HG1 : Hid (GI w w1 wr.drew (.slice A' rs.length c') rs) := Lib.hid (giDrewN HG.out 1)
          go_wp2
          go_region_law (first
            | (refine step_pushI w w1 _ _ (x1, x2) _ HG3 HLN.out rfl _ _ rfl rfl rfl ?_; intro v' w' HG')
            | (go_simp; go_at_call 50; refine (impl_readHex (t.extract 8 16) H2.out _ HE2.out).mono ?_; rw [← HX2.out]; rintro e w3 ⟨rfl, hb3⟩; have HG3 := Lib.hid (HG2.out.after hb3); clear hb3)
            | (go_simp; go_at_call 50; refine (impl_readHex (t.extract 0 8) H1.out _ HE1.out).mono ?_; rw [← HX1.out]; rintro e w2 ⟨rfl, hb2⟩; have HE2 := Lib.hid (HE1.out.below hb2); have HG2 := Lib.hid (HG1.out.after hb2); clear hb2))
          obtain ⟨A2, c2, rfl, _⟩ := own_shape (HG'.out.gath B1.out).own
          have HG4 : Hid (GI w w1 w' (.slice A2 (rs.length + 1) c2) (rs ++ [(x1, x2)])) := by
            have h := HG'.out
            rw [List.length_append] at h
            exact Lib.hid h
          clear HG'
          go_wp2
          go_roundw
          case rel => exact ⟨j + 1, rs ++ [(x1, x2)], A2, c2, by omega, by omega, by rw [List.length_append, HRL.out]; rfl, by rw [List.length_append]; rfl, by go_num, HG4, by rw [← HC.out]; exact HM⟩
          case measure => simp [RowKit.intOf]; omega
      · have h16' : ((t.size : Int) != 16) = true := by simp; omega
        have HF := Lib.hid (xcB_no HP.out hlt (by rw [HTL.out]; exact okC_len h16))
        clear hrl
        go_wp2
        go_ret2
        exact xc_fail HF.out HB.out
    · have hjl : j = P.length := by omega
      have HD := Lib.hid (show rs = P.map readC ∧ ∀ p ∈ P, p.length = 16 by
        have h := HA.out
        rw [hjl, List.take_length] at h
        exact h)
      have HF := Lib.hid (show xcB s.data.toList = decide (textC rs = s.data.toList) by rw [HD.out.1]; exact finalC HP.out HD.out.2 (by omega))
      have HW := Lib.hid (show InC rs by
        intro x hx
        rw [HD.out.1] at hx
        obtain ⟨p, hp, rfl⟩ := List.mem_map.1 hx
        have hl := HD.out.2 p hp
        exact ⟨readX_lt (by rw [List.length_take]; omega), readX_lt (by rw [List.length_drop]; omega)⟩)
      have HFW := Lib.hid (show fewC rs = true from decide_eq_true (by omega))
      have hg := HG.out.gath B1.out
      have HR := Lib.hid (show Ej.Rd wr wr.heap.size A' rs by
        have ho : Own wr w.heap.size A' c' rs := hg.own
        exact ho.rd)
      have HL := Lib.hid (show rs.length ≤ 1048576 by omega)
      clear hjl hrl hg
      by_cases hi : textC rs = s.data.toList
      · have hcm := Dj.cmp_eq hi
        rw [decide_eq_true hi] at HF
        clear hi
        go_wp2_with fail
        refine (impl_ComplexText rs A' c' _ wr.heap.size HR.out HL.out HW.out (Nat.le_refl _) (HT.out.below HB.out)).mono ?_
        rw [HFW.out]
        generalize textC rs = T at hcm ⊢
        rintro e w2 ⟨rfl, hb2⟩
        have HG2 := Lib.hid (HG.out.after hb2)
        clear hb2
        unfold pickS
        go_wp2
        go_ret2
        rw [HF.out]
        exact (HG2.out.gath B1.out).retLC (by rw [HD.out.1]; unfold xcV; rw [← HP.out])
      · have hcm := Dj.cmp_ne hi
        rw [decide_eq_false hi] at HF
        clear hi
        go_wp2_with fail
        refine (impl_ComplexText rs A' c' _ wr.heap.size HR.out HL.out HW.out (Nat.le_refl _) (HT.out.below HB.out)).mono ?_
        rw [HFW.out]
        generalize textC rs = T at hcm ⊢
        rintro e w2 ⟨rfl, hb2⟩
        have HB2 := Lib.hid (HB.out.trans (Below.mono hb2 HB.out.size))
        clear hb2
        unfold pickS
        go_wp2
        go_ret2
        exact xc_fail HF.out HB2.out

end Go.Proofs.YtkfhgjknmdlhbaaGreatDoor.Eo