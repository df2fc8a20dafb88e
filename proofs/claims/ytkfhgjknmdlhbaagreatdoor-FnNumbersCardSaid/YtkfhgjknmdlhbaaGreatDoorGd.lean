/- FnNumbers: the walk. -/
import Derived.Test.YtkfhgjknmdlhbaaGreatDoorGc
namespace Go.Proofs.YtkfhgjknmdlhbaaGreatDoor.Gd
open Go Go.RowKit Go.Lib Fl Fs Fo Fw Fb WA WB WH WK WP WQ Xc Dm Ea Eb Ec Ee Ef Ga Gb Gc
open Mf (sumV sum_step sum_zero sum_done)
open Eg (Own)
open De (pickS)
open Mg (upd und)
set_option linter.unusedVariables false
set_option maxRecDepth 20000
theorem sum_any (xs : List Nat) (A : Option Addr) (c : Nat) (w : World) (M : Nat) (hx : Md.Rd w M A xs) (hl : xs.length ≤ 256) :
    Calls Tryz.prog 30 #[.slice A xs.length c] w fun e w' => ∃ r n, FV .f32 (sumV xs) r ∧ e = .returned (.tuple #[.float .f32 r, .bool true]) ∧ w' = w.drewN n := by
  have h := Mf.impl_SumNumbers xs A c w M hx (by omega)
  rw [decide_eq_true (show (xs.length : Int) ≤ 256 by omega)] at h
  exact h
theorem text_any (xs : List Nat) (A : Option Addr) (c : Nat) (w : World) (M : Nat) (hx : Md.Rd w M A xs) (hl : xs.length ≤ 256) (hr : InW xs) (hM : M ≤ w.heap.size) (ht : Bru w) :
    Calls Tryz.prog 31 #[.slice A xs.length c] w fun e w' => e = .returned (.tuple #[.string ⟨(textX xs).toArray⟩, .bool true]) ∧ Below w.heap.size w w' := by
  have h := impl_NumbersText xs A c w M hx (by omega) hr hM ht
  rw [show fewB xs = true from decide_eq_true (by omega)] at h
  exact h
theorem read_any (T : List UInt8) (qs : List Nat) (hq : xsV T = qs ∧ xsB T = true) (hl : T.length ≤ 1048576) (w : World) (ht : Bru w) (he : ErrS w) (hm : MaxL w) :
    Calls Tryz.prog 32 #[.string ⟨T.toArray⟩] w fun e w' => ∃ A c, e = .returned (.tuple #[.slice A qs.length c, .bool true]) ∧ Own w' w.heap.size A c qs ∧ Below w.heap.size w w' := by
  refine (Eh.impl_ReadNumbers ⟨T.toArray⟩ hl w ht he hm).mono ?_
  rintro e w' ⟨rs, A, c, hrs, rfl, ho, hb⟩
  have e1 : xsB ((⟨T.toArray⟩ : ByteArray).data.toList) = true := hq.2
  have e2 : rs = qs := by
    rw [hrs, e1, if_pos rfl]
    exact hq.1
  subst e2
  rw [e1]
  exact ⟨A, c, rfl, ho, hb⟩
set_option maxHeartbeats 16000000 in
theorem fnNumbers_walk (A0 : Option Addr) (c0 : Nat) (x0 : List Nat) (A1 : Option Addr) (c1 : Nat) (x1 : List Nat) (w : World) (ht : Bru w ∧ ErrS w ∧ MaxL w) (h0 : RdB w w.heap.size A0 x0) (h1 : RdB w w.heap.size A1 x1) :
    Calls Tryz.prog 4 #[.slice A0 x0.length c0, .slice A1 x1.length c1] w fun e w' => e = .returned (.bool true) ∧ Below w.heap.size w w' := by
  have H0 := Lib.hid h0
  have H1 := Lib.hid h1
  have HT := Lib.hid ht.1
  have HE := Lib.hid ht.2.1
  have HM := Lib.hid ht.2.2
  clear h0 h1 ht
  by_cases hl : x0.length ≤ 1048576 ∧ x1.length ≤ 1048576
  · obtain ⟨hl0, hl1⟩ := hl
    go_enter Tryz.func4, Tryz.ntmps4
    go_wp2_with fail
    refine (b10Long_no _ _ _ _ _ _ hl0 hl1 _).mono ?_
    rintro e w ⟨rfl, rfl⟩
    go_wp2_with fail
    refine (number_any A0 c0 x0 _ H0.out hl0).mono ?_
    rintro e w1 ⟨x, hx, rfl, hb1⟩
    have B1 := Lib.hid hb1
    have HX1 := Lib.hid ((H1.out.below hb1).more hb1.size)
    clear hb1
    go_wp2_with fail
    refine (number_any A1 c1 x1 _ HX1.out hl1).mono ?_
    rintro e w2 ⟨y, hy, rfl, hb2⟩
    have B2 := Lib.hid (B1.out.trans (Below.mono hb2 B1.out.size))
    have HX2 := Lib.hid ((HX1.out.below hb2).more hb2.size)
    have HY0 := Lib.hid ((H0.out.below B2.out).more B2.out.size)
    clear hb2 HX1
    go_wp2_with fail
    refine (impl_BitsOf x hx _).mono ?_
    rintro e w' ⟨rfl, rfl⟩
    go_wp2_with fail
    refine (impl_FromBits_in (bitsB x) (bitsB_range hx).1 (bitsB_range hx).2 _).mono ?_
    have HBK := Lib.hid (show sameB (bitsB x).toNat x = true ∧ W32 (bitsB x).toNat from ⟨same_yes (back_fl x), w32_of (by have := bitsB_range hx; omega)⟩)
    generalize (bitsB x).toNat = bk at HBK ⊢
    rintro e w' ⟨rfl, rfl⟩
    go_wp2_with fail
    refine (impl_FlushNumber x hx _).mono ?_
    rintro e w' ⟨z, nz, hz, rfl, rfl⟩
    have HZ := Lib.hid (show W32 z ∧ subB z = false ∧ sameB x z = !subB x from ⟨w32_fl hz (flushV_lt hx), flush_no_sub hx hz, flush_other hx hz⟩)
    clear hz
    go_wp2_with fail
    refine (b10At_any x0 _ _ 0 12 (by omega) (by omega) (by omega) (by omega) _ _ (by exact HY0.out) hl0).mono ?_
    rintro e w' ⟨i, hi, rfl, rfl⟩
    have HI := Lib.hid hi
    clear hi
    go_wp2_with fail
    refine (numbers_any i (by have := HI.out; omega) A1 c1 x1 _ (by exact HX2.out) hl1).mono ?_
    rintro e w3 ⟨rs, A', c', hrl, hrw, rfl, ho3, hb3⟩
    have HRL := Lib.hid (show rs.length ≤ 12 by have := HI.out; omega)
    have HRW := Lib.hid (show InW rs from hrw)
    have B3 := Lib.hid (B2.out.trans (Below.mono (und hb3) B2.out.size))
    have HR := Lib.hid (show Md.Rd w3 w3.heap.size A' rs from ho3.rd)
    have h12 := HRL.out
    clear ho3 hb3 hrl hrw HI
    go_wp2
    go_loopw [11, 41] (fun s i wr => ∃ j r N : Nat, j ≤ rs.length ∧ i = .int .i64 j ∧ s = .float .f32 r ∧ Hid (FV .f32 (sumV (rs.take j)) r) ∧ wr = w3.drewN N) (fun _ i _ => rs.length - (RowKit.intOf i).toNat)
    case atStart => exact ⟨0, 0, 0, by omega, rfl, rfl, Lib.hid (sum_zero rs), rfl⟩
    case round =>
      obtain ⟨j, s, N, hj, rfl, rfl, hs, rfl⟩ := hrel
      by_cases hlt : j < rs.length
      · obtain ⟨ad, rfl, hb, hc⟩ := HR.out.at_ hlt
        obtain ⟨q, hq⟩ : ∃ q, q = rs[j] := ⟨_, rfl⟩
        rw [← hq] at hc
        have HQ := Lib.hid hq
        clear hq
        go_wp2_with (refine wpList_farith _ _ _ _ _ rfl rfl rfl _ _ _ rfl rfl ?_); intro r nr hr
        have HS := Lib.hid (sum_step hlt hs.out HQ.out hr)
        clear hr
        go_wp2
        go_roundw
        case rel => exact ⟨j + 1, _, _, by omega, by go_num, rfl, HS, rfl⟩
        case measure => simp [RowKit.intOf]; omega
      · have HS := Lib.hid (sum_done hj hlt hs.out)
        clear hs hj
        go_wp2_with fail
        refine (sum_any rs A' c' _ w3.heap.size (by exact HR.out) (by omega)).mono ?_
        rintro e w' ⟨g, ng, hg, rfl, rfl⟩
        have HG := Lib.hid (show sameB g s = true ∧ W32 g ∧ W32 s from ⟨same_yes (hg.1.trans HS.out.1.symm), w32_of hg.2, w32_of HS.out.2⟩)
        clear hg HS
        go_wp2_with fail
        refine (text_any rs A' c' _ w3.heap.size (by exact HR.out) (by omega) HRW.out (by exact Nat.le_refl _) (HT.out.below (upd (n := N + ng) B3.out))).mono ?_
        have HTX := Lib.hid (show xsV (textX rs) = rs.map bitsN ∧ xsB (textX rs) = true ∧ (textX rs).length ≤ 1048576 from
          ⟨(text_read HRW.out (by omega)).1, (text_read HRW.out (by omega)).2, by have := text_len rs (by omega); omega⟩)
        generalize textX rs = T at HTX ⊢
        obtain ⟨qs, hqs⟩ : ∃ qs, qs = rs.map bitsN := ⟨_, rfl⟩
        have HQS := Lib.hid hqs
        have hql : qs.length = rs.length := by rw [hqs, List.length_map]
        rw [← hqs] at HTX
        clear hqs
        rintro e w4 ⟨rfl, hb4⟩
        have hb4' : Below w3.heap.size w3 w4 := und hb4
        have B4 := Lib.hid (B3.out.trans (Below.mono hb4' B3.out.size))
        have HR4 := Lib.hid (HR.out.below hb4')
        have HS4 := Lib.hid hb4'.size
        clear hb4 hb4'
        go_wp2_with fail
        refine (read_any T qs ⟨HTX.out.1, HTX.out.2.1⟩ HTX.out.2.2 _ (HT.out.below B4.out) (HE.out.below B4.out) (HM.out.below B4.out)).mono ?_
        rintro e w5 ⟨A2, c2, rfl, ho5, hb5⟩
        have B5 := Lib.hid (B4.out.trans (Below.mono hb5 B4.out.size))
        have HR5 := Lib.hid ((HR4.out.more HS4.out).below hb5)
        have HQ5 := Lib.hid (show Md.Rd w5 w5.heap.size A2 qs from ho5.rd)
        clear ho5 hb5
        have HC1 := Lib.hid (same_w bk x HBK.out.2 (w32_of hx))
        rw [HBK.out.1] at HC1
        have HC2 := Lib.hid (fun W => impl_IsSubnormal z W)
        rw [HZ.out.2.1] at HC2
        have HC3 := Lib.hid (same_w x z (w32_of hx) HZ.out.1)
        rw [HZ.out.2.2] at HC3
        have HC4 := Lib.hid (same_w g s HG.out.2.1 HG.out.2.2)
        rw [HG.out.1] at HC4
        go_wp2_with fail
        refine (HC1.out _).mono ?_
        rintro e w' ⟨rfl, rfl⟩
        go_wp2_with fail
        refine (HC2.out _).mono ?_
        rintro e w' ⟨rfl, m1, rfl⟩
        go_wp2_with fail
        refine (impl_IsSubnormal x _).mono ?_
        generalize subB x = p at HC3 ⊢
        have hpp : (p == !p) = false := by cases p <;> rfl
        rintro e w' ⟨rfl, m2, rfl⟩
        go_wp2_with fail
        refine (HC3.out _).mono ?_
        rintro e w' ⟨rfl, rfl⟩
        go_wp2_with fail
        refine (HC4.out _).mono ?_
        rintro e w' ⟨rfl, rfl⟩
        clear hlt
        go_wp2
        go_loopw [113] (fun i wr => ∃ j N : Nat, j ≤ rs.length ∧ i = .int .i64 j ∧ wr = w5.drewN N) (fun i _ => rs.length - (RowKit.intOf i).toNat)
        case atStart => exact ⟨0, _, by omega, rfl, rfl⟩
        case round =>
          obtain ⟨j, N, hj, rfl, rfl⟩ := hrel
          by_cases hlt : j < rs.length
          · obtain ⟨ad, rfl, hb, hc⟩ := HR5.out.at_ hlt
            obtain ⟨bd, rfl, hb2, hc2⟩ := HQ5.out.at_ (j := j) (by rw [hql]; exact hlt)
            have hq : fl .f32 (qs[j]'(by rw [hql]; exact hlt)) = fl .f32 rs[j] ∧ rs[j] < 4294967296 := by
              have e : (qs[j]'(by rw [hql]; exact hlt)) = bitsN rs[j] := by
                have := HQS.out
                subst this
                rw [List.getElem_map]
              rw [e]
              exact ⟨back_fl _, HRW.out _ (List.getElem_mem hlt)⟩
            generalize rs[j] = a at hc hq
            generalize (qs[j]'(by rw [hql]; exact hlt)) = b at hc2 hq
            have HSM := Lib.hid (same_w b a (w32_fl hq.1 (fun v hv => by rw [(fl_some hv).1]; exact hq.2)) (w32_of hq.2))
            rw [same_yes hq.1] at HSM
            clear hq
            go_wp2
            go_region_held (fun w' => w'.cell? (ad.add j) = some (.float .f32 a) ∧ w'.cell? (bd.add j) = some (.float .f32 b)) (go_keep) (first | (go_at_call 10; refine (HSM.out _).mono ?_; rintro e w' ⟨rfl, rfl⟩))
            all_goals
              go_wp2
              go_roundw
              case rel => exact ⟨j + 1, _, by omega, by go_num, rfl⟩
              case measure => simp [RowKit.intOf]; omega
          · have HSN := Lib.hid (fun W => impl_SineTurns 1048576000 W)
            go_wp2_with fail
            refine (impl_AngleTurns y x _).mono ?_
            rintro e w' ⟨r1, n1, hr1, rfl, rfl⟩
            have HR1 := Lib.hid hr1
            clear hr1
            go_wp2_with fail
            refine (angleOf_any x y _).mono ?_
            rintro e w' ⟨r2, n2, hr2, rfl, rfl⟩
            have HC5 := Lib.hid (same_w r1 r2 (w32_fl HR1.out angT_lt) (w32_fl hr2 angT_lt))
            rw [same_yes (HR1.out.trans hr2.symm)] at HC5
            clear hr2
            go_wp2_with fail
            refine (HC5.out _).mono ?_
            rintro e w' ⟨rfl, rfl⟩
            go_wp2_with (refine wpList_fconv _ _ _ rfl rfl .f32 .f64 (by decide) _ rfl (by rw [Tryz.underlying28]; rfl) Tryz.underlying46 ?_); intro u nu hu
            have HU := Lib.hid hu
            clear hu
            go_wp2_with fail
            refine (narrow_any u _).mono ?_
            rintro e w' ⟨r3, n3, hr3, rfl, rfl⟩
            have HC6 := Lib.hid (same_w r3 x (w32_of hr3.2) (w32_of hx))
            rw [same_yes (narrow_wide hx HU.out hr3)] at HC6
            clear hr3
            go_wp2_with fail
            refine (HC6.out _).mono ?_
            rintro e w' ⟨rfl, rfl⟩
            go_wp2_with fail
            refine (HSN.out _).mono ?_
            rintro e w' ⟨r4, n4, hr4, rfl, rfl⟩
            have h4 := sin_one hr4
            clear hr4
            go_wp2
            go_ret
            exact ⟨rfl, upd B5.out⟩
  · go_enter Tryz.func4, Tryz.ntmps4
    go_wp2_with fail
    refine (b10Long_yes _ _ _ _ _ _ hl _).mono ?_
    rintro e w' ⟨rfl, rfl⟩
    go_wp2
    go_ret
    exact ⟨rfl, Below.refl _ _⟩

end Go.Proofs.YtkfhgjknmdlhbaaGreatDoor.Gd