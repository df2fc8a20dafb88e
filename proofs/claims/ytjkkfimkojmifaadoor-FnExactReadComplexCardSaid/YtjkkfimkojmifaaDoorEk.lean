/- The walks: ReadComplex: the reference's side; the text of complex numbers. -/
import Derived.Test.YtjkkfimkojmifaaDoorEh
import Derived.Test.YtjkkfimkojmifaaDoorEj
namespace Go.Proofs.YtjkkfimkojmifaaDoor.Ek
open Go Go.RowKit Go.Lib Fb WA Da Dd De Dm Dn Ea Eb Ec Ee Ef Ej
open Eh (HexK spec_l01From)
set_option linter.unusedVariables false
def hexC (x : Nat × Nat) : List UInt8 := hexT x.1 ++ hexT x.2
def readC (l : List UInt8) : Nat × Nat := (readX (l.take 8), readX (l.drop 8))
def okC (l : List UInt8) : Bool := decide (l.length = 16) && (okX (l.take 8) && okX (l.drop 8))
theorem okC_len {l : List UInt8} (h : ¬ l.length = 16) : okC l = false := by unfold okC; rw [decide_eq_false h]; rfl
theorem okC_is {l : List UInt8} (h : l.length = 16) : okC l = decide (hexC (readC l) = l) := by
  unfold okC okX hexC readC
  rw [decide_eq_true h, Bool.true_and, decide_eq_true (show (l.take 8).length = 8 by rw [List.length_take]; omega), decide_eq_true (show (l.drop 8).length = 8 by rw [List.length_drop]; omega), Bool.true_and, Bool.true_and]
  by_cases a : hexT (readX (l.take 8)) = l.take 8
  · by_cases b : hexT (readX (l.drop 8)) = l.drop 8
    · rw [decide_eq_true a, decide_eq_true b, decide_eq_true (by rw [a, b]; exact List.take_append_drop 8 l)]; rfl
    · rw [decide_eq_false b, Bool.and_false, decide_eq_false]
      intro e
      have e2 : hexT (readX (l.take 8)) ++ hexT (readX (l.drop 8)) = l.take 8 ++ l.drop 8 := e.trans (List.take_append_drop 8 l).symm
      exact b (List.append_inj_right e2 (by rw [hexT_len, List.length_take]; omega))
  · rw [decide_eq_false a, Bool.false_and, decide_eq_false]
    intro e
    have e2 : hexT (readX (l.take 8)) ++ hexT (readX (l.drop 8)) = l.take 8 ++ l.drop 8 := e.trans (List.take_append_drop 8 l).symm
    exact a (List.append_inj_left e2 (by rw [hexT_len, List.length_take]; omega))
def xcV (l : List UInt8) : List (Nat × Nat) := (piecesV l).map readC
def xcB (l : List UInt8) : Bool := decide ((piecesV l).length ≤ 256) && (piecesV l).all okC
def textC (xs : List (Nat × Nat)) : List UInt8 := joinedV (xs.map hexC)
theorem hexC_no (x : Nat × Nat) : ∀ c ∈ hexC x, c ≠ 44 := by
  intro c hc
  unfold hexC at hc
  rw [List.mem_append] at hc
  rcases hc with hc | hc
  · exact hexT_no _ c hc
  · exact hexT_no _ c hc
theorem hexC_len (x : Nat × Nat) : (hexC x).length = 16 := by unfold hexC; rw [List.length_append, hexT_len, hexT_len]
theorem all_okC {P : List (List UInt8)} (hl : ∀ p ∈ P, p.length = 16) : P.all okC = decide (P.map (fun p => hexC (readC p)) = P) := by
  induction P with
  | nil => rfl
  | cons p P ih =>
    have h1 := hl p (by simp)
    have h2 := ih (fun q hq => hl q (by simp [hq]))
    rw [List.all_cons, h2, List.map_cons, okC_is h1]
    by_cases a : hexC (readC p) = p
    · by_cases b : P.map (fun p => hexC (readC p)) = P
      · rw [decide_eq_true a, decide_eq_true b, decide_eq_true (by rw [a, b])]; rfl
      · rw [decide_eq_false b, Bool.and_false, decide_eq_false (by intro e; exact b (List.cons.inj e).2)]
    · rw [decide_eq_false a, Bool.false_and, decide_eq_false (by intro e; exact a (List.cons.inj e).1)]
/-- The text of the numbers that were read is the text, or not. -/
theorem finalC {s : ByteArray} {P : List (List UInt8)} (hP : P = piecesV s.data.toList) (hl : ∀ p ∈ P, p.length = 16) (h : P.length ≤ 256) : xcB s.data.toList = decide (textC (P.map readC) = s.data.toList) := by
  unfold xcB
  rw [← hP, decide_eq_true h, Bool.true_and, all_okC hl]
  unfold piecesV at hP
  split at hP
  · subst hP
    rename_i hn
    rw [hn]
    rfl
  · rename_i hn
    have hne : P ≠ [] := by rw [hP]; unfold cutF; simp
    have e1 : textC (P.map readC) = join (P.map fun p => hexC (readC p)) [44] := by
      unfold textC joinedV
      rw [if_neg (by simpa using hne), List.map_map]
      rfl
    by_cases e : P.map (fun p => hexC (readC p)) = P
    · rw [decide_eq_true e, decide_eq_true]
      rw [e1, e, hP, join_cut]
    · rw [decide_eq_false e, decide_eq_false]
      intro h
      apply e
      rw [e1] at h
      have := cutF_join (P.map fun p => hexC (readC p)) (by simpa using hne) (fun q hq => by obtain ⟨x, _, rfl⟩ := List.mem_map.1 hq; exact hexC_no _)
      rw [h, ← hP] at this
      exact this.symm
theorem xcB_long {l : List UInt8} (h : ¬ (piecesV l).length ≤ 256) : xcB l = false := by unfold xcB; rw [decide_eq_false h]; rfl
theorem xcB_no {P : List (List UInt8)} {l : List UInt8} {j : Nat} (hP : P = piecesV l) (hj : j < P.length) (h : okC P[j] = false) : xcB l = false := by
  unfold xcB
  rw [← hP, Bool.and_eq_false_iff]; right
  rw [List.all_eq_false]
  exact ⟨P[j], List.getElem_mem hj, by simp [h]⟩
theorem xc_fail {l : List UInt8} {w w' : World} (h : xcB l = false) (hb : Below w.heap.size w w') : RetLC (xcV l) (xcB l) w (.returned (.tuple #[.slice none 0 0, .bool false])) w' := by
  rw [h]; exact RetLC.no hb
theorem xc_ok {P : List (List UInt8)} {l : List UInt8} {zs : List (Nat × Nat)} {w w' : World} {v : Value} (h1 : zs = P.map readC) (h2 : P.all okC = true) (hP : P = piecesV l) (h256 : P.length ≤ 256) (hg : Gath w w' v zs) :
    RetLC (xcV l) (xcB l) w (.returned (.tuple #[v, .bool true])) w' := by
  have e : xcB l = true := by unfold xcB; rw [← hP, h2, decide_eq_true h256]; rfl
  have e2 : zs = xcV l := by unfold xcV; rw [h1, hP]
  rw [e]; exact hg.retLC e2
theorem take_mapC {P : List (List UInt8)} {j : Nat} (hj : j < P.length) : (P.take j).map readC ++ [readC P[j]] = (P.take (j + 1)).map readC := by
  rw [List.take_succ_eq_append_getElem hj, List.map_append]; rfl
theorem all_stepC {P : List (List UInt8)} {j : Nat} (hj : j < P.length) (h : (P.take j).all okC = true) (hr : okC P[j] = true) : (P.take (j + 1)).all okC = true := by
  rw [List.take_succ_eq_append_getElem hj, List.all_append, h]; simp [hr]
/-- The number with eight digits, and whether. -/
def RetD (l : List UInt8) (w : World) (e : Ending) (w' : World) : Prop := ∃ x, (okX l = true → x = readX l) ∧ e = .returned (.tuple #[.float .f32 x, .bool (okX l)]) ∧ w' = w
theorem RetD.no {l : List UInt8} {w : World} (h : okX l = false) : RetD l w (.returned (.tuple #[.float .f32 0, .bool false])) w := by
  refine ⟨0, ?_, ?_, rfl⟩
  · intro e
    rw [h] at e
    cases e
  · rw [h]
set_option maxRecDepth 20000 in
set_option maxHeartbeats 8000000 in
theorem spec_l01Digits (t : ByteArray) (h8 : t.size = 8) (w : World) : Calls Tryd.prog 72 #[.string t] w (RetD t.data.toList w) := by
  go_enter Tryd.func72, Tryd.ntmps72
  go_wp2_with fail
  go_loopw [4, 5] (fun nn kk wr' => ∃ (k v : Nat) (n : Int), k ≤ 8 ∧ nn = .int .i64 n ∧ kk = .int .i64 k ∧ Hid (n = (v : Int) ∧ HexK t k v) ∧ wr' = w) (fun _ kk _ => 8 - (RowKit.intOf kk).toNat)
  case atStart => exact ⟨0, 0, 0, by omega, rfl, rfl, Lib.hid ⟨rfl, HexK.zero t⟩, rfl⟩
  case round =>
    obtain ⟨k, v, n, hk, rfl, rfl, HK, rfl⟩ := hrel
    by_cases hk8 : k < 8
    · have hv := Nat.lt_of_lt_of_le HK.out.2.2.2 (Nat.pow_le_pow_right (show 0 < 16 by omega) (show k ≤ 7 by omega))
      rw [show (16 : Nat) ^ 7 = 268435456 by decide] at hv
      have hn0 : 0 ≤ n ∧ n < 268435456 := by have := HK.out.1; omega
      obtain ⟨hn1, hn2⟩ := hn0
      have hkt : k < t.size := by omega
      clear hv
      by_cases hlow : lowH t[k] = true
      · have HS := Lib.hid (HK.out.2.step hkt hlow)
        have HV := HK.out.1
        unfold lowH at hlow
        simp only [Bool.or_eq_true, Bool.and_eq_true, decide_eq_true_eq] at hlow
        rcases hlow with ⟨q1, q2⟩ | ⟨q1, q2⟩
        · have HD := Lib.hid (show hexD t[k] = t[k].toNat - 48 by unfold hexD; rw [if_pos ⟨q1, q2⟩])
          go_wp2
          go_roundw
          case rel => exact ⟨k + 1, _, _, by omega, rfl, by go_num, Lib.hid ⟨by rw [HD.out]; omega, HS.out⟩, by first | trivial | rfl⟩
          case measure => simp [RowKit.intOf]; omega
        · have HD := Lib.hid (show hexD t[k] = t[k].toNat - 87 by unfold hexD; rw [if_neg (by omega), if_pos ⟨q1, q2⟩])
          go_wp2
          go_roundw
          case rel => exact ⟨k + 1, _, _, by omega, rfl, by go_num, Lib.hid ⟨by rw [HD.out]; omega, HS.out⟩, by first | trivial | rfl⟩
          case measure => simp [RowKit.intOf]; omega
      · have hlow' : lowH t[k] = false := by simpa using hlow
        have HF := Lib.hid (HexK.bad hkt hlow')
        unfold lowH at hlow'
        simp only [Bool.or_eq_false_iff, Bool.and_eq_false_iff, decide_eq_false_iff_not] at hlow'
        obtain ⟨q1, q2⟩ := hlow'
        have q1' : ¬ (48 ≤ (t[k].toNat : Int) ∧ (t[k].toNat : Int) ≤ 57) := by omega
        have q2' : ¬ (97 ≤ (t[k].toNat : Int) ∧ (t[k].toNat : Int) ≤ 102) := by omega
        clear hlow q1 q2
        go_wp2
        all_goals first
          | (exfalso; omega)
          | (go_ret2
             exact RetD.no HF.out)
    · obtain rfl : k = 8 := by omega
      obtain ⟨e1, e2, e3⟩ := HK.out.2.done h8 rfl
      have hnv : n = (v : Int) := HK.out.1
      subst hnv
      have hv := e3
      have HV := Lib.hid e1
      have HO := Lib.hid (show okX t.data.toList = decide (bitsB v = (v : Int)) by rw [e1]; exact okX_low h8 e2)
      clear e1 e2 e3 HK hk hk8
      by_cases hbv : bitsB v = (v : Int)
      · have HT := Lib.hid (show okX t.data.toList = true by rw [HO.out, decide_eq_true hbv])
        have HBV := Lib.hid hbv
        clear hbv HO
        go_wp2_with fail
        refine (spec_l01From v hv _).mono ?_
        rintro e w' ⟨rfl, rfl⟩
        go_wp2_with fail
        refine (spec_l01Bits v hv _).mono ?_
        rw [HBV.out]
        rintro e w' ⟨rfl, rfl⟩
        go_wp2
        go_ret2
        exact ⟨v, fun _ => HV.out, by rw [HT.out]; rfl, rfl⟩
      · have HF := Lib.hid (show okX t.data.toList = false by rw [HO.out, decide_eq_false hbv])
        have hbn : (bitsB v != (v : Int)) = true := by simpa using hbv
        clear hbv HO
        go_wp2_with fail
        refine (spec_l01From v hv _).mono ?_
        rintro e w' ⟨rfl, rfl⟩
        go_wp2_with fail
        refine (spec_l01Bits v hv _).mono ?_
        rintro e w' ⟨rfl, rfl⟩
        go_wp2
        go_ret2
        exact RetD.no HF.out
theorem half_1 {t : ByteArray} (h : t.size = 16) : (t.extract 0 8).data.toList = t.data.toList.take 8 ∧ (t.extract 0 8).size = 8 := by
  have e : (t.extract 0 8).data.toList = t.data.toList.take 8 := extract_from_zero t 8
  refine ⟨e, ?_⟩
  have : (t.extract 0 8).data.toList.length = 8 := by rw [e, List.length_take]; show min 8 t.size = 8; omega
  exact this
theorem half_2 {t : ByteArray} (h : t.size = 16) : (t.extract 8 16).data.toList = t.data.toList.drop 8 ∧ (t.extract 8 16).size = 8 := by
  have e : (t.extract 8 16).data.toList = t.data.toList.drop 8 := by rw [← h]; exact extract_to_end t 8
  refine ⟨e, ?_⟩
  have : (t.extract 8 16).data.toList.length = 8 := by rw [e, List.length_drop]; show t.size - 8 = 8; omega
  exact this
theorem okC_parts {t : ByteArray} (h : t.size = 16) : okC t.data.toList = (okX (t.extract 0 8).data.toList && okX (t.extract 8 16).data.toList) := by
  unfold okC
  rw [decide_eq_true (show t.data.toList.length = 16 from h), Bool.true_and, (half_1 h).1, (half_2 h).1]
theorem readC_parts {t : ByteArray} (h : t.size = 16) : readC t.data.toList = (readX (t.extract 0 8).data.toList, readX (t.extract 8 16).data.toList) := by
  unfold readC
  rw [(half_1 h).1, (half_2 h).1]
set_option maxRecDepth 20000 in
set_option maxHeartbeats 16000000 in
theorem spec_l01CRead (s : ByteArray) (hs : s.size ≤ 1048576) (w : World) : Calls Tryd.prog 54 #[.string s] w (RetLC (xcV s.data.toList) (xcB s.data.toList) w) := by
  by_cases hn : s.data.toList = noneT
  · have h1 := none_eq hn
    have HP := Lib.hid (show xcV s.data.toList = [] ∧ xcB s.data.toList = true by unfold xcV xcB piecesV; rw [if_pos hn]; exact ⟨rfl, rfl⟩)
    clear hn
    go_enter Tryd.func54, Tryd.ntmps54
    go_wp2
    go_ret2
    rw [HP.out.1, HP.out.2]
    exact (Gath.empty w).retLC rfl
  · have h1 := none_ne hn
    have HPC := Lib.hid (show piecesV s.data.toList = cutF s.data.toList by unfold piecesV; rw [if_neg hn])
    have HPL := Lib.hid (show (cutF s.data.toList).length ≤ 1048577 by have := cutF_len s.data.toList; have e : s.data.toList.length = s.size := rfl; omega)
    clear hn
    go_enter Tryd.func54, Tryd.ntmps54
    go_wp2_with fail
    refine (spec_l01Cut s hs _).mono ?_
    rintro e w1 ⟨A, c, rfl, hr1, hb1⟩
    have R1 := Lib.hid hr1
    have G1 := Lib.hid (GI.zero (gath_below (Gath.empty w) hb1))
    have B1 := Lib.hid ((Gath.empty w).below.trans (Below.mono hb1 (Gath.empty w).below.size))
    clear hr1 hb1
    generalize hP : cutF s.data.toList = P at R1 HPC HPL
    have HP := Lib.hid HPC.out.symm
    clear hP HPC
    have hpl := HPL.out
    by_cases hl256 : P.length ≤ 256
    · have hd : decide ((256 : Int) < (P.length : Int)) = false := decide_eq_false (by omega)
      go_wp2
      go_loopw [4, 6] (fun v i wr => ∃ j : Nat, j ≤ P.length ∧ i = .int .i64 j ∧ Hid (GI w w1 wr v ((P.take j).map readC)) ∧ Hid ((P.take j).all okC = true)) (fun _ i _ => P.length - (RowKit.intOf i).toNat)
      case atStart => exact ⟨0, by omega, rfl, G1, Lib.hid rfl⟩
      case round =>
        obtain ⟨j, hj, rfl, HG, HA⟩ := hrel
        have HLN := Lib.hid (show ((P.take j).map readC).length ≤ 1099511627776 by rw [List.length_map, List.length_take]; omega)
        by_cases hlt : j < P.length
        · obtain ⟨ad, rfl, hb, hc⟩ := (R1.out.below HG.out.below).at_ hlt
          obtain ⟨t, ht⟩ : ∃ t : ByteArray, t = ⟨(P[j]).toArray⟩ := ⟨_, rfl⟩
          have HTL := Lib.hid (show P[j] = t.data.toList by rw [ht])
          rw [← ht] at hc
          clear ht
          have HB := Lib.hid (B1.out.trans (Below.mono HG.out.below B1.out.size))
          by_cases h16 : t.size = 16
          · have HO := Lib.hid (show okC P[j] = (okX (t.extract 0 8).data.toList && okX (t.extract 8 16).data.toList) by rw [HTL.out]; exact okC_parts h16)
            have HM := Lib.hid (show (P.take j).map readC ++ [(readX (t.extract 0 8).data.toList, readX (t.extract 8 16).data.toList)] = (P.take (j + 1)).map readC by rw [← readC_parts h16, ← HTL.out]; exact take_mapC hlt)
            have H1 := Lib.hid (half_1 h16).2
            have H2 := Lib.hid (half_2 h16).2
            cases ho1 : okX (t.extract 0 8).data.toList
            · have HF := Lib.hid (xcB_no HP.out hlt (by rw [HO.out, ho1]; rfl))
              have HO1 := Lib.hid ho1
              clear ho1
              go_wp2_with fail
              refine (spec_l01Digits (t.extract 0 8) H1.out _).mono ?_
              rintro e w' ⟨x1, hx1, rfl, rfl⟩
              rw [HO1.out]
              clear hx1
              go_wp2_with fail
              refine (spec_l01Digits (t.extract 8 16) H2.out _).mono ?_
              rintro e w' ⟨x2, hx2, rfl, rfl⟩
              generalize okX (t.extract 8 16).data.toList = b2 at hx2 ⊢
              clear hx2 HO
              go_wp2
              go_ret2
              exact xc_fail HF.out HB.out
            · cases ho2 : okX (t.extract 8 16).data.toList
              · have HF := Lib.hid (xcB_no HP.out hlt (by rw [HO.out, ho1, ho2]; rfl))
                have HO1 := Lib.hid ho1
                have HO2 := Lib.hid ho2
                clear ho1 ho2 HO
                go_wp2_with fail
                refine (spec_l01Digits (t.extract 0 8) H1.out _).mono ?_
                rintro e w' ⟨x1, hx1, rfl, rfl⟩
                rw [HO1.out]
                clear hx1
                go_wp2_with fail
                refine (spec_l01Digits (t.extract 8 16) H2.out _).mono ?_
                rintro e w' ⟨x2, hx2, rfl, rfl⟩
                rw [HO2.out]
                clear hx2
                go_wp2
                go_ret2
                exact xc_fail HF.out HB.out
              · have HS := Lib.hid (all_stepC hlt HA.out (by rw [HO.out, ho1, ho2]; rfl))
                have HO1 := Lib.hid ho1
                have HO2 := Lib.hid ho2
                clear ho1 ho2 HO
                go_wp2_with fail
                refine (spec_l01Digits (t.extract 0 8) H1.out _).mono ?_
                rintro e w' ⟨x1, hx1, rfl, rfl⟩
                have HX1 := Lib.hid (hx1 HO1.out)
                rw [HO1.out]
                clear hx1
                go_wp2_with fail
                refine (spec_l01Digits (t.extract 8 16) H2.out _).mono ?_
                rintro e w' ⟨x2, hx2, rfl, rfl⟩
                have HX2 := Lib.hid (hx2 HO2.out)
                rw [HO2.out]
                clear hx2
                go_wp2_with (at_builtin; refine wpList_pushI w w1 _ _ (x1, x2) _ HG HLN.out (by rfl) _ _ (by rfl) (by rfl) (by rfl) ?_; intro v' w' HG')
                go_roundw
                case rel => exact ⟨j + 1, by omega, by go_num, Lib.hid (by rw [← HM.out, ← HX1.out, ← HX2.out]; exact HG'.out), HS⟩
                case measure => simp [RowKit.intOf]; omega
          · have h16' : ((t.size : Int) != 16) = true := by simp; omega
            have HF := Lib.hid (xcB_no HP.out hlt (by rw [HTL.out]; exact okC_len h16))
            go_wp2
            go_ret2
            exact xc_fail HF.out HB.out
        · have hjl : j = P.length := by omega
          have HD := Lib.hid (show (P.take j).map readC = P.map readC ∧ P.all okC = true by
            have h := HA.out
            rw [hjl, List.take_length] at h ⊢
            exact ⟨rfl, h⟩)
          clear hjl
          go_wp2
          go_ret2
          exact xc_ok HD.out.1 HD.out.2 HP.out hl256 (HG.out.gath B1.out)
    · have hd : decide ((256 : Int) < (P.length : Int)) = true := decide_eq_true (by omega)
      have HF := Lib.hid (show xcB s.data.toList = false from xcB_long (by rw [← HP.out]; exact hl256))
      go_wp2
      go_ret2
      exact xc_fail HF.out B1.out
theorem spec_ReadComplex (s : ByteArray) (hs : s.size ≤ 1048576) (w : World) : Calls Tryd.prog 30 #[.string s] w (RetLC (xcV s.data.toList) (xcB s.data.toList) w) := by
  go_enter Tryd.func30, Tryd.ntmps30
  go_wp2_with fail
  refine (spec_l01CRead s hs _).mono ?_
  rintro e w2 ⟨rs, A, c, hrs, rfl, ho, hb⟩
  have HO := Lib.hid ho
  have HR := Lib.hid hrs
  have HB := Lib.hid hb
  clear hrs ho hb
  go_wp2
  go_ret2
  exact ⟨rs, A, c, HR.out, rfl, HO.out, HB.out⟩

end Go.Proofs.YtjkkfimkojmifaaDoor.Ek