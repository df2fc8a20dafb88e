/- FnProducts: the walk. -/
import Derived.Test.YtkfhgjknmdlhbaaGreatDoorGr
namespace Go.Proofs.YtkfhgjknmdlhbaaGreatDoor.Gs
open Go Go.RowKit Go.Lib Fl Fs Fo Fw Fb Fm Ff Fz Fy Gp Gu Gr WA WB WH Xc Dm Ea Eb Ec Ee Ef Ek El Ga Gb Gq
open Ej (Own)
open De (pickS)
open Mg (upd und)
set_option linter.unusedVariables false
set_option maxRecDepth 20000
def I32 (n : Int) (x : Nat) : Prop := IsI Ieee.single 149 n x
/-- Small parts. -/
def Sm (i : Int) : Prop := -200 ≤ i ∧ i ≤ 200
theorem Sm.neg {i : Int} (h : Sm i) : Sm (-i) := ⟨by have := h.1; have := h.2; omega, by have := h.1; have := h.2; omega⟩
theorem mul_whole (i j k l : Int) (hi : Sm i) (hj : Sm j) (hk : Sm k) (hl : Sm l) (a b c d : Nat) (ha : I32 i a) (hb : I32 j b) (hc : I32 k c) (hd : I32 l d) (x y : Int) (hx : i * k - j * l = x) (hy : i * l + j * k = y) (w : World) :
    Calls Tryz.prog 7 #[.complex .f32 a b, .complex .f32 c d] w (RetC (fun r s => I32 x r ∧ I32 y s) w) := by
  subst hx hy
  have b1 := small_mul hi hk
  have b2 := small_mul hj hl
  have b3 := small_mul hi hl
  have b4 := small_mul hj hk
  have h1 := hi.1; have h2 := hi.2; have h3 := hj.1; have h4 := hj.2; have h5 := hk.1; have h6 := hk.2; have h7 := hl.1; have h8 := hl.2
  have H1 := id_mRe (wv_id ha (by omega)) (wv_id hb (by omega)) (wv_id hc (by omega)) (wv_id hd (by omega)) (by omega) (by omega)
  have H2 := id_mIm (wv_id ha (by omega)) (wv_id hb (by omega)) (wv_id hc (by omega)) (wv_id hd (by omega)) (by omega) (by omega)
  refine (impl_MulComplex a b c d w).mono ?_
  rintro e w' ⟨r, s, n, ⟨hr, hs⟩, rfl, rfl⟩
  exact ⟨r, s, n, ⟨(is_narrow H1 (by omega) hr).1, (is_narrow H2 (by omega) hs).1⟩, rfl, rfl⟩
theorem power_whole (i j : Int) (hi : Sm i) (hj : Sm j) (a b : Nat) (ha : I32 i a) (hb : I32 j b) (w : World) :
    Calls Tryz.prog 8 #[.complex .f32 a b] w (RetF .f32 (I32 (i * i + j * j)) w) := by
  have b1 := sq_bound hi
  have b2 := sq_bound hj
  have h1 := hi.1; have h2 := hi.2; have h3 := hj.1; have h4 := hj.2
  have H1 := id_pV (wv_id ha (by omega)) (wv_id hb (by omega)) (by omega) (by omega)
  refine (impl_PowerOf a b w).mono ?_
  rintro e w' ⟨r, n, hr, rfl, rfl⟩
  exact ⟨r, n, (is_narrow H1 (by omega) hr).1, rfl, rfl⟩
theorem pow_fi {i j : Int} (hi : Sm i) (hj : Sm j) : Gr.pV (wv (floatOfInt .f32 i)) (wv (floatOfInt .f32 j)) = some (fi (i * i + j * j)) := by
  have b1 := sq_bound hi
  have b2 := sq_bound hj
  have h1 := hi.1; have h2 := hi.2; have h3 := hj.1; have h4 := hj.2
  rw [wv_fi (by omega), wv_fi (by omega)]
  unfold Gr.pV
  rw [sq_small hi, sq_small hj]
  exact fi_add (by omega) (by omega)
/-- The two roots of the power are alike. -/
theorem roots_same {i j : Int} (hi : Sm i) (hj : Sm j) {r s : Nat} (hr : LongV (Gr.pV (wv (floatOfInt .f32 i)) (wv (floatOfInt .f32 j))) r) (hs : RootOf (floatOfInt .f32 (i * i + j * j)) s) :
    sameB r s = true ∧ W32 r ∧ W32 s := by
  have b1 := sq_bound hi
  have b2 := sq_bound hj
  obtain ⟨z, hz, hr2⟩ := hr
  rw [pow_fi hi hj] at hz
  have hP : (i * i + j * j).natAbs ≤ 16777215 := by omega
  have hfi := fi_fl (n := i * i + j * j) (by omega)
  have hlt : fi (i * i + j * j) < 18446744073709551616 := Ieee.Format.write_lt Ieee.double (.number _ _ _)
  have h1 : RootOf (floatOfInt .f32 (i * i + j * j)) r := by
    refine ⟨fi (i * i + j * j), z, ⟨?_, hlt⟩, ?_, hr2⟩
    · intro _
      rw [hfi.1, fl_ofInt hP]
      exact (wide_ofInt hP).symm
    · rw [hfi.1]; exact hz
  have h2 : s < 4294967296 := by obtain ⟨_, _, _, _, h⟩ := hs; exact h.2
  exact ⟨same_yes (root_same h1 hs), w32_of hr2.2, w32_of h2⟩
theorem textC_any (xs : List (Nat × Nat)) (A : Option Addr) (c : Nat) (w : World) (M : Nat) (hx : Ej.Rd w M A xs) (hl : xs.length ≤ 256) (hr : InC xs) (hM : M ≤ w.heap.size) (ht : Bru w) :
    Calls Tryz.prog 17 #[.slice A xs.length c] w fun e w' => e = .returned (.tuple #[.string ⟨(textC xs).toArray⟩, .bool true]) ∧ Below w.heap.size w w' := by
  have h := impl_ComplexText xs A c w M hx (by omega) hr hM ht
  rw [show fewC xs = true from decide_eq_true (by omega)] at h
  exact h
theorem readC_any (T : List UInt8) (qs : List (Nat × Nat)) (n : Nat) (hn : qs.length = n) (hq : xcV T = qs ∧ xcB T = true) (hl : T.length ≤ 1048576) (w : World) (ht : Bru w) (he : ErrS w) (hm : MaxL w) :
    Calls Tryz.prog 18 #[.string ⟨T.toArray⟩] w fun e w' => ∃ A c, e = .returned (.tuple #[.slice A n c, .bool true]) ∧ Own w' w.heap.size A c qs ∧ Below w.heap.size w w' := by
  refine (Eo.impl_ReadComplex ⟨T.toArray⟩ hl w ht he hm).mono ?_
  rintro e w' ⟨rs, A, c, hrs, rfl, ho, hb⟩
  have e1 : xcB ((⟨T.toArray⟩ : ByteArray).data.toList) = true := hq.2
  have e2 : rs = qs := by
    rw [hrs, e1, if_pos rfl]
    exact hq.1
  subst e2
  rw [e1]
  exact ⟨A, c, by rw [hn], ho, hb⟩
theorem bits_lt {x : Nat} (hx : x < 4294967296) : bitsN x < 4294967296 := (bitsN_eq hx).2
theorem same_bits {zs : List (Nat × Nat)} (h : InC zs) : SameL (zs.map bitsC) zs := by
  intro j h1 h2
  have hz := h _ (List.getElem_mem h2)
  rw [List.getElem_map]
  exact ⟨⟨bits_lt hz.1, bits_lt hz.2⟩, hz, back_fl _, back_fl _⟩
/-- The one number of a list of one. -/
theorem one_cell {w : World} {base c : Nat} {A : Option Addr} {z : Nat × Nat} (h : Own w base A c [z]) : ∃ ad, A = some ad ∧ w.cell? (ad.add 0) = some (.complex .f32 z.1 z.2) ∧ w.cell? ad = some (.complex .f32 z.1 z.2) := by
  obtain ⟨ad, rfl, _, hc⟩ := h.rd.at_ (j := 0) (by simp)
  have e : ad.add 0 = ad := by unfold Addr.add; simp
  exact ⟨ad, rfl, hc, by rw [e] at hc; exact hc⟩
theorem conv_fact {y : Nat} {n : Int} (h : floatToIntVal .f32 y .i64 = some n) : ∀ w, (convert 28 2 (.float .f32 y)).run Tryz.prog w = .ok (.int .i64 n) w :=
  fun w => run_convert_float_int w 28 2 .f32 .i64 y n (by rw [Tryz.underlying28]; rfl) Tryz.underlying2 h
/-- What the drawn whole number's words do. -/
structure WW (i : Int) (a : Nat) : Prop where
  sm : Sm i
  eq : a = floatOfInt .f32 i
  is : I32 i a
  conv : ∀ w, (convert 28 2 (.float .f32 a)).run Tryz.prog w = .ok (.int .i64 i) w
theorem ww {i : Int} (h : Sm i) : WW i (floatOfInt .f32 i) := ⟨h, rfl, is_ofInt (by have := h.1; have := h.2; omega), conv_fact (conv_small h)⟩
theorem scale_two {i : Int} (hi : Sm i) {a r : Nat} (ha : a = floatOfInt .f32 i) (h : FV .f32 (fop .mul .f32 (fl .f32 a) (fl .f32 1073741824)) r) : (FloatKind.f32.format.order r (floatOfInt .f32 (2 * i)) == some .eq) = true := by
  have h1 := hi.1; have h2 := hi.2
  rw [ha, fl_ofInt (by omega), show fl .f32 1073741824 = some 1073741824 by decide +kernel, twice_mul hi] at h
  have hr := (fl_some h.1).1
  rw [← hr]
  have hs := is_ofInt (n := 2 * i) (by omega)
  exact is_eq hs hs
theorem is_of {n : Int} (h : n.natAbs ≤ 16777215) : I32 n (floatOfInt .f32 n) := is_ofInt h
set_option maxHeartbeats 16000000 in
theorem fnProducts_walk (A0 : Option Addr) (c0 : Nat) (x0 : List Nat) (A1 : Option Addr) (c1 : Nat) (x1 : List Nat) (w : World) (ht : Bru w ∧ ErrS w ∧ MaxL w) (h0 : RdB w w.heap.size A0 x0) (h1 : RdB w w.heap.size A1 x1) :
    Calls Tryz.prog 3 #[.slice A0 x0.length c0, .slice A1 x1.length c1] w fun e w' => e = .returned (.bool true) ∧ Below w.heap.size w w' := by
  have H0 := Lib.hid h0
  have H1 := Lib.hid h1
  have HT := Lib.hid ht.1
  have HE := Lib.hid ht.2.1
  have HM := Lib.hid ht.2.2
  clear h0 h1 ht
  by_cases hl : x0.length ≤ 1048576 ∧ x1.length ≤ 1048576
  · obtain ⟨hl0, hl1⟩ := hl
    go_enter Tryz.func3, Tryz.ntmps3
    go_wp2_with fail
    refine (b10Long_no _ _ _ _ _ _ hl0 hl1 _).mono ?_
    rintro e w ⟨rfl, rfl⟩
    go_wp2_with fail
    refine (whole_any A0 c0 x0 _ H0.out hl0).mono ?_
    rintro e w1 ⟨i, j, A', c', ⟨hi, hj⟩, rfl, ho, hb1⟩
    obtain ⟨ad, rfl, hc, hc'⟩ := one_cell ho
    have HI := Lib.hid (ww (i := i) hi)
    have HJ := Lib.hid (ww (i := j) hj)
    simp only at hc hc'
    generalize floatOfInt .f32 i = a1 at hc hc' HI
    generalize floatOfInt .f32 j = a2 at hc hc' HJ
    have B1 := Lib.hid hb1
    have HX1 := Lib.hid ((H1.out.below hb1).more hb1.size)
    have t1 := HI.out.conv
    have t2 := HJ.out.conv
    clear hb1 ho hi hj
    go_wp2_with fail
    refine (whole_any A1 c1 x1 _ HX1.out hl1).mono ?_
    rintro e w2 ⟨k, l, A'', c'', ⟨hk, hl⟩, rfl, ho, hb2⟩
    obtain ⟨bd, rfl, hd, hd'⟩ := one_cell ho
    have HK := Lib.hid (ww (i := k) hk)
    have HL := Lib.hid (ww (i := l) hl)
    simp only at hd hd'
    generalize floatOfInt .f32 k = b1 at hd hd' HK
    generalize floatOfInt .f32 l = b2 at hd hd' HL
    have B2 := Lib.hid (B1.out.trans (Below.mono hb2 B1.out.size))
    have HX2 := Lib.hid ((HX1.out.below hb2).more hb2.size)
    have HY2 := Lib.hid ((H0.out.below B2.out).more B2.out.size)
    have t3 := HK.out.conv
    have t4 := HL.out.conv
    clear hb2 ho hk hl hc hc' HX1
    have m1 := small_mul HI.out.sm HK.out.sm
    have m2 := small_mul HJ.out.sm HL.out.sm
    have m3 := small_mul HI.out.sm HL.out.sm
    have m4 := small_mul HJ.out.sm HK.out.sm
    have m5 := sq_bound HI.out.sm
    have m6 := sq_bound HJ.out.sm
    go_wp2_with fail
    refine (mul_whole i j k l HI.out.sm HJ.out.sm HK.out.sm HL.out.sm a1 a2 b1 b2 HI.out.is HJ.out.is HK.out.is HL.out.is _ _ rfl rfl _).mono ?_
    rintro e w' ⟨p1, p2, n1, ⟨hp1, hp2⟩, rfl, rfl⟩
    have HP1 := Lib.hid hp1
    have HP2 := Lib.hid hp2
    have o1 := is_eq hp1 (is_of (n := i * k - j * l) (by omega))
    have o2 := is_eq hp2 (is_of (n := i * l + j * k) (by omega))
    clear hp1 hp2
    go_wp2_with fail
    refine (mul_whole k l i j HK.out.sm HL.out.sm HI.out.sm HJ.out.sm b1 b2 a1 a2 HK.out.is HL.out.is HI.out.is HJ.out.is (i * k - j * l) (i * l + j * k) (by rw [Int.mul_comm k, Int.mul_comm l]) (by rw [Int.mul_comm k, Int.mul_comm l, Int.add_comm]) _).mono ?_
    rintro e w' ⟨q1, q2, n2, ⟨hq1, hq2⟩, rfl, rfl⟩
    have o3 := is_eq hq1 HP1.out
    have o4 := is_eq hq2 HP2.out
    clear hq1 hq2
    go_wp2_with fail
    refine (power_whole i j HI.out.sm HJ.out.sm a1 a2 HI.out.is HJ.out.is _).mono ?_
    rintro e w' ⟨g, n3, hg, rfl, rfl⟩
    have o5 : (FloatKind.f32.format.order g (floatOfInt .f32 (i * i + j * j)) != some .eq) = false := by
      have h := is_eq hg (is_of (n := i * i + j * j) (by omega))
      rw [eq_of_beq h]; rfl
    clear hg
    go_wp2_with fail
    refine (conj_any a1 a2 _).mono ?_
    have HN := Lib.hid (show I32 (-j) (Op.negFloat .f32 a2) from is_neg HJ.out.is (by rw [HJ.out.eq]; exact ofInt_lt _))
    generalize Op.negFloat .f32 a2 = a3 at HN ⊢
    rintro e w' ⟨rfl, rfl⟩
    go_wp2_with fail
    refine (mul_whole i j i (-j) HI.out.sm HJ.out.sm HI.out.sm HJ.out.sm.neg a1 a2 a1 a3 HI.out.is HJ.out.is HI.out.is HN.out (i * i + j * j) 0 (by rw [Int.mul_neg]; omega) (by rw [Int.mul_neg, Int.mul_comm j i]; omega) _).mono ?_
    rintro e w' ⟨f1, f2, n4, ⟨hf1, hf2⟩, rfl, rfl⟩
    have o6 := is_eq hf1 (is_of (n := i * i + j * j) (by omega))
    have o7 : (FloatKind.f32.format.order f2 0 == some .eq) = true := by rw [is_zero hf2]; rfl
    clear hf1 hf2
    go_wp2_with fail
    refine (long_any a1 a2 _).mono ?_
    rintro e w' ⟨r, n5, hr, rfl, rfl⟩
    have HR := Lib.hid hr
    clear hr
    go_wp2_with fail
    refine (spec_RootNumber (floatOfInt .f32 (i * i + j * j)) _).mono ?_
    rintro e w' ⟨s, n6, hs, rfl, rfl⟩
    have HRS := Lib.hid (roots_same HI.out.sm HJ.out.sm (r := r) (by rw [← HI.out.eq, ← HJ.out.eq]; exact HR.out) hs)
    clear hs
    have HC1 := Lib.hid (same_w r s HRS.out.2.1 HRS.out.2.2)
    rw [HRS.out.1] at HC1
    go_wp2_with fail
    refine (HC1.out _).mono ?_
    rintro e w' ⟨rfl, rfl⟩
    have hz3 : (k = 0 ∧ l = 0) ∨ ¬ (k = 0 ∧ l = 0) := by omega
    rcases hz3 with hz | hz
    · have z1 : (FloatKind.f32.format.order b1 0 == some .eq) = true := by rw [is_zero HK.out.is]; exact decide_eq_true hz.1
      have z2 : (FloatKind.f32.format.order b2 0 == some .eq) = true := by rw [is_zero HL.out.is]; exact decide_eq_true hz.2
      clear hz
      go_wp2_with fail
      refine (scale_any a1 a2 1073741824 _).mono ?_
      rintro e w' ⟨r1, r2, n8, ⟨hr1, hr2⟩, rfl, rfl⟩
      have o10 := scale_two HI.out.sm HI.out.eq hr1
      have o11 := scale_two HJ.out.sm HJ.out.eq hr2
      have HA1 := Lib.hid (show floatBits .add .f32 a1 a1 = some (floatOfInt .f32 (2 * i)) by rw [HI.out.eq]; exact twice_add HI.out.sm)
      have HA2 := Lib.hid (show floatBits .add .f32 a2 a2 = some (floatOfInt .f32 (2 * j)) by rw [HJ.out.eq]; exact twice_add HJ.out.sm)
      clear hr1 hr2
      go_wp2_with (refine wpList_csum _ _ _ _ rfl rfl .f32 _ _ _ _ rfl rfl _ _ HA1.out HA2.out ?_)
      refine (b10At_any x0 _ _ 0 9 (by omega) (by omega) (by omega) (by omega) _ _ (by exact HY2.out) hl0).mono ?_
      rintro e w' ⟨q, hq, rfl, rfl⟩
      have HQ := Lib.hid hq
      clear hq
      go_wp2_with fail
      refine (b10any_any q (by have := HQ.out; omega) A1 c1 x1 _ (by exact HX2.out) hl1).mono ?_
      rintro e w3 ⟨rs, A3, c3, hrl, hrw, rfl, ho3, hb3⟩
      have HRL := Lib.hid (show rs.length ≤ 256 by have := HQ.out; omega)
      have HRW := Lib.hid (show InC rs from hrw)
      have B3 := Lib.hid (B2.out.trans (Below.mono (und hb3) B2.out.size))
      have HR3 := Lib.hid (show Ej.Rd w3 w3.heap.size A3 rs from ho3.rd)
      have HY3 := Lib.hid ((HY2.out.below (und hb3)).more (und hb3).size)
      clear hrl hrw ho3 hb3 HQ
      go_wp2_with fail
      refine (textC_any rs A3 c3 _ w3.heap.size (by exact HR3.out) HRL.out HRW.out (by exact Nat.le_refl _) (HT.out.below B3.out)).mono ?_
      have HTX := Lib.hid (show xcV (textC rs) = rs.map bitsC ∧ xcB (textC rs) = true ∧ (textC rs).length ≤ 1048576 from
        ⟨(textC_read HRW.out HRL.out).1, (textC_read HRW.out HRL.out).2, by have := textC_len rs (by have := HRL.out; omega); omega⟩)
      generalize textC rs = T at HTX ⊢
      obtain ⟨qs, hqs⟩ : ∃ qs, qs = rs.map bitsC := ⟨_, rfl⟩
      have HQL := Lib.hid (show qs.length = rs.length by rw [hqs, List.length_map])
      have HSL := Lib.hid (show SameL qs rs by rw [hqs]; exact same_bits HRW.out)
      rw [← hqs] at HTX
      clear hqs
      rintro e w4 ⟨rfl, hb4⟩
      have B4 := Lib.hid (B3.out.trans (Below.mono hb4 B3.out.size))
      have HR4 := Lib.hid ((HR3.out.below hb4).more hb4.size)
      have HY4 := Lib.hid ((HY3.out.below hb4).more hb4.size)
      clear hb4 HR3 HY3
      go_wp2_with fail
      refine (readC_any T qs rs.length HQL.out ⟨HTX.out.1, HTX.out.2.1⟩ HTX.out.2.2 _ (HT.out.below B4.out) (HE.out.below B4.out) (HM.out.below B4.out)).mono ?_
      rintro e w5 ⟨A5, c5, rfl, ho5, hb5⟩
      have B5 := Lib.hid (B4.out.trans (Below.mono hb5 B4.out.size))
      have HR5 := Lib.hid ((HR4.out.below hb5).more hb5.size)
      have HY5 := Lib.hid ((HY4.out.below hb5).more hb5.size)
      have HQ5 := Lib.hid (show Ej.Rd w5 w5.heap.size A5 qs from ho5.rd)
      clear ho5 hb5 HR4 HY4
      go_wp2_with fail
      refine (number_any A0 c0 x0 _ (by exact HY5.out) hl0).mono ?_
      rintro e w6 ⟨z, hz, rfl, hb6⟩
      have B6 := Lib.hid (B5.out.trans (Below.mono hb6 B5.out.size))
      have HR6 := Lib.hid ((HR5.out.below hb6).more hb6.size)
      have HQ6 := Lib.hid ((HQ5.out.below hb6).more hb6.size)
      have HY6 := Lib.hid ((HY5.out.below hb6).more hb6.size)
      clear hb6 HR5 HQ5 HY5
      go_wp2_with fail
      refine (impl_BitsOf z hz _).mono ?_
      rintro e w' ⟨rfl, rfl⟩
      go_wp2_with fail
      refine (impl_FromBits_in (bitsB z) (bitsB_range hz).1 (bitsB_range hz).2 _).mono ?_
      have HBK := Lib.hid (show sameB (bitsB z).toNat z = true ∧ W32 (bitsB z).toNat from ⟨same_yes (back_fl z), w32_of (by have := bitsB_range hz; omega)⟩)
      generalize (bitsB z).toNat = bk at HBK ⊢
      rintro e w' ⟨rfl, rfl⟩
      have HCZ := Lib.hid (same_w bk z HBK.out.2 (w32_of hz))
      rw [HBK.out.1] at HCZ
      clear HBK
      go_wp2_with fail
      refine (b10complex_any A0 c0 x0 _ (by exact HY6.out) hl0).mono ?_
      rintro e w7 ⟨v1, v2, hv1, hv2, rfl, hb7⟩
      have B7 := Lib.hid (B6.out.trans (Below.mono hb7 B6.out.size))
      have HR7 := Lib.hid ((HR6.out.below hb7).more hb7.size)
      have HQ7 := Lib.hid ((HQ6.out.below hb7).more hb7.size)
      clear hb7 HR6 HQ6 HY6
      go_wp2_with (refine wpList_fconv _ _ _ rfl rfl .f32 .f64 (by decide) _ rfl (by rw [Tryz.underlying28]; rfl) Tryz.underlying46 ?_); intro u1 nu1 hu1
      have HU1 := Lib.hid hu1
      clear hu1
      go_wp2_with (refine wpList_fconv _ _ _ rfl rfl .f32 .f64 (by decide) _ rfl (by rw [Tryz.underlying28]; rfl) Tryz.underlying46 ?_); intro u2 nu2 hu2
      have HU2 := Lib.hid hu2
      clear hu2
      go_wp2_with fail
      refine (b10Same_yes qs rs rs.length HQL.out rfl (by have := HRL.out; omega) A5 A3 c5 c3 _ w7.heap.size (by exact HQ7.out) (by exact HR7.out) HSL.out).mono ?_
      rintro e w' ⟨rfl, n9, rfl⟩
      go_wp2_with fail
      refine (HCZ.out _).mono ?_
      rintro e w' ⟨rfl, rfl⟩
      go_wp2_with fail
      refine (narrowC_any u1 u2 _).mono ?_
      rintro e w' ⟨r3, r4, n10, ⟨hr3, hr4⟩, rfl, rfl⟩
      have HSC := Lib.hid (sameC_yes r3 r4 v1 v2 hr3.2 hr4.2 hv1 hv2 (narrow_wide hv1 HU1.out hr3) (narrow_wide hv2 HU2.out hr4))
      clear hr3 hr4
      go_wp2_with fail
      refine (HSC.out _).mono ?_
      rintro e w' ⟨rfl, n11, rfl⟩
      go_wp2_with fail
      refine (conj_any v1 v2 _).mono ?_
      have HNN := Lib.hid (neg_neg hv2)
      generalize Op.negFloat .f32 v2 = v3 at HNN ⊢
      rintro e w' ⟨rfl, rfl⟩
      have HCJ := Lib.hid (conj_any v1 v3)
      rw [HNN.out] at HCJ
      go_wp2_with fail
      refine (HCJ.out _).mono ?_
      rintro e w' ⟨rfl, rfl⟩
      go_wp2_with fail
      refine (sameC_yes v1 v2 v1 v2 hv1 hv2 hv1 hv2 rfl rfl _).mono ?_
      rintro e w' ⟨rfl, n12, rfl⟩
      have HF := Lib.hid (finiteC_any v1 v2)
      have HF1 := Lib.hid (spec_IsFinite v1)
      have HF2 := Lib.hid (spec_IsFinite v2)
      generalize finB v1 = y1 at HF HF1
      generalize finB v2 = y2 at HF HF2
      cases y1
      · go_wp2_with fail
        refine (HF.out _).mono ?_
        rintro e w' ⟨rfl, n13, rfl⟩
        go_wp2_with fail
        refine (HF1.out _).mono ?_
        rintro e w' ⟨rfl, n14, rfl⟩
        go_wp2
        go_ret
        exact ⟨rfl, upd B7.out⟩
      · cases y2
        · go_wp2_with fail
          refine (HF.out _).mono ?_
          rintro e w' ⟨rfl, n13, rfl⟩
          go_wp2_with fail
          refine (HF1.out _).mono ?_
          rintro e w' ⟨rfl, n14, rfl⟩
          go_wp2_with fail
          refine (HF2.out _).mono ?_
          rintro e w' ⟨rfl, n15, rfl⟩
          go_wp2
          go_ret
          exact ⟨rfl, upd B7.out⟩
        · go_wp2_with fail
          refine (HF.out _).mono ?_
          rintro e w' ⟨rfl, n13, rfl⟩
          go_wp2_with fail
          refine (HF1.out _).mono ?_
          rintro e w' ⟨rfl, n14, rfl⟩
          go_wp2_with fail
          refine (HF2.out _).mono ?_
          rintro e w' ⟨rfl, n15, rfl⟩
          go_wp2
          go_ret
          exact ⟨rfl, upd B7.out⟩
    · have z1 : (FloatKind.f32.format.order b1 0 == some .eq && FloatKind.f32.format.order b2 0 == some .eq) = false := by
        rw [is_zero HK.out.is, is_zero HL.out.is]
        by_cases h0 : k = 0
        · rw [decide_eq_false (show ¬ l = 0 from fun h => hz ⟨h0, h⟩), Bool.and_false]
        · rw [decide_eq_false h0, Bool.false_and]
      have HZ := Lib.hid hz
      clear hz
      go_wp2_with fail
      refine (quot_whole i j k l HI.out.sm HJ.out.sm HK.out.sm HL.out.sm HZ.out p1 p2 b1 b2 HP1.out HP2.out HK.out.is HL.out.is _).mono ?_
      rintro e w' ⟨u8, u9, n7, ⟨hu8, hu9⟩, rfl, rfl⟩
      have o8 := is_eq hu8 HI.out.is
      have o9 := is_eq hu9 HJ.out.is
      clear hu8 hu9
      go_wp2_with fail
      refine (scale_any a1 a2 1073741824 _).mono ?_
      rintro e w' ⟨r1, r2, n8, ⟨hr1, hr2⟩, rfl, rfl⟩
      have o10 := scale_two HI.out.sm HI.out.eq hr1
      have o11 := scale_two HJ.out.sm HJ.out.eq hr2
      have HA1 := Lib.hid (show floatBits .add .f32 a1 a1 = some (floatOfInt .f32 (2 * i)) by rw [HI.out.eq]; exact twice_add HI.out.sm)
      have HA2 := Lib.hid (show floatBits .add .f32 a2 a2 = some (floatOfInt .f32 (2 * j)) by rw [HJ.out.eq]; exact twice_add HJ.out.sm)
      clear hr1 hr2
      go_wp2_with (refine wpList_csum _ _ _ _ rfl rfl .f32 _ _ _ _ rfl rfl _ _ HA1.out HA2.out ?_)
      refine (b10At_any x0 _ _ 0 9 (by omega) (by omega) (by omega) (by omega) _ _ (by exact HY2.out) hl0).mono ?_
      rintro e w' ⟨q, hq, rfl, rfl⟩
      have HQ := Lib.hid hq
      clear hq
      go_wp2_with fail
      refine (b10any_any q (by have := HQ.out; omega) A1 c1 x1 _ (by exact HX2.out) hl1).mono ?_
      rintro e w3 ⟨rs, A3, c3, hrl, hrw, rfl, ho3, hb3⟩
      have HRL := Lib.hid (show rs.length ≤ 256 by have := HQ.out; omega)
      have HRW := Lib.hid (show InC rs from hrw)
      have B3 := Lib.hid (B2.out.trans (Below.mono (und hb3) B2.out.size))
      have HR3 := Lib.hid (show Ej.Rd w3 w3.heap.size A3 rs from ho3.rd)
      have HY3 := Lib.hid ((HY2.out.below (und hb3)).more (und hb3).size)
      clear hrl hrw ho3 hb3 HQ
      go_wp2_with fail
      refine (textC_any rs A3 c3 _ w3.heap.size (by exact HR3.out) HRL.out HRW.out (by exact Nat.le_refl _) (HT.out.below B3.out)).mono ?_
      have HTX := Lib.hid (show xcV (textC rs) = rs.map bitsC ∧ xcB (textC rs) = true ∧ (textC rs).length ≤ 1048576 from
        ⟨(textC_read HRW.out HRL.out).1, (textC_read HRW.out HRL.out).2, by have := textC_len rs (by have := HRL.out; omega); omega⟩)
      generalize textC rs = T at HTX ⊢
      obtain ⟨qs, hqs⟩ : ∃ qs, qs = rs.map bitsC := ⟨_, rfl⟩
      have HQL := Lib.hid (show qs.length = rs.length by rw [hqs, List.length_map])
      have HSL := Lib.hid (show SameL qs rs by rw [hqs]; exact same_bits HRW.out)
      rw [← hqs] at HTX
      clear hqs
      rintro e w4 ⟨rfl, hb4⟩
      have B4 := Lib.hid (B3.out.trans (Below.mono hb4 B3.out.size))
      have HR4 := Lib.hid ((HR3.out.below hb4).more hb4.size)
      have HY4 := Lib.hid ((HY3.out.below hb4).more hb4.size)
      clear hb4 HR3 HY3
      go_wp2_with fail
      refine (readC_any T qs rs.length HQL.out ⟨HTX.out.1, HTX.out.2.1⟩ HTX.out.2.2 _ (HT.out.below B4.out) (HE.out.below B4.out) (HM.out.below B4.out)).mono ?_
      rintro e w5 ⟨A5, c5, rfl, ho5, hb5⟩
      have B5 := Lib.hid (B4.out.trans (Below.mono hb5 B4.out.size))
      have HR5 := Lib.hid ((HR4.out.below hb5).more hb5.size)
      have HY5 := Lib.hid ((HY4.out.below hb5).more hb5.size)
      have HQ5 := Lib.hid (show Ej.Rd w5 w5.heap.size A5 qs from ho5.rd)
      clear ho5 hb5 HR4 HY4
      go_wp2_with fail
      refine (number_any A0 c0 x0 _ (by exact HY5.out) hl0).mono ?_
      rintro e w6 ⟨z, hz, rfl, hb6⟩
      have B6 := Lib.hid (B5.out.trans (Below.mono hb6 B5.out.size))
      have HR6 := Lib.hid ((HR5.out.below hb6).more hb6.size)
      have HQ6 := Lib.hid ((HQ5.out.below hb6).more hb6.size)
      have HY6 := Lib.hid ((HY5.out.below hb6).more hb6.size)
      clear hb6 HR5 HQ5 HY5
      go_wp2_with fail
      refine (impl_BitsOf z hz _).mono ?_
      rintro e w' ⟨rfl, rfl⟩
      go_wp2_with fail
      refine (impl_FromBits_in (bitsB z) (bitsB_range hz).1 (bitsB_range hz).2 _).mono ?_
      have HBK := Lib.hid (show sameB (bitsB z).toNat z = true ∧ W32 (bitsB z).toNat from ⟨same_yes (back_fl z), w32_of (by have := bitsB_range hz; omega)⟩)
      generalize (bitsB z).toNat = bk at HBK ⊢
      rintro e w' ⟨rfl, rfl⟩
      have HCZ := Lib.hid (same_w bk z HBK.out.2 (w32_of hz))
      rw [HBK.out.1] at HCZ
      clear HBK
      go_wp2_with fail
      refine (b10complex_any A0 c0 x0 _ (by exact HY6.out) hl0).mono ?_
      rintro e w7 ⟨v1, v2, hv1, hv2, rfl, hb7⟩
      have B7 := Lib.hid (B6.out.trans (Below.mono hb7 B6.out.size))
      have HR7 := Lib.hid ((HR6.out.below hb7).more hb7.size)
      have HQ7 := Lib.hid ((HQ6.out.below hb7).more hb7.size)
      clear hb7 HR6 HQ6 HY6
      go_wp2_with (refine wpList_fconv _ _ _ rfl rfl .f32 .f64 (by decide) _ rfl (by rw [Tryz.underlying28]; rfl) Tryz.underlying46 ?_); intro u1 nu1 hu1
      have HU1 := Lib.hid hu1
      clear hu1
      go_wp2_with (refine wpList_fconv _ _ _ rfl rfl .f32 .f64 (by decide) _ rfl (by rw [Tryz.underlying28]; rfl) Tryz.underlying46 ?_); intro u2 nu2 hu2
      have HU2 := Lib.hid hu2
      clear hu2
      go_wp2_with fail
      refine (b10Same_yes qs rs rs.length HQL.out rfl (by have := HRL.out; omega) A5 A3 c5 c3 _ w7.heap.size (by exact HQ7.out) (by exact HR7.out) HSL.out).mono ?_
      rintro e w' ⟨rfl, n9, rfl⟩
      go_wp2_with fail
      refine (HCZ.out _).mono ?_
      rintro e w' ⟨rfl, rfl⟩
      go_wp2_with fail
      refine (narrowC_any u1 u2 _).mono ?_
      rintro e w' ⟨r3, r4, n10, ⟨hr3, hr4⟩, rfl, rfl⟩
      have HSC := Lib.hid (sameC_yes r3 r4 v1 v2 hr3.2 hr4.2 hv1 hv2 (narrow_wide hv1 HU1.out hr3) (narrow_wide hv2 HU2.out hr4))
      clear hr3 hr4
      go_wp2_with fail
      refine (HSC.out _).mono ?_
      rintro e w' ⟨rfl, n11, rfl⟩
      go_wp2_with fail
      refine (conj_any v1 v2 _).mono ?_
      have HNN := Lib.hid (neg_neg hv2)
      generalize Op.negFloat .f32 v2 = v3 at HNN ⊢
      rintro e w' ⟨rfl, rfl⟩
      have HCJ := Lib.hid (conj_any v1 v3)
      rw [HNN.out] at HCJ
      go_wp2_with fail
      refine (HCJ.out _).mono ?_
      rintro e w' ⟨rfl, rfl⟩
      go_wp2_with fail
      refine (sameC_yes v1 v2 v1 v2 hv1 hv2 hv1 hv2 rfl rfl _).mono ?_
      rintro e w' ⟨rfl, n12, rfl⟩
      have HF := Lib.hid (finiteC_any v1 v2)
      have HF1 := Lib.hid (spec_IsFinite v1)
      have HF2 := Lib.hid (spec_IsFinite v2)
      generalize finB v1 = y1 at HF HF1
      generalize finB v2 = y2 at HF HF2
      cases y1
      · go_wp2_with fail
        refine (HF.out _).mono ?_
        rintro e w' ⟨rfl, n13, rfl⟩
        go_wp2_with fail
        refine (HF1.out _).mono ?_
        rintro e w' ⟨rfl, n14, rfl⟩
        go_wp2
        go_ret
        exact ⟨rfl, upd B7.out⟩
      · cases y2
        · go_wp2_with fail
          refine (HF.out _).mono ?_
          rintro e w' ⟨rfl, n13, rfl⟩
          go_wp2_with fail
          refine (HF1.out _).mono ?_
          rintro e w' ⟨rfl, n14, rfl⟩
          go_wp2_with fail
          refine (HF2.out _).mono ?_
          rintro e w' ⟨rfl, n15, rfl⟩
          go_wp2
          go_ret
          exact ⟨rfl, upd B7.out⟩
        · go_wp2_with fail
          refine (HF.out _).mono ?_
          rintro e w' ⟨rfl, n13, rfl⟩
          go_wp2_with fail
          refine (HF1.out _).mono ?_
          rintro e w' ⟨rfl, n14, rfl⟩
          go_wp2_with fail
          refine (HF2.out _).mono ?_
          rintro e w' ⟨rfl, n15, rfl⟩
          go_wp2
          go_ret
          exact ⟨rfl, upd B7.out⟩
  · go_enter Tryz.func3, Tryz.ntmps3
    go_wp2_with fail
    refine (b10Long_yes _ _ _ _ _ _ hl _).mono ?_
    rintro e w' ⟨rfl, rfl⟩
    go_wp2
    go_ret
    exact ⟨rfl, Below.refl _ _⟩

end Go.Proofs.YtkfhgjknmdlhbaaGreatDoor.Gs