/- The walks: ReadComplex: the program's side. -/
import Derived.Test.YtkfhgjknmdlhbaaGreatDoorEk
namespace Go.Proofs.YtkfhgjknmdlhbaaGreatDoor.El
open Go Go.RowKit Go.Lib Fb WA Da Dd De Dm Dn Ea Eb Ec Ee Ef Ej Ek
set_option linter.unusedVariables false
theorem wp_pushFirst {o : Oper} {a : Act} {K : Act → World → Prop} {Q : Exit → Act → World → Prop} (w0 w1 wr : World) (x : (Nat × Nat)) (g0 : Nat) (hg : Gath w0 wr (.slice (some ⟨g0, 0, none⟩) 0 0) []) (hb : Below w1.heap.size w1 wr)
    (s y : Operand) (ho : o.op = .call { callee := .builtin .append, args := #[s, y], argTypes := #[25, 25] })
    (hs : a.eval s = .slice (some ⟨g0, 0, none⟩) 0 0) (hy : a.eval y = .slice (some ⟨wr.heap.size, 0, none⟩) 1 1)
    (h : ∀ v' w', Gath w1 w' v' [x] → K (a.put o.dst v') w') : Oper.wp Tryz.prog o a (wr.alloc (.cells #[cv x] 24)) K Q := by
  obtain ⟨i0, hi, hz0, hz1, hz2⟩ := info_parts c64_info
  have hnews : ∀ (j : Nat) u, [cv x][j]? = some u → (wr.alloc (.cells #[cv x] 24)).cell? ((⟨wr.heap.size, 0, none⟩ : Addr).add j) = some u := by
    intro j u hj
    match j, hj with
    | 0, hj => simp at hj; subst hj; simp [Addr.add]
  have hsz := hg.below.size
  obtain ⟨v1, w2, hr, hown, hgrow, _⟩ := run_append_own (P := Tryz.prog) (wr.alloc (.cells #[cv x] 24)) w0.heap.size 25 o.type 24 i0 (.complex .f32 0 0) 1 8 Tryz.underlying25 hi hz0 hz1 hz2 rfl (by decide) _ 0 [] (hg.own.alloc _) ⟨wr.heap.size, 0, none⟩ 1 1 [cv x] rfl hnews
    (by intro u hu; simp at hu; subst hu; rfl) (by unfold maxLen; omega) (by omega) (by simp; omega)
  have hr2 := run_append_grow (P := Tryz.prog) (wr.alloc (.cells #[cv x] 24)) 25 o.type 24 i0 (.complex .f32 0 0) Tryz.underlying25 hi hz0 ⟨g0, 0, none⟩ 0 0 [] (by simp) (by intro j u hj; simp at hj) ⟨wr.heap.size, 0, none⟩ 1 1 [cv x] (by rw [hz1]; rfl) hnews (by omega) (by omega)
    (by rw [hz2]; exact growslice_fits (by omega) (by omega))
  rw [hr] at hr2
  simp only [Result.ok.injEq] at hr2
  obtain ⟨hv, hw⟩ := hr2
  have hb1 := hb.alloc hb.size (.cells #[cv x] 24)
  refine wp_append_run _ s y _ _ ho _ _ hs hy v1 w2 hr (h v1 w2 ⟨?_, ?_⟩)
  · refine ⟨hown.1, ?_⟩
    rcases hown.2 with ⟨e, _⟩ | ⟨g, cap, cur, e, _, rest⟩
    · rw [hv] at e; simp at e
    · refine .inr ⟨g, cap, cur, e, ?_, rest⟩
      rw [hv] at e
      simp at e
      have := hb.size
      omega
  · rw [hw]
    have hbd : Below w1.heap.size w1 (wr.alloc (.cells #[cv x] 24)).drew := ⟨hb1.os, hb1.tape, hb1.output, hb1.size, hb1.block⟩
    exact hbd.alloc hbd.size _
theorem wp_pushC {o : Oper} {a : Act} {K : Act → World → Prop} {Q : Exit → Act → World → Prop} (w1 wr : World) (rs : List (Nat × Nat)) (x : Nat × Nat) (v : Value) (hg : Gath w1 wr v rs) (hlen : rs.length ≤ 1099511627776)
    (s y : Operand) (ho : o.op = .call { callee := .builtin .append, args := #[s, y], argTypes := #[25, 25] })
    (hs : a.eval s = v) (hy : a.eval y = .slice (some ⟨wr.heap.size, 0, none⟩) 1 1)
    (h : ∀ v' w', Gath w1 w' v' (rs ++ [x]) → K (a.put o.dst v') w') : Oper.wp Tryz.prog o a (wr.alloc (.cells #[cv x] 24)) K Q := by
  obtain ⟨i0, hi, hz0, hz1, hz2⟩ := info_parts c64_info
  refine wp_append_own _ s y 25 ho w1.heap.size 24 i0 (.complex .f32 0 0) 1 8 Tryz.underlying25 hi hz0 hz1 hz2 rfl (by decide) _ _ _ hs (hg.own.alloc _) ⟨wr.heap.size, 0, none⟩ 1 1 [cv x] hy rfl ?c1 ?c2 ?c3 ?c4 ?c5 ?_
  case c1 =>
    intro j u hj
    match j, hj with
    | 0, hj => simp at hj; subst hj; simp [Addr.add]
  case c2 => intro u hu; simp at hu; subst hu; rfl
  case c3 => unfold maxLen; omega
  case c4 => omega
  case c5 => have := hg.below.size; simp; omega
  · intro v' w' hown' hgrow _
    refine h v' w' ⟨?_, ?_⟩
    · have e1 : (rs ++ [x]).length = rs.length + 1 := by simp
      have e2 : vs (rs ++ [x]) = vs rs ++ [cv x] := by unfold vs; simp
      rw [e1, e2]; exact hown'
    · refine (hg.below.alloc hg.below.size _).grown hgrow (by simp; have := hg.below.size; omega) ?_
      intro k hk
      exact (hg.own.lt k hk).1
theorem step_pushI {ops : Array Oper} {o : Oper} {a : Act} {K : Act → World → Prop} {Q : Exit → Act → World → Prop} {E : Prop} (w0 w1 wr : World) (rs : List (Nat × Nat)) (x : Nat × Nat) (v : Value) (hg : Hid (GI w0 w1 wr v rs)) (hlen : rs.length ≤ 1099511627776)
    (hgd : o.guard = none) (s y : Operand) (ho : o.op = .call { callee := .builtin .append, args := #[s, y], argTypes := #[25, 25] })
    (hs : a.eval s = v) (hy : a.eval y = .slice (some ⟨wr.heap.size, 0, none⟩) 1 1)
    (h : ∀ v' w', Hid (GI w0 w1 w' v' (rs ++ [x])) → K (a.put o.dst v') w') : if Region.wanted o (yielded ops a.tmps) = true then Oper.wp Tryz.prog o a (wr.alloc (.cells #[cv x] 24)) K Q else E := by
  have hw : Region.wanted o (yielded ops a.tmps) = true := by simp [Region.wanted, hgd]
  rw [if_pos hw]
  rcases hg.out with ⟨rfl, ⟨g0, rfl⟩, hg1, hb⟩ | ⟨hne, hg1⟩
  · exact wp_pushFirst w0 w1 wr x g0 hg1 hb s y ho hs hy fun v' w' hG => h v' w' (Lib.hid (.inr ⟨by simp, hG⟩))
  · exact wp_pushC w1 wr rs x v hg1 hlen s y ho hs hy fun v' w' hG => h v' w' (Lib.hid (.inr ⟨by simp, hG⟩))
def InC (xs : List (Nat × Nat)) : Prop := ∀ x ∈ xs, x.1 < 4294967296 ∧ x.2 < 4294967296
def fewC (xs : List (Nat × Nat)) : Bool := decide ((xs.length : Int) ≤ 256)
def TextXC (xs : List (Nat × Nat)) (w : World) (j : Nat) (v : Value) (wr : World) : Prop := ∃ ls, ls = (xs.take j).map hexC ∧ GathT w wr v ls
theorem joinC_len (xs : List (Nat × Nat)) : (join (xs.map hexC) [44]).length ≤ 17 * xs.length := by
  cases xs with
  | nil => simp [join_nil]
  | cons a r =>
    rw [List.map_cons, join_cons]
    have : ∀ r : List (Nat × Nat), (joinTail [44] (r.map hexC)).length = 17 * r.length := by
      intro r
      induction r with
      | nil => rfl
      | cons b r ih =>
        have e : joinTail [44] ((b :: r).map hexC) = ([44] ++ hexC b) ++ joinTail [44] (r.map hexC) := by simp [joinTail]
        rw [e, List.length_append, ih, List.length_append, hexC_len, List.length_cons, List.length_cons, List.length_nil]
        omega
    rw [List.length_append, this, hexC_len, List.length_cons]
    omega
set_option maxHeartbeats 4000000 in
theorem impl_ComplexText (xs : List (Nat × Nat)) (A : Option Addr) (c : Nat) (w : World) (M : Nat) (hx : Ej.Rd w M A xs) (hl : xs.length ≤ 1048576) (hr : InC xs) (hM : M ≤ w.heap.size) (ht : Bru w) : Calls Tryz.prog 17 #[.slice A xs.length c] w (RetSB (textC xs) (fewC xs) w) := by
  have HX := Lib.hid hx
  have HR := Lib.hid hr
  have HT := Lib.hid ht
  clear hx hr ht
  by_cases h256 : xs.length ≤ 256
  · have hd : decide ((256 : Int) < (xs.length : Int)) = false := decide_eq_false (by omega)
    have HF := Lib.hid (show fewC xs = true from decide_eq_true (by omega))
    go_enter Tryz.func17, Tryz.ntmps17
    go_wp2
    go_loopw [4, 13] (fun v i wr => ∃ j : Nat, j ≤ xs.length ∧ i = .int .i64 j ∧ Hid (TextXC xs w j v wr)) (fun _ i _ => xs.length - (RowKit.intOf i).toNat)
    case atStart => exact ⟨0, by omega, rfl, Lib.hid ⟨[], rfl, GathT.empty w⟩⟩
    case round =>
      obtain ⟨j, hj, rfl, HJ⟩ := hrel
      obtain ⟨ls, hls, hg0⟩ := HJ.out
      have hll : ls.length = j := by rw [hls, List.length_map, List.length_take]; omega
      have HLN := Lib.hid (show ls.length ≤ 1099511627776 by omega)
      have HL := Lib.hid hls
      have HG := Lib.hid hg0
      clear HJ hls hg0 hll
      by_cases hlt : j < xs.length
      · obtain ⟨ad, rfl, hb, hc⟩ := ((HX.out.more hM).below HG.out.below).at_ hlt
        obtain ⟨z, hz⟩ : ∃ z, z = xs[j] := ⟨_, rfl⟩
        rw [← hz] at hc
        obtain ⟨z1, z2⟩ := z
        have hc' : wr.cell? (ad.add j) = some (.complex .f32 z1 z2) := hc
        have HRZ := Lib.hid (show z1 < 4294967296 ∧ z2 < 4294967296 from HR.out (z1, z2) (by rw [hz]; exact List.getElem_mem hlt))
        obtain ⟨D1, hD1⟩ : ∃ D, D = hexT z1 := ⟨_, rfl⟩
        obtain ⟨D2, hD2⟩ : ∃ D, D = hexT z2 := ⟨_, rfl⟩
        have hl1 : D1.length ≤ 8 := by rw [hD1, hexT_len]; omega
        have hl2 : D2.length ≤ 8 := by rw [hD2, hexT_len]; omega
        have HD1 := Lib.hid hD1
        have HD2 := Lib.hid hD2
        have HN := Lib.hid (show ls ++ [D1 ++ D2] = (xs.take (j + 1)).map hexC by rw [HL.out, List.take_succ_eq_append_getElem hlt, List.map_append, hD1, hD2, ← hz]; rfl)
        have hadd : ∀ w, (Op.stringOp .add ⟨D1.toArray⟩ ⟨D2.toArray⟩).run Tryz.prog w = .ok (.string ⟨(D1 ++ D2).toArray⟩) w := fun w => run_string_add_lists w D1 D2 (by omega) (by omega)
        clear hz hD1 hD2 hc
        go_wp2_with fail
        refine (impl_hexOf z1 HRZ.out.1 _ (HT.out.below HG.out.below)).mono ?_
        rw [← HD1.out]
        rintro e w2 ⟨rfl, hb2⟩
        have HG2 := Lib.hid (gathT_below HG.out hb2)
        clear hb2
        go_wp2_with fail
        refine (impl_hexOf z2 HRZ.out.2 _ (HT.out.below HG2.out.below)).mono ?_
        rw [← HD2.out]
        rintro e w3 ⟨rfl, hb3⟩
        have HG3 := Lib.hid (gathT_below HG2.out hb3)
        clear hb3
        go_wp2_with (at_builtin; refine wpList_pushS w _ _ (D1 ++ D2) _ HG3 HLN.out (by rfl) _ _ (by rfl) (by rfl) (by rfl) ?_; intro v' w' HG')
        go_roundw
        case rel => exact ⟨j + 1, by omega, by go_num, Lib.hid ⟨_, HN.out, HG'.out⟩⟩
        case measure => simp [RowKit.intOf]; omega
      · have hjl : j = xs.length := by omega
        have hls2 : ls = xs.map hexC := by rw [HL.out, hjl, List.take_length]
        have hlm : ls.length ≤ 1048576 := by rw [hls2, List.length_map]; omega
        have HV := Lib.hid (show joinedV ls = textC xs by rw [hls2]; rfl)
        have hjn : (join ls [44]).length ≤ 1099511627776 := by rw [hls2]; have := joinC_len xs; omega
        clear hjl hls2
        obtain ⟨A', c', rfl, hg⟩ := gathT_shape HG.out
        have HG3 := Lib.hid hg
        clear hg HG
        go_wp2_with fail
        have HCJ := Lib.hid (impl_joined ls A' c' w wr HG3.out hlm hjn)
        refine HCJ.out.mono ?_
        rw [HV.out]
        rintro e w2 ⟨rfl, hb2⟩
        have HB2 := Lib.hid (HG3.out.below.trans (Below.mono hb2 HG3.out.below.size))
        clear hb2 HCJ
        go_wp2
        go_ret2
        rw [HF.out]
        exact ⟨rfl, HB2.out⟩
  · have hd : decide ((256 : Int) < (xs.length : Int)) = true := decide_eq_true (by omega)
    have HF := Lib.hid (show fewC xs = false from decide_eq_false (by omega))
    go_enter Tryz.func17, Tryz.ntmps17
    go_wp2
    go_ret2
    rw [HF.out]
    exact ⟨rfl, Below.refl _ _⟩

end Go.Proofs.YtkfhgjknmdlhbaaGreatDoor.El