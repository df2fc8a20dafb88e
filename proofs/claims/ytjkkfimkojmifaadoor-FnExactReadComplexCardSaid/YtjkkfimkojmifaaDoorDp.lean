/- The walks: ReadList. -/
import Derived.Lib.AppendZeros
import Derived.Test.YtjkkfimkojmifaaDoorDn
namespace Go.Proofs.YtjkkfimkojmifaaDoor.Dp
open Go Go.RowKit Go.Lib Da Dc Dd De Di Dj Dl Dm Dn
set_option linter.unusedVariables false
/-- Gathered since w0, or since w1 if anything is. -/
def GI (w0 w1 wr : World) (v : Value) (rs : List Int) : Prop := (rs = [] ∧ (∃ g0, v = .slice (some ⟨g0, 0, none⟩) 0 0) ∧ Gath w0 wr v [] ∧ Below w1.heap.size w1 wr) ∨ (rs ≠ [] ∧ Gath w1 wr v rs)
section
variable {w0 w1 wr w2 : World} {v : Value} {rs : List Int}
theorem GI.below (h : GI w0 w1 wr v rs) : Below w1.heap.size w1 wr := by
  rcases h with ⟨_, _, _, h⟩ | ⟨_, h⟩
  · exact h
  · exact h.below
theorem GI.after (h : GI w0 w1 wr v rs) (hb : Below wr.heap.size wr w2) : GI w0 w1 w2 v rs := by
  rcases h with ⟨e, hv, hg, hb1⟩ | ⟨e, hg⟩
  · exact .inl ⟨e, hv, gath_below hg hb, hb1.trans (Below.mono hb hb1.size)⟩
  · exact .inr ⟨e, gath_below hg hb⟩
theorem GI.gath (h : GI w0 w1 wr v rs) (hb : Below w0.heap.size w0 w1) : Gath w0 wr v rs := by
  rcases h with ⟨rfl, _, hg, _⟩ | ⟨_, hg⟩
  · exact hg
  · exact hg.after hb
theorem GI.zero {g0 : Nat} (hg : Gath w0 w1 (.slice (some ⟨g0, 0, none⟩) 0 0) []) : GI w0 w1 w1 (.slice (some ⟨g0, 0, none⟩) 0 0) [] := .inl ⟨rfl, ⟨g0, rfl⟩, hg, Below.refl _ _⟩
end
theorem wpList_pushFirst {ops : Array Oper} {rest : List Oper} {o : Oper} {a : Act} {Q : Exit → Act → World → Prop} (w0 w1 wr : World) (x : Int) (g0 : Nat) (hg : Gath w0 wr (.slice (some ⟨g0, 0, none⟩) 0 0) []) (hb : Below w1.heap.size w1 wr)
    (hgd : o.guard = none) (s y : Operand) (ho : o.op = .call { callee := .builtin .append, args := #[s, y], argTypes := #[24, 24] })
    (hs : a.eval s = .slice (some ⟨g0, 0, none⟩) 0 0) (hy : a.eval y = .slice (some ⟨wr.heap.size, 0, none⟩) 1 1)
    (h : ∀ v' w', Gath w1 w' v' [x] → wpList Tryd.prog ops Q rest (a.put o.dst v') w') : wpList Tryd.prog ops Q (o :: rest) a (wr.alloc (.cells #[.int .i64 x] 2)) := by
  obtain ⟨i0, hi, hz0, hz1, hz2⟩ := info_parts i64_info
  have hnews : ∀ (j : Nat) u, [.int .i64 x][j]? = some u → (wr.alloc (.cells #[.int .i64 x] 2)).cell? ((⟨wr.heap.size, 0, none⟩ : Addr).add j) = some u := by
    intro j u hj
    match j, hj with
    | 0, hj => simp at hj; subst hj; simp [Addr.add]
  have hsz := hg.below.size
  obtain ⟨v1, w2, hr, hown, hgrow, _⟩ := run_append_own (P := Tryd.prog) (wr.alloc (.cells #[.int .i64 x] 2)) w0.heap.size 24 o.type 2 i0 (.int .i64 0) 1 8 Tryd.underlying24 hi hz0 hz1 hz2 rfl (by decide) _ 0 [] (hg.own.alloc _) ⟨wr.heap.size, 0, none⟩ 1 1 [.int .i64 x] rfl hnews
    (by intro u hu; simp at hu; subst hu; rfl) (by unfold maxLen; omega) (by omega) (by simp; omega)
  have hr2 := run_append_grow (P := Tryd.prog) (wr.alloc (.cells #[.int .i64 x] 2)) 24 o.type 2 i0 (.int .i64 0) Tryd.underlying24 hi hz0 ⟨g0, 0, none⟩ 0 0 [] (by simp) (by intro j u hj; simp at hj) ⟨wr.heap.size, 0, none⟩ 1 1 [.int .i64 x] (by rw [hz1]; rfl) hnews (by omega) (by omega)
    (by rw [hz2]; exact growslice_fits (by omega) (by omega))
  rw [hr] at hr2
  simp only [Result.ok.injEq] at hr2
  obtain ⟨hv, hw⟩ := hr2
  have hb1 := hb.alloc hb.size (.cells #[.int .i64 x] 2)
  refine wpList_append_run _ hgd s y _ _ ho _ _ hs hy v1 w2 hr (h v1 w2 ⟨?_, ?_⟩)
  · refine ⟨hown.1, ?_⟩
    rcases hown.2 with ⟨e, _⟩ | ⟨g, cap, cur, e, _, rest⟩
    · rw [hv] at e; simp at e
    · refine .inr ⟨g, cap, cur, e, ?_, rest⟩
      rw [hv] at e
      simp at e
      have := hb.size
      omega
  · rw [hw]
    have hbd : Below w1.heap.size w1 (wr.alloc (.cells #[.int .i64 x] 2)).drew := ⟨hb1.os, hb1.tape, hb1.output, hb1.size, hb1.block⟩
    exact hbd.alloc hbd.size _
theorem wpList_pushI {ops : Array Oper} {rest : List Oper} {o : Oper} {a : Act} {Q : Exit → Act → World → Prop} (w0 w1 wr : World) (rs : List Int) (x : Int) (v : Value) (hg : Hid (GI w0 w1 wr v rs)) (hlen : rs.length ≤ 1099511627776)
    (hgd : o.guard = none) (s y : Operand) (ho : o.op = .call { callee := .builtin .append, args := #[s, y], argTypes := #[24, 24] })
    (hs : a.eval s = v) (hy : a.eval y = .slice (some ⟨wr.heap.size, 0, none⟩) 1 1)
    (h : ∀ v' w', Hid (GI w0 w1 w' v' (rs ++ [x])) → wpList Tryd.prog ops Q rest (a.put o.dst v') w') : wpList Tryd.prog ops Q (o :: rest) a (wr.alloc (.cells #[.int .i64 x] 2)) := by
  rcases hg.out with ⟨rfl, ⟨g0, rfl⟩, hg1, hb⟩ | ⟨hne, hg1⟩
  · exact wpList_pushFirst w0 w1 wr x g0 hg1 hb hgd s y ho hs hy fun v' w' hG => h v' w' (Lib.hid (.inr ⟨by simp, hG⟩))
  · exact wpList_push w1 wr rs x v (Lib.hid hg1) hlen hgd s y ho hs hy fun v' w' hG => h v' w' (Lib.hid (.inr ⟨by simp, hG.out⟩))

theorem cutF_mem {l p : List UInt8} (h : p ∈ cutF l) : p.length ≤ l.length := by
  have key : ∀ (l : List UInt8) (D : List (List UInt8)) (c : List UInt8) (n : Nat), (∀ p ∈ D, p.length ≤ n) → c.length + l.length ≤ n → ∀ p ∈ (l.foldl cstep (D, c)).1 ++ [(l.foldl cstep (D, c)).2], p.length ≤ n := by
    intro l
    induction l with
    | nil =>
      intro D c n hD hc p hp
      rw [List.foldl_nil, List.mem_append, List.mem_singleton] at hp
      rcases hp with hp | rfl
      · exact hD p hp
      · simpa using hc
    | cons x l ih =>
      intro D c n hD hc p hp
      rw [List.length_cons] at hc
      by_cases h : x = 44
      · rw [List.foldl_cons, show cstep (D, c) x = (D ++ [c], []) by unfold cstep; rw [if_pos h]] at hp
        refine ih (D ++ [c]) [] n ?_ (by simp; omega) p hp
        intro q hq
        rw [List.mem_append, List.mem_singleton] at hq
        rcases hq with hq | rfl
        · exact hD q hq
        · omega
      · rw [List.foldl_cons, show cstep (D, c) x = (D, c ++ [x]) by unfold cstep; rw [if_neg h]] at hp
        exact ih D (c ++ [x]) n hD (by simp; omega) p hp
  exact key l [] [] l.length (by simp) (by simp) p h
/-- The numbers of a list with a text, and whether. -/
def numsV (l : List UInt8) : List Int := (piecesV l).map specN
def numsB (l : List UInt8) : Bool := decide ((piecesV l).length ≤ 64) && (piecesV l).all readB
theorem numsB_long {l : List UInt8} (h : ¬ (piecesV l).length ≤ 64) : numsB l = false := by unfold numsB; rw [decide_eq_false h]; rfl
theorem all_no {P : List (List UInt8)} {j : Nat} (hj : j < P.length) (hr : readB P[j] = false) : P.all readB = false := by
  rw [List.all_eq_false]
  exact ⟨P[j], List.getElem_mem hj, by simp [hr]⟩
theorem take_map {P : List (List UInt8)} {j : Nat} (hj : j < P.length) : (P.take j).map specN ++ [specN P[j]] = (P.take (j + 1)).map specN := by
  rw [List.take_succ_eq_append_getElem hj, List.map_append]; rfl
theorem all_step {P : List (List UInt8)} {j : Nat} (hj : j < P.length) (h : (P.take j).all readB = true) (hr : readB P[j] = true) : (P.take (j + 1)).all readB = true := by
  rw [List.take_succ_eq_append_getElem hj, List.all_append, h]; simp [hr]

theorem numsB_fail {P : List (List UInt8)} {l : List UInt8} {w w' : World} (h : P.all readB = false) (hP : P = piecesV l) (hb : Below w.heap.size w w') : RetLI (numsV l) (numsB l) w (.returned (.tuple #[.slice none 0 0, .bool false])) w' := by
  have e : numsB l = false := by unfold numsB; rw [← hP, h, Bool.and_false]
  rw [e]; exact RetLI.no hb
theorem nums_ok {P : List (List UInt8)} {l : List UInt8} {zs : List Int} {w w' : World} {v : Value} (h1 : zs = P.map specN) (h2 : P.all readB = true) (hP : P = piecesV l) (h64 : P.length ≤ 64) (hg : Gath w w' v zs) :
    RetLI (numsV l) (numsB l) w (.returned (.tuple #[v, .bool true])) w' := by
  have e : numsB l = true := by unfold numsB; rw [← hP, h2, decide_eq_true h64]; rfl
  have e2 : zs = numsV l := by unfold numsV; rw [h1, hP]
  rw [e]; exact hg.retLI e2
/-- As ReadList, any number of pieces. -/
def RetAny (l : List UInt8) (w : World) (e : Ending) (w' : World) : Prop := RetLI (numsV l) ((piecesV l).all readB) w e w'
theorem RetAny.no {P : List (List UInt8)} {l : List UInt8} {w w' : World} (h : P.all readB = false) (hP : P = piecesV l) (hb : Below w.heap.size w w') : RetAny l w (.returned (.tuple #[.slice none 0 0, .bool false])) w' := by
  unfold RetAny
  rw [← hP, h]; exact RetLI.no hb
theorem RetAny.yes {P : List (List UInt8)} {l : List UInt8} {zs : List Int} {w w' : World} {v : Value} (h1 : zs = P.map specN) (h2 : P.all readB = true) (hP : P = piecesV l) (hg : Gath w w' v zs) :
    RetAny l w (.returned (.tuple #[v, .bool true])) w' := by
  unfold RetAny
  rw [← hP, h2]
  exact hg.retLI (by unfold numsV; rw [h1, hP])
theorem pieces_mem {s : ByteArray} {p : List UInt8} (h : p ∈ piecesV s.data.toList) : p.length ≤ s.size := by
  unfold piecesV at h
  split at h
  · simp at h
  · exact cutF_mem h
theorem pieces_len (s : ByteArray) : (piecesV s.data.toList).length ≤ s.size + 1 := by
  unfold piecesV
  split
  · simp
  · exact cutF_len _
set_option maxRecDepth 8000 in
set_option maxHeartbeats 4000000 in
theorem spec_l01Numbers (s : ByteArray) (hs : s.size ≤ 1048576) (w : World) : Calls Tryd.prog 49 #[.string s] w (RetLI (numsV s.data.toList) (numsB s.data.toList) w) := by
  by_cases hn : s.data.toList = noneT
  · have h1 := none_eq hn
    have HP := Lib.hid (show numsV s.data.toList = [] ∧ numsB s.data.toList = true by unfold numsV numsB piecesV; rw [if_pos hn]; exact ⟨rfl, rfl⟩)
    clear hn
    go_enter Tryd.func49, Tryd.ntmps49
    go_wp2
    go_ret2
    rw [HP.out.1, HP.out.2]
    exact (Gath.empty w).retLI rfl
  · have h1 := none_ne hn
    have HPC := Lib.hid (show piecesV s.data.toList = cutF s.data.toList by unfold piecesV; rw [if_neg hn])
    have HPM := Lib.hid (fun p (hp : p ∈ cutF s.data.toList) => show p.length ≤ s.size from cutF_mem hp)
    have HPL := Lib.hid (show (cutF s.data.toList).length ≤ 1048577 by have := cutF_len s.data.toList; have e : s.data.toList.length = s.size := rfl; omega)
    clear hn
    go_enter Tryd.func49, Tryd.ntmps49
    go_wp2_with fail
    refine (spec_l01Cut s hs _).mono ?_
    rintro e w1 ⟨A, c, rfl, hr1, hb1⟩
    have R1 := Lib.hid hr1
    have G1 := Lib.hid (GI.zero (gath_below (Gath.empty w) hb1))
    have B1 := Lib.hid ((Gath.empty w).below.trans (Below.mono hb1 (Gath.empty w).below.size))
    clear hr1 hb1
    generalize hP : cutF s.data.toList = P at R1 HPC HPM HPL
    have HP := Lib.hid HPC.out.symm
    clear hP HPC
    have hpl := HPL.out
    by_cases hl64 : P.length ≤ 64
    · have hd : decide ((64 : Int) < (P.length : Int)) = false := decide_eq_false (by omega)
      go_wp2
      go_loopw [4, 6] (fun v i wr => ∃ j : Nat, j ≤ P.length ∧ i = .int .i64 j ∧ Hid (GI w w1 wr v ((P.take j).map specN)) ∧ Hid ((P.take j).all readB = true)) (fun _ i _ => P.length - (RowKit.intOf i).toNat)
      case atStart => exact ⟨0, by omega, rfl, G1, Lib.hid rfl⟩
      case round =>
        obtain ⟨j, hj, rfl, HG, HA⟩ := hrel
        have HLN := Lib.hid (show ((P.take j).map specN).length ≤ 1099511627776 by rw [List.length_map, List.length_take]; omega)
        by_cases hlt : j < P.length
        · obtain ⟨ad, rfl, hb, hc⟩ := (R1.out.below HG.out.below).at_ hlt
          obtain ⟨l, hl⟩ : ∃ l, l = P[j] := ⟨_, rfl⟩
          have HLL := Lib.hid (show (⟨l.toArray⟩ : ByteArray).size ≤ 1048576 by
            show l.length ≤ _
            have := HPM.out l (by rw [hl]; exact List.getElem_mem hlt)
            omega)
          rw [← hl] at hc
          cases hr : readB l
          · have HF := Lib.hid (all_no hlt (by rw [← hl]; exact hr))
            have HR := Lib.hid hr
            clear hr hl HA
            go_wp2_with fail
            refine (spec_l01Value ⟨l.toArray⟩ HLL.out _).mono ?_
            rintro e w3 ⟨he, hb3⟩
            rw [show (⟨l.toArray⟩ : ByteArray).data.toList = l from rfl, HR.out] at he
            obtain rfl := he
            have B3 := Lib.hid ((B1.out.trans (Below.mono HG.out.below B1.out.size)).trans (Below.mono hb3 (Nat.le_trans B1.out.size HG.out.below.size)))
            clear hb3
            go_wp2
            go_ret2
            exact numsB_fail HF.out HP.out B3.out
          · have HS := Lib.hid (all_step hlt HA.out (by rw [← hl]; exact hr))
            have HM := Lib.hid (show (P.take j).map specN ++ [specN l] = (P.take (j + 1)).map specN by rw [hl]; exact take_map hlt)
            have HR := Lib.hid hr
            clear hr hl HA
            go_wp2_with fail
            refine (spec_l01Value ⟨l.toArray⟩ HLL.out _).mono ?_
            rintro e w3 ⟨he, hb3⟩
            rw [show (⟨l.toArray⟩ : ByteArray).data.toList = l from rfl, HR.out, show pickN true (specN l) = specN l from rfl] at he
            obtain rfl := he
            have HG3 := Lib.hid (HG.out.after hb3)
            clear hb3
            go_wp2_with (at_builtin; refine wpList_pushI w w1 _ _ (specN l) _ HG3 HLN.out (by rfl) _ _ (by rfl) (by rfl) (by rfl) ?_; intro v' w' HG')
            go_roundw
            case rel => exact ⟨j + 1, by omega, by go_num, Lib.hid (by rw [← HM.out]; exact HG'.out), HS⟩
            case measure => simp [RowKit.intOf]; omega
        · have hjl : j = P.length := by omega
          have HD := Lib.hid (show (P.take j).map specN = P.map specN ∧ P.all readB = true by
            have h := HA.out
            rw [hjl, List.take_length] at h ⊢
            exact ⟨rfl, h⟩)
          clear hjl
          go_wp2
          go_ret2
          exact nums_ok HD.out.1 HD.out.2 HP.out hl64 (HG.out.gath B1.out)
    · have hd : decide ((64 : Int) < (P.length : Int)) = true := decide_eq_true (by omega)
      have HF := Lib.hid (show numsB s.data.toList = false from numsB_long (by rw [← HP.out]; exact hl64))
      go_wp2
      go_ret2
      rw [HF.out]
      exact RetLI.no B1.out
theorem spec_ReadList (s : ByteArray) (hs : s.size ≤ 1048576) (w : World) : Calls Tryd.prog 22 #[.string s] w (RetLI (numsV s.data.toList) (numsB s.data.toList) w) := by
  go_enter Tryd.func22, Tryd.ntmps22
  go_wp2_with fail
  refine (spec_l01Numbers s hs _).mono ?_
  rintro e w2 ⟨rs, A, c, hrs, rfl, ho, hb⟩
  have HO := Lib.hid ho
  have HR := Lib.hid hrs
  have HB := Lib.hid hb
  clear hrs ho hb
  go_wp2
  go_ret2
  exact ⟨rs, A, c, HR.out, rfl, HO.out, HB.out⟩
set_option maxRecDepth 8000 in
set_option maxHeartbeats 4000000 in
theorem impl_readList (s : ByteArray) (hs : s.size ≤ 1048576) (w : World) (ht : Pow10 w) (he : Errs w) (hm : MaxL w) : Calls Tryd.prog 50 #[.string s] w (RetAny s.data.toList w) := by
  have HT := Lib.hid ht
  have HE := Lib.hid he
  have HPM := Lib.hid (fun p (hp : p ∈ piecesV s.data.toList) => (pieces_mem hp : p.length ≤ s.size))
  have HPL := Lib.hid (show (piecesV s.data.toList).length ≤ 1048577 by have := pieces_len s; omega)
  have HMX := Lib.hid hm
  clear ht he hm
  go_enter Tryd.func50, Tryd.ntmps50
  go_wp2_with fail
  refine (impl_pieces s hs _ (HMX.out.below (Gath.empty w).below)).mono ?_
  rintro e w1 ⟨A, c, rfl, hr1, hb1⟩
  have R1 := Lib.hid hr1
  have G1 := Lib.hid (GI.zero (gath_below (Gath.empty w) hb1))
  have B1 := Lib.hid ((Gath.empty w).below.trans (Below.mono hb1 (Gath.empty w).below.size))
  clear hr1 hb1
  generalize hP : piecesV s.data.toList = P at R1 HPM HPL
  have HP := Lib.hid hP.symm
  clear hP
  have hpl := HPL.out
  go_wp2
  go_loopw [4, 13] (fun v i wr => ∃ j : Nat, j ≤ P.length ∧ i = .int .i64 j ∧ Hid (GI w w1 wr v ((P.take j).map specN)) ∧ Hid ((P.take j).all readB = true)) (fun _ i _ => P.length - (RowKit.intOf i).toNat)
  case atStart => exact ⟨0, by omega, rfl, G1, Lib.hid rfl⟩
  case round =>
    obtain ⟨j, hj, rfl, HG, HA⟩ := hrel
    have HLN := Lib.hid (show ((P.take j).map specN).length ≤ 1099511627776 by rw [List.length_map, List.length_take]; omega)
    by_cases hlt : j < P.length
    · obtain ⟨ad, rfl, hb, hc⟩ := (R1.out.below HG.out.below).at_ hlt
      obtain ⟨l, hl⟩ : ∃ l, l = P[j] := ⟨_, rfl⟩
      have HLL := Lib.hid (show (⟨l.toArray⟩ : ByteArray).size ≤ 1048576 by
        show l.length ≤ _
        have := HPM.out l (by rw [hl]; exact List.getElem_mem hlt)
        omega)
      rw [← hl] at hc
      cases hr : readB l
      · have HF := Lib.hid (all_no hlt (by rw [← hl]; exact hr))
        have HR := Lib.hid hr
        clear hr hl HA
        go_wp2_with fail
        refine (impl_ReadDecimal ⟨l.toArray⟩ HLL.out _ (HT.out.below (B1.out.trans (Below.mono HG.out.below B1.out.size))) (HE.out.below (B1.out.trans (Below.mono HG.out.below B1.out.size)))).mono ?_
        rintro e w3 ⟨he, hb3⟩
        rw [show (⟨l.toArray⟩ : ByteArray).data.toList = l from rfl, HR.out] at he
        obtain rfl := he
        have B3 := Lib.hid ((B1.out.trans (Below.mono HG.out.below B1.out.size)).trans (Below.mono hb3 (Nat.le_trans B1.out.size HG.out.below.size)))
        clear hb3
        go_wp2
        go_ret2
        exact RetAny.no HF.out HP.out B3.out
      · have HS := Lib.hid (all_step hlt HA.out (by rw [← hl]; exact hr))
        have HM := Lib.hid (show (P.take j).map specN ++ [specN l] = (P.take (j + 1)).map specN by rw [hl]; exact take_map hlt)
        have HR := Lib.hid hr
        clear hr hl HA
        go_wp2_with fail
        refine (impl_ReadDecimal ⟨l.toArray⟩ HLL.out _ (HT.out.below (B1.out.trans (Below.mono HG.out.below B1.out.size))) (HE.out.below (B1.out.trans (Below.mono HG.out.below B1.out.size)))).mono ?_
        rintro e w3 ⟨he, hb3⟩
        rw [show (⟨l.toArray⟩ : ByteArray).data.toList = l from rfl, HR.out, show pickN true (specN l) = specN l from rfl] at he
        obtain rfl := he
        have HG3 := Lib.hid (HG.out.after hb3)
        clear hb3
        go_wp2_with (at_builtin; refine wpList_pushI w w1 _ _ (specN l) _ HG3 HLN.out (by rfl) _ _ (by rfl) (by rfl) (by rfl) ?_; intro v' w' HG')
        go_roundw
        case rel => exact ⟨j + 1, by omega, by go_num, Lib.hid (by rw [← HM.out]; exact HG'.out), HS⟩
        case measure => simp [RowKit.intOf]; omega
    · have hjl : j = P.length := by omega
      have HD := Lib.hid (show (P.take j).map specN = P.map specN ∧ P.all readB = true by
        have h := HA.out
        rw [hjl, List.take_length] at h ⊢
        exact ⟨rfl, h⟩)
      clear hjl
      go_wp2
      go_ret2
      exact RetAny.yes HD.out.1 HD.out.2 HP.out (HG.out.gath B1.out)
theorem short_any {l : List UInt8} {rs : List Int} (h : rs = if (piecesV l).all readB then numsV l else []) (ha : (piecesV l).all readB = true) : rs.length = (piecesV l).length := by
  rw [ha] at h
  rw [h]
  unfold numsV
  simp
theorem impl_ReadList (s : ByteArray) (hs : s.size ≤ 1048576) (w : World) (ht : Pow10 w) (he : Errs w) (hm : MaxL w) : Calls Tryd.prog 23 #[.string s] w (RetLI (numsV s.data.toList) (numsB s.data.toList) w) := by
  have HC := Lib.hid (impl_readList s hs w ht he hm)
  clear ht he hm
  cases ha : (piecesV s.data.toList).all readB
  · have HF := Lib.hid (show numsB s.data.toList = false by unfold numsB; rw [ha, Bool.and_false])
    have HA := Lib.hid ha
    clear ha
    go_enter Tryd.func23, Tryd.ntmps23
    go_wp2_with fail
    refine HC.out.mono ?_
    unfold RetAny
    rw [HA.out]
    rintro e w2 ⟨rs, A, c, hrs, rfl, ho, hb⟩
    have HB := Lib.hid hb
    clear hrs ho hb
    go_wp2
    go_ret2
    rw [HF.out]
    exact RetLI.no HB.out
  · by_cases hl64 : (piecesV s.data.toList).length ≤ 64
    · have HF := Lib.hid (show numsB s.data.toList = true by unfold numsB; rw [ha, decide_eq_true hl64]; rfl)
      have HA := Lib.hid ha
      clear ha
      go_enter Tryd.func23, Tryd.ntmps23
      go_wp2_with fail
      refine HC.out.mono ?_
      unfold RetAny
      rw [HA.out]
      rintro e w2 ⟨rs, A, c, hrs, rfl, ho, hb⟩
      have HB := Lib.hid hb
      have HO := Lib.hid ho
      have HR := Lib.hid hrs
      have hlen : rs.length ≤ 64 := by rw [short_any (l := s.data.toList) (by rw [HA.out]; exact hrs) HA.out]; exact hl64
      have hd : decide ((64 : Int) < (rs.length : Int)) = false := decide_eq_false (by omega)
      clear hrs ho hb
      go_wp2
      go_ret2
      rw [HF.out]
      exact ⟨rs, A, c, HR.out, rfl, HO.out, HB.out⟩
    · have HF := Lib.hid (numsB_long hl64)
      have HA := Lib.hid ha
      clear ha
      go_enter Tryd.func23, Tryd.ntmps23
      go_wp2_with fail
      refine HC.out.mono ?_
      unfold RetAny
      rw [HA.out]
      rintro e w2 ⟨rs, A, c, hrs, rfl, ho, hb⟩
      have HB := Lib.hid hb
      have hlen : ¬ rs.length ≤ 64 := by rw [short_any (l := s.data.toList) (by rw [HA.out]; exact hrs) HA.out]; exact hl64
      have hd : decide ((64 : Int) < (rs.length : Int)) = true := decide_eq_true (by omega)
      clear hrs ho hb
      go_wp2
      go_ret2
      rw [HF.out]
      exact RetLI.no HB.out

end Go.Proofs.YtjkkfimkojmifaaDoor.Dp