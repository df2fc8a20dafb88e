/- The walks: complex numbers drawn from bytes. -/
import Derived.Test.YtkfhgjknmdlhbaaGreatDoorGb
import Derived.Test.YtkfhgjknmdlhbaaGreatDoorEj
namespace Go.Proofs.YtkfhgjknmdlhbaaGreatDoor.Gq
open Go Go.RowKit Go.WideShapes Go.ChangeShapes Go.Deep Fl WA WH Xc Ga Gb
open Ej (Own own_shape)
set_option linter.unusedVariables false
set_option maxRecDepth 20000
def IsC (v : Value) : Prop := ∃ x y : Nat, x < 4294967296 ∧ y < 4294967296 ∧ v = .complex .f32 x y
theorem ofInt_lt (n : Int) : floatOfInt .f32 n < 4294967296 := Ieee.Format.write_lt Ieee.single (.number (n < 0) n.natAbs 0)
set_option maxHeartbeats 2000000 in
theorem complex_any (w : World) (b : Nat) (A : Option Addr) (c : Nat) (bs : List Nat) (k : Nat) (hs : Src w b A c bs k) (hk : k ≤ 700000000000) :
    Calls Tryz.prog 57 #[.pointer (some ⟨b, 0, none⟩)] w (Drew IsC 32 w b A c bs k) := by
  have HS := Lib.hid hs
  clear hs
  go_enter Tryz.func57, Tryz.ntmps57
  go_wp2_with fail
  refine (float_any _ b A c bs k HS.out (by omega)).mono ?_
  rintro e w1 ⟨_, ⟨x, hx, rfl⟩, rfl, hs1, hg1⟩
  have S1 := Lib.hid hs1
  have G1 := Lib.hid hg1
  clear hs1 hg1
  go_wp2_with fail
  refine (float_any _ b A c bs (k + 16) S1.out (by omega)).mono ?_
  rintro e w2 ⟨_, ⟨y, hy, rfl⟩, rfl, hs2, hg2⟩
  have S2 := Lib.hid hs2
  have G2 := Lib.hid (G1.out.trans hg2)
  clear hs2 hg2
  go_wp2
  go_ret
  exact ⟨_, ⟨x, y, hx, hy, rfl⟩, rfl, S2.out, G2.out⟩
set_option maxHeartbeats 2000000 in
theorem fine_any (w : World) (b : Nat) (A : Option Addr) (c : Nat) (bs : List Nat) (k : Nat) (hs : Src w b A c bs k) (hk : k ≤ 700000000000) :
    Calls Tryz.prog 58 #[.pointer (some ⟨b, 0, none⟩)] w (Drew IsC 32 w b A c bs k) := by
  have HS := Lib.hid hs
  clear hs
  go_enter Tryz.func58, Tryz.ntmps58
  go_wp2_with fail
  refine (pick_any 65 (by omega) (by omega) _ b A c bs k HS.out (by omega)).mono ?_
  rintro e w1 ⟨_, ⟨i, hi, rfl⟩, rfl, hs1, hg1⟩
  have S1 := Lib.hid hs1
  have G1 := Lib.hid hg1
  clear hs1 hg1
  go_wp2_with (refine wpList_farith _ _ _ _ _ rfl rfl rfl _ _ _ rfl rfl ?_); intro r nr hr
  have HR := Lib.hid (show r < 4294967296 from hr.2)
  clear hr
  have S1' := Lib.hid (S1.out.drewN nr)
  have G1' := Lib.hid (grown_drewN (n := nr) G1.out)
  go_wp2_with fail
  refine (pick_any 65 (by omega) (by omega) _ b A c bs (k + 2) S1'.out (by omega)).mono ?_
  rintro e w2 ⟨_, ⟨j, hj, rfl⟩, rfl, hs2, hg2⟩
  have S2 := Lib.hid hs2
  have G2 := Lib.hid (G1'.out.trans hg2)
  clear hs2 hg2
  go_wp2_with (refine wpList_farith _ _ _ _ _ rfl rfl rfl _ _ _ rfl rfl ?_); intro s ns hs
  have HS2 := Lib.hid (show s < 4294967296 from hs.2)
  clear hs
  go_wp2
  go_ret
  exact ⟨_, ⟨r, s, HR.out, HS2.out, rfl⟩, rfl, (S2.out.more (by omega)).drewN _, grown_drewN G2.out⟩
/-- Drawn numbers, gathered since w. -/
structure GS (w wr : World) (b : Nat) (A : Option Addr) (c : Nat) (bs : List Nat) (k : Nat) (v : Value) (rs : List (Nat × Nat)) : Prop where
  own : wr.ownsRow w.heap.size 24 1 v rs.length (Ej.vs rs)
  src : Src wr b A c bs k
  grown : w.grownBy wr (some b)
  lt : b < w.heap.size
  word : ∀ x ∈ rs, x.1 < 4294967296 ∧ x.2 < 4294967296
theorem GS.draw {w wr w2 : World} {b c k k2 : Nat} {A : Option Addr} {bs : List Nat} {v : Value} {rs : List (Nat × Nat)} (h : GS w wr b A c bs k v rs) (hs : Src w2 b A c bs k2) (hg : wr.grownBy w2 (some b)) : GS w w2 b A c bs k2 v rs := by
  refine ⟨h.own.kept hg ?_, hs, h.grown.trans hg, h.lt, h.word⟩
  cases hv : v.ownBlock with
  | none => exact .inl rfl
  | some g =>
    right
    intro e
    have := (h.own.lt g hv).1
    have h2 : g = b := by simpa using e
    have := h.lt
    omega
theorem gs_empty {w : World} {b c k : Nat} {A : Option Addr} {bs : List Nat} (h : Src w b A c bs k) : GS w (w.alloc (.cells #[] 24)) b A c bs k (.slice (some ⟨w.heap.size, 0, none⟩) 0 0) [] :=
  ⟨World.ownsRow_made w #[] 0 (Nat.le_refl _) (by unfold maxLen; omega) rfl, src_alloc h _, grown_alloc (World.grownBy.refl _ _) _, h.lt, by simp⟩
theorem wpList_pushC2 {ops : Array Oper} {rest : List Oper} {o : Oper} {a : Act} {Q : Exit → Act → World → Prop} {w wr : World} {b c k : Nat} {A : Option Addr} {bs : List Nat} (rs : List (Nat × Nat)) (x : Nat × Nat) (hx : x.1 < 4294967296 ∧ x.2 < 4294967296) (v : Value) (hg : Hid (GS w wr b A c bs k v rs)) (hlen : rs.length ≤ 1099511627776)
    (hgd : o.guard = none) (s y : Operand) (ho : o.op = .call { callee := .builtin .append, args := #[s, y], argTypes := #[25, 25] })
    (hs : a.eval s = v) (hy : a.eval y = .slice (some ⟨wr.heap.size, 0, none⟩) 1 1)
    (h : ∀ v' w', Hid (GS w w' b A c bs k v' (rs ++ [x])) → wpList Tryz.prog ops Q rest (a.put o.dst v') w') : wpList Tryz.prog ops Q (o :: rest) a (wr.alloc (.cells #[Ej.cv x] 24)) := by
  obtain ⟨i0, hi, hz0, hz1, hz2⟩ := info_parts Ej.c64_info
  have H := hg.out
  refine wpList_append_own _ hgd s y 25 ho w.heap.size 24 i0 (.complex .f32 0 0) 1 8 Tryz.underlying25 hi hz0 hz1 hz2 rfl (by decide) _ _ _ hs (H.own.alloc _) ⟨wr.heap.size, 0, none⟩ 1 1 [Ej.cv x] hy rfl ?c1 ?c2 ?c3 ?c4 ?c5 ?_
  case c1 =>
    intro j u hj
    match j, hj with
    | 0, hj => simp at hj; subst hj; simp [Addr.add]
  case c2 => intro u hu; simp at hu; subst hu; rfl
  case c3 => unfold maxLen; omega
  case c4 => omega
  case c5 => have := H.grown.size; simp; omega
  · intro v' w' hown' hgrow _
    have hsz := H.grown.size
    have hB : Below w.heap.size wr w' := ((Below.refl w.heap.size wr).alloc hsz _).grown hgrow (by simp; omega) (fun k hk => (H.own.lt k hk).1)
    refine h v' w' (Lib.hid ⟨?_, H.src.below hB H.lt, ?_, H.lt, ?_⟩)
    · have e1 : (rs ++ [x]).length = rs.length + 1 := by simp
      have e2 : Ej.vs (rs ++ [x]) = Ej.vs rs ++ [Ej.cv x] := by unfold Ej.vs; simp
      rw [e1, e2]; exact hown'
    · exact ⟨hB.os.trans H.grown.os, hB.tape.trans H.grown.tape, hB.output.trans H.grown.output, Nat.le_trans hsz hB.size, fun i hi hne => (hB.block i hi).trans (H.grown.block i hi hne)⟩
    · intro z hz
      rw [List.mem_append, List.mem_singleton] at hz
      rcases hz with hz | rfl
      · exact H.word z hz
      · exact hx
def DrewLC (n : Nat) (w : World) (b : Nat) (e : Ending) (w' : World) : Prop :=
  ∃ rs A' c', rs.length = n ∧ (∀ x ∈ rs, x.1 < 4294967296 ∧ x.2 < 4294967296) ∧ e = .returned (.slice A' rs.length c') ∧ Own w' w.heap.size A' c' rs ∧ w.grownBy w' (some b)
set_option maxHeartbeats 4000000 in
theorem complexes_any (n : Nat) (hn : n ≤ 1000) (w : World) (b : Nat) (A : Option Addr) (c : Nat) (bs : List Nat) (k : Nat) (hs : Src w b A c bs k) (hk : k ≤ 1000) :
    Calls Tryz.prog 46 #[.pointer (some ⟨b, 0, none⟩), .int .i64 n] w (DrewLC n w b) := by
  have HS := Lib.hid (gs_empty hs)
  clear hs
  go_enter Tryz.func46, Tryz.ntmps46
  go_wp2_with fail
  refine (one_any 5 (by omega) (by omega) _ b A c bs k HS.out.src (by omega)).mono ?_
  rintro e w1 ⟨_, ⟨t, rfl⟩, rfl, hs1, hg1⟩
  have H1 := Lib.hid (HS.out.draw hs1 hg1)
  clear hs1 hg1 HS
  go_wp2
  go_loopw [5, 1] (fun v m wr => ∃ (j : Nat) (rs : List (Nat × Nat)), j ≤ n ∧ m = .int .i64 ((n : Int) - (j : Int)) ∧ Hid (rs.length = j) ∧ Hid (GS w wr b A c bs (k + 2 + 32 * j) v rs)) (fun _ m _ => (RowKit.intOf m).toNat)
  case atStart => exact ⟨0, [], by omega, by simp, Lib.hid rfl, H1⟩
  case round =>
    obtain ⟨j, rs, hj, rfl, HL, HG⟩ := hrel
    by_cases hlt : j < n
    · have HRL := Lib.hid (show rs.length ≤ 1099511627776 by have := HL.out; omega)
      cases t
      · go_wp2_with fail
        refine (fine_any _ b A c bs _ HG.out.src (by omega)).mono ?_
        rintro e w2 ⟨_, ⟨x, y, hx, hy, rfl⟩, rfl, hs2, hg2⟩
        have H2 := Lib.hid (HG.out.draw (hs2.more (k' := k + 2 + 32 * (j + 1)) (by omega)) hg2)
        clear hs2 hg2
        go_wp2_with (at_builtin; refine wpList_pushC2 rs (x, y) ⟨hx, hy⟩ _ H2 HRL.out (by rfl) _ _ (by rfl) (by rfl) (by rfl) ?_; intro v' w' HG')
        go_roundw
        case rel => exact ⟨j + 1, rs ++ [(x, y)], by omega, by congr 1; omega, Lib.hid (by rw [List.length_append, HL.out]; rfl), HG'⟩
        case measure => simp [RowKit.intOf]; omega
      · go_wp2_with fail
        refine (complex_any _ b A c bs _ HG.out.src (by omega)).mono ?_
        rintro e w2 ⟨_, ⟨x, y, hx, hy, rfl⟩, rfl, hs2, hg2⟩
        have H2 := Lib.hid (HG.out.draw (hs2.more (k' := k + 2 + 32 * (j + 1)) (by omega)) hg2)
        clear hs2 hg2
        go_wp2_with (at_builtin; refine wpList_pushC2 rs (x, y) ⟨hx, hy⟩ _ H2 HRL.out (by rfl) _ _ (by rfl) (by rfl) (by rfl) ?_; intro v' w' HG')
        go_roundw
        case rel => exact ⟨j + 1, rs ++ [(x, y)], by omega, by congr 1; omega, Lib.hid (by rw [List.length_append, HL.out]; rfl), HG'⟩
        case measure => simp [RowKit.intOf]; omega
    · obtain ⟨A', c', rfl, ho⟩ := own_shape HG.out.own
      have HO := Lib.hid ho
      clear ho
      have HJ := Lib.hid (show j = n by omega)
      clear hj
      go_wp2
      go_ret
      exact ⟨rs, A', c', HL.out.trans HJ.out, HG.out.word, rfl, HO.out, HG.out.grown⟩
/-- A complex number, drawn from the bytes. -/
def DrewC (w : World) (e : Ending) (w' : World) : Prop := ∃ x y : Nat, x < 4294967296 ∧ y < 4294967296 ∧ e = .returned (.complex .f32 x y) ∧ Below w.heap.size w w'
set_option maxHeartbeats 4000000 in
theorem b10complex_any (A : Option Addr) (c : Nat) (bs : List Nat) (w : World) (hx : RdB w w.heap.size A bs) (hl : bs.length ≤ 1048576) : Calls Tryz.prog 22 #[.slice A bs.length c] w (DrewC w) := by
  have HX := Lib.hid hx
  clear hx
  go_enter Tryz.func22, Tryz.ntmps22
  go_wp2_with fail
  refine (from_any A c bs _ HX.out hl).mono ?_
  rintro e w0 ⟨b, rfl, hb, hs0, hb0⟩
  have S0 := Lib.hid hs0
  have B0 := Lib.hid hb0
  have HB := Lib.hid hb
  clear hs0 hb0 hb
  go_wp2_with fail
  refine (one_any 4 (by omega) (by omega) _ b A c bs 0 S0.out (by omega)).mono ?_
  rintro e w1 ⟨_, ⟨t, rfl⟩, rfl, hs1, hg1⟩
  have S1 := Lib.hid hs1
  have G1 := Lib.hid hg1
  clear hs1 hg1
  cases t
  · go_wp2_with fail
    refine (fine_any _ b A c bs (0 + 2) S1.out (by omega)).mono ?_
    rintro e w2 ⟨_, ⟨x, y, hx, hy, rfl⟩, rfl, hs2, hg2⟩
    have S2 := Lib.hid hs2
    have G2 := Lib.hid (G1.out.trans hg2)
    clear hs2 hg2
    go_wp2
    go_ret
    exact ⟨x, y, hx, hy, rfl, below_src B0.out HB.out G2.out⟩
  · go_wp2_with fail
    refine (complex_any _ b A c bs (0 + 2) S1.out (by omega)).mono ?_
    rintro e w2 ⟨_, ⟨x, y, hx, hy, rfl⟩, rfl, hs2, hg2⟩
    have S2 := Lib.hid hs2
    have G2 := Lib.hid (G1.out.trans hg2)
    clear hs2 hg2
    go_wp2
    go_ret
    exact ⟨x, y, hx, hy, rfl, below_src B0.out HB.out G2.out⟩
/-- Complex numbers, drawn from the bytes. -/
def DrewCs (n : Nat) (w : World) (e : Ending) (w' : World) : Prop :=
  ∃ rs A' c', rs.length = n ∧ (∀ x ∈ rs, x.1 < 4294967296 ∧ x.2 < 4294967296) ∧ e = .returned (.slice A' rs.length c') ∧ Own w' w.heap.size A' c' rs ∧ Below w.heap.size w w'
set_option maxHeartbeats 4000000 in
theorem b10any_any (n : Nat) (hn : n ≤ 1000) (A : Option Addr) (c : Nat) (bs : List Nat) (w : World) (hx : RdB w w.heap.size A bs) (hl : bs.length ≤ 1048576) : Calls Tryz.prog 15 #[.slice A bs.length c, .int .i64 n] w (DrewCs n w) := by
  have HX := Lib.hid hx
  clear hx
  go_enter Tryz.func15, Tryz.ntmps15
  go_wp2_with fail
  refine (from_any A c bs _ HX.out hl).mono ?_
  rintro e w0 ⟨b, rfl, hb, hs0, hb0⟩
  have S0 := Lib.hid hs0
  have B0 := Lib.hid hb0
  have HB := Lib.hid hb
  clear hs0 hb0 hb
  go_wp2_with fail
  refine (complexes_any n hn _ b A c bs 0 S0.out (by omega)).mono ?_
  rintro e w1 ⟨rs, A', c', hl, hw, rfl, ho, hg⟩
  have HO := Lib.hid ho
  have HG := Lib.hid hg
  have HW := Lib.hid hw
  have HL := Lib.hid hl
  clear ho hg hw hl
  go_wp2
  go_ret
  exact ⟨rs, A', c', HL.out, HW.out, rfl, HO.out.weaken B0.out.size, below_src B0.out HB.out HG.out⟩
/-- A small whole complex number. -/
def Whole (z : Nat × Nat) : Prop := ∃ i j : Int, (-200 ≤ i ∧ i ≤ 200) ∧ (-200 ≤ j ∧ j ≤ 200) ∧ z = (floatOfInt .f32 i, floatOfInt .f32 j)
def DrewW (w : World) (e : Ending) (w' : World) : Prop :=
  ∃ i j A' c', ((-200 ≤ i ∧ i ≤ 200) ∧ (-200 ≤ j ∧ j ≤ 200)) ∧ e = .returned (.slice A' 1 c') ∧ Own w' w.heap.size A' c' [(floatOfInt .f32 i, floatOfInt .f32 j)] ∧ Below w.heap.size w w'
set_option maxHeartbeats 4000000 in
theorem whole_any (A : Option Addr) (c : Nat) (bs : List Nat) (w : World) (hx : RdB w w.heap.size A bs) (hl : bs.length ≤ 1048576) : Calls Tryz.prog 6 #[.slice A bs.length c, .int .i64 1, .int .i64 200] w (DrewW w) := by
  have HX := Lib.hid hx
  clear hx
  go_enter Tryz.func6, Tryz.ntmps6
  go_wp2_with fail
  refine (from_any A c bs _ HX.out hl).mono ?_
  rintro e w0 ⟨b, rfl, hb, hs0, hb0⟩
  have S0 := Lib.hid (gs_empty hs0)
  have B0 := Lib.hid hb0
  have HB := Lib.hid hb
  clear hs0 hb0 hb
  go_wp2
  go_loopw [8, 1] (fun v m wr => ∃ (j : Nat) (rs : List (Nat × Nat)), j ≤ 1 ∧ m = .int .i64 (1 - (j : Int)) ∧ Hid (rs.length = j ∧ ∀ z ∈ rs, Whole z) ∧ Hid (GS w0 wr b A c bs (4 * j) v rs)) (fun _ m _ => (RowKit.intOf m).toNat)
  case atStart => exact ⟨0, [], by omega, by simp, Lib.hid ⟨rfl, by simp⟩, S0⟩
  case round =>
    obtain ⟨j, rs, hj, rfl, HL, HG⟩ := hrel
    by_cases hlt : j < 1
    · have HRL := Lib.hid (show rs.length ≤ 1099511627776 by have := HL.out.1; omega)
      go_wp2_with fail
      refine (pick_any 401 (by omega) (by omega) _ b A c bs _ HG.out.src (by omega)).mono ?_
      rintro e w2 ⟨_, ⟨x, hx, rfl⟩, rfl, hs2, hg2⟩
      have H2 := Lib.hid (HG.out.draw hs2 hg2)
      clear hs2 hg2
      go_wp2_with fail
      refine (pick_any 401 (by omega) (by omega) _ b A c bs _ H2.out.src (by omega)).mono ?_
      rintro e w3 ⟨_, ⟨y, hy, rfl⟩, rfl, hs3, hg3⟩
      have H3 := Lib.hid (H2.out.draw (hs3.more (k' := 4 * (j + 1)) (by omega)) hg3)
      clear hs3 hg3
      go_wp2_with (at_builtin; refine wpList_pushC2 rs (floatOfInt .f32 ((x : Int) - 200), floatOfInt .f32 ((y : Int) - 200)) ⟨ofInt_lt _, ofInt_lt _⟩ _ H3 HRL.out (by rfl) _ _ (by rfl) (by rfl) (by rfl) ?_; intro v' w' HG')
      go_roundw
      case rel =>
        refine ⟨j + 1, _, by omega, by congr 1; omega, Lib.hid ⟨by rw [List.length_append, HL.out.1]; rfl, ?_⟩, HG'⟩
        intro z hz
        rw [List.mem_append, List.mem_singleton] at hz
        rcases hz with hz | rfl
        · exact HL.out.2 z hz
        · exact ⟨_, _, by omega, by omega, rfl⟩
      case measure => simp [RowKit.intOf]; omega
    · obtain ⟨A', c', rfl, ho⟩ := own_shape HG.out.own
      have HO := Lib.hid ho
      clear ho
      have HJ := Lib.hid (show rs.length = 1 by have := HL.out.1; omega)
      go_wp2
      go_ret
      obtain ⟨z, rfl⟩ : ∃ z, rs = [z] := List.length_eq_one_iff.1 HJ.out
      obtain ⟨i, k, h1, h2, rfl⟩ := HL.out.2 z (by simp)
      exact ⟨i, k, A', c', ⟨h1, h2⟩, rfl, HO.out.weaken B0.out.size, below_src B0.out HB.out HG.out.grown⟩

end Go.Proofs.YtkfhgjknmdlhbaaGreatDoor.Gq