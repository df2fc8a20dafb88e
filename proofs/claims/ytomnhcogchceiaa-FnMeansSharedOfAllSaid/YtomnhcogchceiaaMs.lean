/- The walks: MeansShared: a slice of slices of float32. -/
import Derived.Test.YtomnhcogchceiaaMg
import Derived.Test.YtomnhcogchceiaaMl
namespace Go.Proofs.Ytomnhcogchceiaa.Ms
open Go Go.RowKit Go.WideShapes Go.ChangeShapes Go.Deep Fl WA WB Md Me Mf Mg Mi Mj Mk Ml
set_option linter.unusedVariables false
abbrev Row := Option Addr × Nat × List Nat
/-- The slice at A reads as the rows ls, each a slice of words, all below block B. -/
def RdS (w : World) (B : Nat) (A : Option Addr) (ls : List Row) : Prop := ls ≠ [] → ∃ ad : Addr, A = some ad ∧ ad.block < B ∧ ∀ j t, ls[j]? = some t → w.cell? (ad.add j) = some (.slice t.1 t.2.2.length t.2.1) ∧ Rd w B t.1 t.2.2
section
variable {w w' : World} {B : Nat} {A : Option Addr} {ls : List Row}
theorem RdS.at_ (h : RdS w B A ls) {j : Nat} (hj : j < ls.length) : ∃ ad Aj cj xj, A = some ad ∧ ad.block < B ∧ ls[j] = (Aj, cj, xj) ∧ w.cell? (ad.add j) = some (.slice Aj xj.length cj) ∧ Rd w B Aj xj := by
  obtain ⟨ad, e, hb, hc⟩ := h (by intro e; subst e; simp at hj)
  obtain ⟨h1, h2⟩ := hc j _ (List.getElem?_eq_getElem hj)
  exact ⟨ad, ls[j].1, ls[j].2.1, ls[j].2.2, e, hb, rfl, h1, h2⟩
theorem RdS.below (h : RdS w B A ls) (hb : Below B w w') : RdS w' B A ls := fun hn => by
  obtain ⟨ad, e, hB, hc⟩ := h hn
  exact ⟨ad, e, hB, fun j t ht => ⟨(hb.cell (by rw [add_block]; exact hB)).trans (hc j t ht).1, (hc j t ht).2.below hb⟩⟩
theorem RdS.more {B' : Nat} (h : RdS w B A ls) (hB : B ≤ B') : RdS w B' A ls := fun hn => by
  obtain ⟨ad, e, hb, hc⟩ := h hn
  exact ⟨ad, e, by omega, fun j t ht => ⟨(hc j t ht).1, (hc j t ht).2.more hB⟩⟩
end
section
variable {H : Type} {enc : TypeId × Value → H} {P : Program} {W : World} {base : Nat} {spare : Nat → Bool} {held : Bool}
theorem open_row {fuel : Nat} {t e : TypeId} {v : Value} {x : DataW H × List MemPlace} (ht : P.underlying t = some (.slice e)) (he : P.underlying e = some (.float .f32)) (hc : P.cellsOf e = 1) (h : DataW.trod enc P W base spare held fuel t [v] = some x) :
    ∃ t : Row, v = .slice t.1 t.2.2.length t.2.1 ∧ Rd W W.heap.size t.1 t.2.2 := by
  rcases open_slice1 ht hc h with ⟨hcs, _⟩ | ⟨a, len', cap', m, n, V, D, Pl, hcs, _, hl, _, hm, _, hx⟩
  · simp at hcs
    exact ⟨(none, 0, []), hcs, fun h => absurd rfl h⟩
  · simp at hcs
    have hlm : len' ≤ m := by rw [hm]; split <;> omega
    obtain ⟨X, hX⟩ := choose_lt (α := Nat) (p := fun i b => V i = .float .f32 b ∧ (Lit.float .f32 b).wf = true) (fun i hi => elem_f32 he (hx i hi).2)
    refine ⟨(some a, cap', (List.range len').map X), by simpa using hcs, fun hne => ⟨a, rfl, ?_, ?_⟩⟩
    · have h0 : 0 < len' := by
        rcases Nat.eq_zero_or_pos len' with h0 | h0
        · subst h0; simp at hne
        · exact h0
      have := World.block_lt_of_cell? W (a.add 0) (hx 0 (by omega)).1
      rw [add_block] at this
      exact this
    · intro j x hjx
      have hj : j < len' := by
        rcases Nat.lt_or_ge j len' with h | h
        · exact h
        · rw [List.getElem?_eq_none (by simpa using h)] at hjx; cases hjx
      have : x = X j := by simpa [hj, eq_comm] using hjx
      rw [this, (hx j (by omega)).1, (hX j (by omega)).1]
theorem open_rows {t s e : TypeId} {r : Reach} {b0 : Nat} {v : Value} {d : DataW H} {ps : List MemPlace} (ht : P.underlying t = some (.slice s)) (hs : P.underlying s = some (.slice e)) (he : P.underlying e = some (.float .f32)) (hcs : P.cellsOf s = 1) (hc : P.cellsOf e = 1)
    (hval : Value.okWide P W r b0 t v) (hd : DataW.Trod enc P W base spare held t v d ps) :
    ∃ (A : Option Addr) (c : Nat) (ls : List Row), v = .slice A ls.length c ∧ RdS W W.heap.size A ls := by
  obtain ⟨A, len, cap, rfl⟩ := okWide_slice ht hval
  obtain ⟨fuel, hf⟩ := hd
  rcases open_slice1 ht hcs hf with ⟨hcv, _⟩ | ⟨a, len', cap', m, n, V, D, Pl, hcv, _, hl, _, hm, _, hx⟩
  · simp [Value.cells] at hcv
    obtain ⟨rfl, rfl, rfl⟩ := hcv
    exact ⟨none, 0, [], rfl, fun h => absurd rfl h⟩
  · simp [Value.cells] at hcv
    obtain ⟨rfl, rfl, rfl⟩ := hcv
    have hlm : len ≤ m := by rw [hm]; split <;> omega
    obtain ⟨X, hX⟩ := choose_lt (α := Row) (p := fun i t => V i = .slice t.1 t.2.2.length t.2.1 ∧ Rd W W.heap.size t.1 t.2.2) (fun i hi => open_row hs he hc (hx i hi).2)
    refine ⟨some a, cap, (List.range len).map X, by simp, fun hne => ⟨a, rfl, ?_, ?_⟩⟩
    · have h0 : 0 < len := by
        rcases Nat.eq_zero_or_pos len with h0 | h0
        · subst h0; simp at hne
        · exact h0
      have := World.block_lt_of_cell? W (a.add 0) (hx 0 (by omega)).1
      rw [add_block] at this
      exact this
    · intro j x hjx
      have hj : j < len := by
        rcases Nat.lt_or_ge j len with h | h
        · exact h
        · rw [List.getElem?_eq_none (by simpa using h)] at hjx; cases hjx
      have : x = X j := by simpa [hj, eq_comm] using hjx
      rw [this, ← (hX j (by omega)).1]
      exact ⟨(hx j (by omega)).1, (hX j (by omega)).2⟩
end
/-- All rows are series with finite means. -/
def rowB (t : Row) : Bool := serB t.2.2 && finO (meanV t.2.2)
def rowsB (ls : List Row) : Bool := ls.all rowB
def meanO (ls : List Row) : List (Option Nat) := ls.map fun t => meanV t.2.2
def shB (ls : List Row) (n : Int) : Bool := decide ((1 : Int) ≤ ls.length) && (decide ((ls.length : Int) ≤ 16) && ((decide (1 ≤ n) && decide (n ≤ 8)) && rowsB ls))
theorem rows_no {ls : List Row} {j : Nat} {t : Row} (hj : j < ls.length) (ht : ls[j] = t) (h : rowB t = false) : rowsB ls = false := by
  unfold rowsB
  rw [List.all_eq_false]
  exact ⟨_, List.getElem_mem hj, by rw [ht, h]; simp⟩
theorem rows_step {ls : List Row} {j : Nat} {t : Row} (hj : j < ls.length) (ht : ls[j] = t) (h : rowB t = true) (ha : rowsB (ls.take j) = true) : rowsB (ls.take (j + 1)) = true := by
  unfold rowsB at *
  rw [List.take_succ_eq_append_getElem hj, List.all_append, ha, ht]; simp [h]
theorem mean_step {ls : List Row} {rs : List Nat} {j r : Nat} {t : Row} (hj : j < ls.length) (ht : ls[j] = t) (h : rs.map (fl .f32) = meanO (ls.take j)) (hr : FV .f32 (meanV t.2.2) r) : (rs ++ [r]).map (fl .f32) = meanO (ls.take (j + 1)) := by
  unfold meanO at *
  rw [List.take_succ_eq_append_getElem hj, List.map_append, List.map_append, h, ht, List.map_cons, List.map_nil, hr.1]; rfl
theorem mean_len {ls : List Row} {rs : List Nat} {j : Nat} (hj : j ≤ ls.length) (h : rs.map (fl .f32) = meanO (ls.take j)) : rs.length = j := by
  have := congrArg List.length h
  simp [meanO] at this
  omega
def ShR (ls : List Row) (w : World) (j : Nat) (v : Value) (wr : World) : Prop := ∃ rs, rs.map (fl .f32) = meanO (ls.take j) ∧ rowsB (ls.take j) = true ∧ Gath w wr v rs
theorem retL_no {O : List (Option Nat)} {w wr : World} (hb : Below w.heap.size w wr) : RetL O false w (.returned (.tuple #[.slice none 0 0, .bool false])) wr :=
  ⟨[], none, 0, rfl, rfl, World.ownsRow_nil _ _ _ _, hb⟩
theorem long_ser {xs : List Nat} (h : ¬ xs.length ≤ 1048576) : serB xs = false := by
  unfold serB
  rw [decide_eq_false (p := (xs.length : Int) ≤ 96) (by omega)]; simp

theorem impl_IsSeries_long (A : Option Addr) (n c : Nat) (w : World) (hl : ¬ n ≤ 1048576) : Calls Try.prog 13 #[.slice A n c] w (RetQ false w) := by
  have h1 : (1 : Int) ≤ (n : Int) := by omega
  have h2 : ¬ (n : Int) ≤ 96 := by omega
  have h3 := decide_eq_false h2
  go_enter Try.func13, Try.ntmps13
  go_wp2
  go_ret
  exact ⟨rfl, rfl⟩
set_option maxHeartbeats 1000000 in
theorem impl_MeanOf_any (xs : List Nat) (A : Option Addr) (c : Nat) (w : World) (M : Nat) (hx : Rd w M A xs) : Calls Try.prog 8 #[.slice A xs.length c] w (RetNB (meanV xs) (serB xs) w) := by
  by_cases hl : xs.length ≤ 1048576
  · exact impl_MeanOf xs A c w M hx hl
  · rw [long_ser hl]
    clear hx
    go_enter Try.func8, Try.ntmps8
    go_wp2_with fail
    refine (impl_IsSeries_long A xs.length c _ hl).mono ?_
    rintro e w' ⟨rfl, rfl⟩
    go_wp2
    go_ret2
    exact ⟨0, 0, ⟨rfl, by decide⟩, rfl, rfl⟩

theorem spec_l02Series_long (A : Option Addr) (n c : Nat) (w : World) (hl : ¬ n ≤ 1048576) : Calls Try.prog 16 #[.slice A n c] w (RetQ false w) := by
  have h1 : (1 : Int) ≤ (n : Int) := by omega
  have h2 : ¬ (n : Int) ≤ 96 := by omega
  have h3 := decide_eq_false h2
  go_enter Try.func16, Try.ntmps16
  go_wp2
  go_ret
  exact ⟨rfl, rfl⟩
set_option maxHeartbeats 1000000 in
theorem spec_MeanOf_any (xs : List Nat) (A : Option Addr) (c : Nat) (w : World) (M : Nat) (hx : Rd w M A xs) : Calls Try.prog 10 #[.slice A xs.length c] w (RetNB (meanV xs) (serB xs) w) := by
  by_cases hl : xs.length ≤ 1048576
  · exact spec_MeanOf xs A c w M hx hl
  · rw [long_ser hl]
    clear hx
    go_enter Try.func10, Try.ntmps10
    go_wp2_with fail
    refine (spec_l02Series_long A xs.length c _ hl).mono ?_
    rintro e w' ⟨rfl, rfl⟩
    go_wp2
    go_ret2
    exact ⟨0, 0, ⟨rfl, by decide⟩, rfl, rfl⟩

theorem impl_areWorkers (n : Int) (w : World) : Calls Try.prog 7 #[.int .i64 n] w (RetQ (decide (1 ≤ n) && decide (n ≤ 8)) w) := by
  go_enter Try.func7, Try.ntmps7
  go_wp2_with fail
  refine (impl_within n 1 8 _).mono ?_
  rintro e w' ⟨rfl, rfl⟩
  go_wp2
  go_ret
  exact ⟨rfl, rfl⟩

set_option maxHeartbeats 2000000 in
theorem impl_MeansShared (ls : List Row) (A : Option Addr) (c : Nat) (w : World) (hx : RdS w w.heap.size A ls) (hl : ls.length ≤ 1048576) (n : Int) : Calls Try.prog 4 #[.slice A ls.length c, .int .i64 n] w (RetL (meanO ls) (shB ls n) w) := by
  have HX := Lib.hid hx
  clear hx
  by_cases h1 : (1 : Int) ≤ ls.length
  · by_cases h2 : (ls.length : Int) ≤ 16
    · cases hw : (decide (1 ≤ n) && decide (n ≤ 8))
      · have HW := Lib.hid hw
        have hb : shB ls n = false := by unfold shB; rw [hw]; simp
        rw [hb]
        clear hw hb
        have h3 : decide ((ls.length : Int) < 1) = false := decide_eq_false (by omega)
        have h4 : decide ((16 : Int) < (ls.length : Int)) = false := decide_eq_false (by omega)
        go_enter Try.func4, Try.ntmps4
        go_wp2_with fail
        refine (impl_areWorkers n _).mono ?_
        rw [HW.out]
        rintro e w ⟨rfl, rfl⟩
        go_wp2
        go_ret2
        exact RetL.no 0
      · have HW := Lib.hid hw
        have hb : shB ls n = rowsB ls := by unfold shB; rw [hw, decide_eq_true h1, decide_eq_true h2]; simp
        rw [hb]
        clear hw hb
        have h3 : decide ((ls.length : Int) < 1) = false := decide_eq_false (by omega)
        have h4 : decide ((16 : Int) < (ls.length : Int)) = false := decide_eq_false (by omega)
        go_enter Try.func4, Try.ntmps4
        go_wp2_with fail
        refine (impl_areWorkers n _).mono ?_
        rw [HW.out]
        rintro e w ⟨rfl, rfl⟩
        go_wp2
        go_loopw [6, 27] (fun v i wr => ∃ j : Nat, j ≤ ls.length ∧ i = .int .i64 j ∧ Hid (ShR ls w j v wr)) (fun _ i _ => ls.length - (intOf i).toNat)
        case atStart => exact ⟨0, by omega, rfl, Lib.hid ⟨[], rfl, rfl, gath_empty 0⟩⟩
        case round =>
          obtain ⟨j, hj, rfl, HJ⟩ := hrel
          obtain ⟨rs, hrs, hall, hgath⟩ := HJ.out
          have hrl := mean_len hj hrs
          have hrk : rs.length ≤ 1099511627776 := by omega
          have HRS := Lib.hid hrs
          have HA := Lib.hid hall
          have HG := Lib.hid hgath
          clear HJ hrs hgath hall hrl
          by_cases hlt : j < ls.length
          · obtain ⟨ad, Aj, cj, xj, rfl, hb0, hls, hc, hxj⟩ := (HX.out.below HG.out.below).at_ hlt
            have HL := Lib.hid hls
            have HXJ := Lib.hid hxj
            clear hls hxj
            cases hb : rowB (Aj, cj, xj)
            · have HN := Lib.hid (rows_no hlt HL.out hb)
              have HB := Lib.hid (show (serB xj && finO (meanV xj)) = false from hb)
              clear hb
              go_wp2_with fail
              refine (impl_MeanOf_any xj _ _ _ w.heap.size (by exact HXJ.out)).mono ?_
              unfold RetNB
              rw [HB.out]
              rintro e w' ⟨r, m, hr, rfl, rfl⟩
              go_wp2
              go_ret2
              rw [HN.out]
              exact retL_no (by exact upd' HG.out.below)
            · have HS := Lib.hid (rows_step hlt HL.out hb HA.out)
              have HB := Lib.hid (show (serB xj && finO (meanV xj)) = true from hb)
              clear hb
              go_wp2_with fail
              refine (impl_MeanOf_any xj _ _ _ w.heap.size (by exact HXJ.out)).mono ?_
              unfold RetNB
              rw [HB.out]
              rintro e w' ⟨r, m, hr, rfl, rfl⟩
              have hs' := Lib.hid (mean_step hlt HL.out HRS.out hr)
              clear hr
              go_wp2_with (at_builtin; refine wpList_push w _ _ r _ (Lib.hid (HG.out.drewN _)) hrk rfl _ _ rfl rfl rfl ?_; intro v' w' HG')
              go_roundw
              case rel => exact ⟨j + 1, by omega, by go_num, Lib.hid ⟨_, hs'.out, HS.out, HG'.out⟩⟩
              case measure => simp [intOf]; omega
          · have hjl : j = ls.length := by omega
            rw [hjl, List.take_length] at HRS HA
            clear hjl
            go_wp2
            go_ret2
            rw [HA.out]
            exact HG.out.retL HRS.out
    · have hb : shB ls n = false := by unfold shB; rw [decide_eq_false h2]; simp
      rw [hb]
      clear hb
      have h3 : decide ((ls.length : Int) < 1) = false := decide_eq_false (by omega)
      have h4 : decide ((16 : Int) < (ls.length : Int)) = true := decide_eq_true (by omega)
      go_enter Try.func4, Try.ntmps4
      go_wp2
      go_ret2
      exact RetL.no 0
  · have hb : shB ls n = false := by unfold shB; rw [decide_eq_false h1]; simp
    rw [hb]
    clear hb
    have h3 : decide ((ls.length : Int) < 1) = true := decide_eq_true (by omega)
    go_enter Try.func4, Try.ntmps4
    go_wp2
    go_ret2
    exact RetL.no 0

set_option maxHeartbeats 2000000 in
theorem spec_MeansShared (ls : List Row) (A : Option Addr) (c : Nat) (w : World) (hx : RdS w w.heap.size A ls) (hl : ls.length ≤ 1048576) (n : Int) : Calls Try.prog 5 #[.slice A ls.length c, .int .i64 n] w (RetL (meanO ls) (shB ls n) w) := by
  have HX := Lib.hid hx
  clear hx
  by_cases h1 : (1 : Int) ≤ ls.length
  · by_cases h2 : (ls.length : Int) ≤ 16
    · cases hw : (decide (1 ≤ n) && decide (n ≤ 8))
      · have HW := Lib.hid hw
        have hb : shB ls n = false := by unfold shB; rw [hw]; simp
        rw [hb]
        clear hw hb
        have h3 : decide ((ls.length : Int) < 1) = false := decide_eq_false (by omega)
        have h4 : decide ((16 : Int) < (ls.length : Int)) = false := decide_eq_false (by omega)
        go_enter Try.func5, Try.ntmps5
        go_wp2_with fail
        refine (spec_l00In n 1 8 _).mono ?_
        rw [HW.out]
        rintro e w ⟨rfl, rfl⟩
        go_wp2
        go_ret2
        exact RetL.no 0
      · have HW := Lib.hid hw
        have hb : shB ls n = rowsB ls := by unfold shB; rw [hw, decide_eq_true h1, decide_eq_true h2]; simp
        rw [hb]
        clear hw hb
        have h3 : decide ((ls.length : Int) < 1) = false := decide_eq_false (by omega)
        have h4 : decide ((16 : Int) < (ls.length : Int)) = false := decide_eq_false (by omega)
        go_enter Try.func5, Try.ntmps5
        go_wp2_with fail
        refine (spec_l00In n 1 8 _).mono ?_
        rw [HW.out]
        rintro e w ⟨rfl, rfl⟩
        go_wp2
        go_loopw [6, 7] (fun v i wr => ∃ j : Nat, j ≤ ls.length ∧ i = .int .i64 j ∧ Hid (ShR ls w j v wr)) (fun _ i _ => ls.length - (intOf i).toNat)
        case atStart => exact ⟨0, by omega, rfl, Lib.hid ⟨[], rfl, rfl, gath_empty 0⟩⟩
        case round =>
          obtain ⟨j, hj, rfl, HJ⟩ := hrel
          obtain ⟨rs, hrs, hall, hgath⟩ := HJ.out
          have hrl := mean_len hj hrs
          have hrk : rs.length ≤ 1099511627776 := by omega
          have HRS := Lib.hid hrs
          have HA := Lib.hid hall
          have HG := Lib.hid hgath
          clear HJ hrs hgath hall hrl
          by_cases hlt : j < ls.length
          · obtain ⟨ad, Aj, cj, xj, rfl, hb0, hls, hc, hxj⟩ := (HX.out.below HG.out.below).at_ hlt
            have HL := Lib.hid hls
            have HXJ := Lib.hid hxj
            clear hls hxj
            cases hb : rowB (Aj, cj, xj)
            · have HN := Lib.hid (rows_no hlt HL.out hb)
              have HB := Lib.hid (show (serB xj && finO (meanV xj)) = false from hb)
              clear hb
              go_wp2_with fail
              refine (spec_MeanOf_any xj _ _ _ w.heap.size (by exact HXJ.out)).mono ?_
              unfold RetNB
              rw [HB.out]
              rintro e w' ⟨r, m, hr, rfl, rfl⟩
              go_wp2
              go_ret2
              rw [HN.out]
              exact retL_no (by exact upd' HG.out.below)
            · have HS := Lib.hid (rows_step hlt HL.out hb HA.out)
              have HB := Lib.hid (show (serB xj && finO (meanV xj)) = true from hb)
              clear hb
              go_wp2_with fail
              refine (spec_MeanOf_any xj _ _ _ w.heap.size (by exact HXJ.out)).mono ?_
              unfold RetNB
              rw [HB.out]
              rintro e w' ⟨r, m, hr, rfl, rfl⟩
              have hs' := Lib.hid (mean_step hlt HL.out HRS.out hr)
              clear hr
              go_wp2_with (at_builtin; refine wpList_push w _ _ r _ (Lib.hid (HG.out.drewN _)) hrk rfl _ _ rfl rfl rfl ?_; intro v' w' HG')
              go_roundw
              case rel => exact ⟨j + 1, by omega, by go_num, Lib.hid ⟨_, hs'.out, HS.out, HG'.out⟩⟩
              case measure => simp [intOf]; omega
          · have hjl : j = ls.length := by omega
            rw [hjl, List.take_length] at HRS HA
            clear hjl
            go_wp2
            go_ret2
            rw [HA.out]
            exact HG.out.retL HRS.out
    · have hb : shB ls n = false := by unfold shB; rw [decide_eq_false h2]; simp
      rw [hb]
      clear hb
      have h3 : decide ((ls.length : Int) < 1) = false := decide_eq_false (by omega)
      have h4 : decide ((16 : Int) < (ls.length : Int)) = true := decide_eq_true (by omega)
      go_enter Try.func5, Try.ntmps5
      go_wp2
      go_ret2
      exact RetL.no 0
  · have hb : shB ls n = false := by unfold shB; rw [decide_eq_false h1]; simp
    rw [hb]
    clear hb
    have h3 : decide ((ls.length : Int) < 1) = true := decide_eq_true (by omega)
    go_enter Try.func5, Try.ntmps5
    go_wp2
    go_ret2
    exact RetL.no 0

end Go.Proofs.Ytomnhcogchceiaa.Ms