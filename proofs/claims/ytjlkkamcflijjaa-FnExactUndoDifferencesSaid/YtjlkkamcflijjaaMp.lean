/- The walks: UndoDifferences. -/
import Derived.Lib.SliceRun
import Derived.Test.YtjlkkamcflijjaaMo
namespace Go.Proofs.Ytjlkkamcflijjaa.Mp
open Go Go.RowKit Fl WA WB Md Me Mf Mi Mj Mk Ml Mo
set_option linter.unusedVariables false
attribute [local go_sem ↓] Go.wp_at_zero Go.wp_at_succ
/-- The series, k differences undone. -/
def undoO (fs ds : List Nat) : Nat → List (Option Nat)
  | 0 => fs.map (fl .f32)
  | k + 1 => undoO fs ds k ++ [fop .add .f32 (fl .f32 (ds.getD k 0)) ((undoO fs ds k).getD k none)]
theorem undo_len (fs ds : List Nat) : ∀ k, (undoO fs ds k).length = fs.length + k
  | 0 => by simp [undoO]
  | k + 1 => by simp [undoO, undo_len fs ds k]; omega
theorem undo_cnt {fs ds rs : List Nat} {k : Nat} (h : rs.map (fl .f32) = undoO fs ds k) : rs.length = fs.length + k := by
  have := congrArg List.length h
  rw [List.length_map, undo_len] at this
  exact this
theorem undo_step {fs ds rs : List Nat} {k x y r : Nat} (hk : k < ds.length) (hr0 : k < rs.length) (h : rs.map (fl .f32) = undoO fs ds k) (hx : x = ds[k]) (hy : y = rs[k])
    (hr : FV .f32 (fop .add .f32 (fl .f32 x) (fl .f32 y)) r) : (rs ++ [r]).map (fl .f32) = undoO fs ds (k + 1) := by
  have e : (undoO fs ds k).getD k none = fl .f32 y := by
    rw [← h, List.getD_eq_getElem?_getD, List.getElem?_map, List.getElem?_eq_getElem hr0, hy]; rfl
  have e2 : ds.getD k 0 = x := by rw [List.getD_eq_getElem?_getD, List.getElem?_eq_getElem hk, hx]; rfl
  unfold undoO
  rw [List.map_append, h, List.map_cons, List.map_nil, hr.1, e, e2]
def UndoR (fs ds : List Nat) (w : World) (k : Nat) (v : Value) (wr : World) : Prop := ∃ rs, rs.map (fl .f32) = undoO fs ds k ∧ Gath w wr v rs
section
variable {P : Program} (w : World)
/-- 'append' on a row of the call's own: the elder cells hold what they held, wherever the new slice lies. -/
theorem run_append_keeps (base : Nat) (t ty e : TypeId) (i : TypeInfo) (z : Value) (ht : P.underlying t = some (.slice e)) (hi : P.info? e = some i) (hz : i.zero = some z)
    (hsize : i.size = 1) (hby : i.bytes = 4) (hzs : z.cells.size = 1)
    (g n cap : Nat) (xs : List Value) (hown : w.ownsRow base e 1 (.slice (some ⟨g, 0, none⟩) n cap) n xs)
    (a : Addr) (news : List Value) (c : Nat) (hl : news.length = 1) (hnews : ∀ j u, news[j]? = some u → w.cell? (a.add j) = some u) (h1 : ∀ u ∈ news, u.oneCell' = true)
    (h63 : n + 1 ≤ maxLen) (hbytes : (n + 1) * 4 ≤ 140737488355328) (hbase : base ≤ w.heap.size) :
    ∃ v' w', (Builtin.append_ #[t, t] ty #[.slice (some ⟨g, 0, none⟩) n cap, .slice (some a) 1 c]).run P w = .ok v' w' ∧ w'.ownsRow base e 1 v' (n + 1) (xs ++ news) ∧ w.grownBy w' (some g) ∧
      ∀ j u, xs[j]? = some u → w'.cell? ((⟨g, 0, none⟩ : Addr).add j) = some u := by
  obtain ⟨v', w', hr, ho, hg, _⟩ := run_append_own (P := P) w base t ty e i z 1 4 ht hi hz hsize hby hzs (by decide) _ n xs hown a 1 c news (by rw [hl]) hnews h1 h63 hbytes hbase
  refine ⟨v', w', hr, ho, hg, ?_⟩
  have hown' := hown
  have hlen : xs.length = n := by rw [hown.1, Nat.mul_one]
  rcases hown.2 with ⟨h, _⟩ | ⟨g', cap', cur, h, hbg, hh, hnc, hcm, hcs, htake⟩
  · simp at h
  · simp only [Value.slice.injEq, Option.some.injEq, Addr.mk.injEq, and_true, true_and] at h
    obtain ⟨rfl, rfl⟩ := h
    have hsm : n + 1 ≤ 9223372036854775807 := by simp only [maxLen] at h63; omega
    by_cases hroom : n + 1 ≤ cap
    · have hr2 := run_append_room (P := P) w t ty e i ht hi g n cap cur hh a 1 c news (by rw [hl, hsize]) hnews h1 hroom (by rw [hsize, hl, hcs]; omega)
      rw [hr] at hr2
      simp only [Result.ok.injEq] at hr2
      obtain ⟨rfl, rfl⟩ := hr2
      intro j u hj
      refine ho.cells (g := g) rfl j u ?_
      have : j < xs.length := (List.getElem?_eq_some_iff.1 hj).1
      rw [List.getElem?_append_left this]; exact hj
    · have hr2 := run_append_grow (P := P) w t ty e i z ht hi hz ⟨g, 0, none⟩ n cap xs (by rw [hlen, hsize, Nat.mul_one]) (hown.cells (g := g) rfl) a 1 c news (by rw [hl, hsize]) hnews (by omega) (by omega) (by rw [hby]; exact growslice_fits (by omega) hbytes)
      rw [hr] at hr2
      simp only [Result.ok.injEq] at hr2
      obtain ⟨rfl, rfl⟩ := hr2
      intro j u hj
      have hb := (hown.lt g rfl).2
      refine (World.cell?_of_block (w := w) ?_).trans (hown.cells (g := g) rfl j u hj)
      rw [add_block]
      exact heap_alloc_old w.drew _ hb
end
/-- 'append(out, x)' as a step of a region that draws its order; out's elder cells hold what they held. -/
theorem step_push_keep {ops : Array Oper} {o : Oper} {a : Act} {K : Act → World → Prop} {Q : Exit → Act → World → Prop} {E : Prop} (w0 wr : World) (rs : List Nat) (x g cp : Nat) (hg : Hid (Gath w0 wr (.slice (some ⟨g, 0, none⟩) rs.length cp) rs)) (hlen : rs.length ≤ 1099511627776)
    (hgd : o.guard = none) (s y : Operand) (ho : o.op = .call { callee := .builtin .append, args := #[s, y], argTypes := #[22, 22] })
    (hs : a.eval s = .slice (some ⟨g, 0, none⟩) rs.length cp) (hy : a.eval y = .slice (some ⟨wr.heap.size, 0, none⟩) 1 1)
    (h : ∀ v' w', Hid (Gath w0 w' v' (rs ++ [x])) → Hid (∀ j u, (vs rs)[j]? = some u → w'.cell? ((⟨g, 0, none⟩ : Addr).add j) = some u) → K (a.put o.dst v') w') :
    if Region.wanted o (yielded ops a.tmps) = true then Oper.wp Try.prog o a (wr.alloc (.cells #[.float .f32 x] 23)) K Q else E := by
  have hw : Region.wanted o (yielded ops a.tmps) = true := by simp [Region.wanted, hgd]
  rw [if_pos hw]
  obtain ⟨i0, hi, hz0, hz1, hz2⟩ := info_parts f32_info
  have H := hg.out
  obtain ⟨v', w', hr, ho', hgr, hkeep⟩ := run_append_keeps (P := Try.prog) (wr.alloc (.cells #[.float .f32 x] 23)) w0.heap.size 22 o.type 23 i0 (.float .f32 0) Try.underlying22 hi hz0 hz1 hz2 rfl g rs.length cp (vs rs) (H.own.alloc _)
    ⟨wr.heap.size, 0, none⟩ [.float .f32 x] 1 rfl (by
      intro j u hj
      match j, hj with
      | 0, hj => simp at hj; subst hj; simp [Addr.add]) (by intro u hu; simp at hu; subst hu; rfl) (by unfold maxLen; omega) (by omega) (by have := H.below.size; simp; omega)
  unfold Oper.wp execOp
  simp only [ho, resolve, invoke, builtin, Sem.run_bind, Sem.run_pure, Result.andThen_ok, List.map_toArray, List.map_cons, List.map_nil, hs, hy, hr]
  refine h v' w' ⟨?_, ?_⟩ hkeep
  · have e1 : (rs ++ [x]).length = rs.length + 1 := by simp
    have e2 : vs (rs ++ [x]) = vs rs ++ [.float .f32 x] := by unfold vs; simp
    rw [e1, e2]; exact ho'
  · refine (H.below.alloc H.below.size _).grown hgr (by simp; have := H.below.size; omega) ?_
    intro k hk
    exact (H.own.lt k hk).1
theorem keep_at {w' : World} {rs : List Nat} {g k y : Nat} (h : Hid (∀ j u, (vs rs)[j]? = some u → w'.cell? ((⟨g, 0, none⟩ : Addr).add j) = some u)) (hk : Hid (rs[k]? = some y)) : w'.cell? ⟨g, k, none⟩ = some (.float .f32 y) := by
  have := h.out k (.float .f32 y) (by unfold vs; rw [List.getElem?_map, hk.out]; rfl)
  rwa [add_at] at this
/-- 'append([]float32{}, xs...)'. -/
theorem wpList_copy {ops : Array Oper} {rest : List Oper} {o : Oper} {a : Act} {Q : Exit → Act → World → Prop} (w0 wr : World) (xs : List Nat) (ad : Addr) (c : Nat) (a_v : Value) (hg : Gath w0 wr a_v []) (hx : Rd wr w0.heap.size (some ad) xs) (hne : xs ≠ []) (hlen : xs.length ≤ 1048576)
    (hgd : o.guard = none) (s y : Operand) (ho : o.op = .call { callee := .builtin .append, args := #[s, y], argTypes := #[22, 22] })
    (hs : a.eval s = a_v) (hy : a.eval y = .slice (some ad) xs.length c)
    (h : ∀ v' w', Hid (Gath w0 w' v' xs) → wpList Try.prog ops Q rest (a.put o.dst v') w') : wpList Try.prog ops Q (o :: rest) a wr := by
  obtain ⟨i0, hi, hz0, hz1, hz2⟩ := info_parts f32_info
  obtain ⟨ad', e, hb, hc⟩ := hx hne
  cases e
  refine wpList_append_own _ hgd s y 22 ho w0.heap.size 23 i0 (.float .f32 0) 1 4 Try.underlying22 hi hz0 hz1 hz2 rfl (by decide) _ _ _ hs hg.own ad xs.length c (vs xs) hy (by rw [vs_len]; omega) ?c1 ?c2 ?c3 ?c4 hg.below.size ?_
  case c1 =>
    intro j u hj
    unfold vs at hj
    rw [List.getElem?_map] at hj
    cases hxj : xs[j]? with
    | none => rw [hxj] at hj; cases hj
    | some x => rw [hxj] at hj; cases hj; exact hc j x hxj
  case c2 =>
    intro u hu
    unfold vs at hu
    obtain ⟨x, _, rfl⟩ := List.mem_map.1 hu
    rfl
  case c3 => unfold maxLen; simp; omega
  case c4 => simp; omega
  · intro v' w' hown' hgrow _
    refine h v' w' ⟨?_, ?_⟩
    · simpa [vs] using hown'
    · refine hg.below.grown hgrow hg.below.size ?_
      intro k hk
      exact (hg.own.lt k hk).1
/-- May the differences be undone? -/
def undoB (xs ys : List Nat) : Bool := serB xs && (serB ys && decide ((xs.length : Int) + ys.length ≤ 96))
def UndoP (xs ys : List Nat) (w : World) (e : Ending) (w' : World) : Prop := RetL (undoO xs ys ys.length) (undoB xs ys && allO (undoO xs ys ys.length)) w e w'
theorem ser_ne {xs : List Nat} (h : serB xs = true) : xs ≠ [] ∧ 1 ≤ xs.length ∧ xs.length ≤ 96 := by
  unfold serB at h
  simp only [Bool.and_eq_true, decide_eq_true_eq] at h
  exact ⟨by intro e; subst e; simp at h, by omega, by omega⟩
theorem gath_slice {w wr : World} {v : Value} {rs : List Nat} (h : Gath w wr v rs) : ∃ A c, v = .slice A rs.length c ∧ Gath w wr (.slice A rs.length c) rs := by
  obtain ⟨A, c, rfl, _⟩ := own_shape h.own
  exact ⟨A, c, rfl, h⟩
theorem gath_rdo {w wr : World} {A : Option Addr} {c : Nat} {rs : List Nat} (h : Gath w wr (.slice A rs.length c) rs) : Rd wr wr.heap.size A rs := Own.rd (base := w.heap.size) h.own

@[go_sem] theorem eql_nil (w : World) (a : Addr) (n c : Nat) : (binOp .eql 22 (.slice (some a) n c) (.slice none 0 0)).run Try.prog w = .ok (.bool false) w := by
  have := Go.Lib.run_eql_slice_nil (P := Try.prog) w 22 23 (some a) n c 0 0 Try.underlying22
  simpa using this
set_option maxHeartbeats 1000000 in
theorem clone_any (xs : List Nat) (ad : Addr) (c : Nat) (w : World) (hx : Rd w w.heap.size (some ad) xs) (hne : xs ≠ []) (hl : xs.length ≤ 1048576) :
    Calls Try.prog 53 #[.slice (some ad) xs.length c] w fun e w' => ∃ v, e = .returned v ∧ Gath w w' v xs := by
  have HX := Lib.hid hx
  have HNE := Lib.hid hne
  clear hx hne
  go_enter Try.func53, Try.ntmps53
  go_wp2_with (at_builtin; refine wpList_copy w _ xs ad c _ (by first | exact Gath.empty w | exact gath_empty _) (by first | exact HX.out.below (Gath.empty w).below | exact HX.out.below (gath_empty _).below) HNE.out hl rfl _ _ rfl rfl rfl ?_; intro v' w' HG)
  go_ret
  exact ⟨_, rfl, HG.out⟩

set_option maxHeartbeats 2000000 in
theorem impl_UndoDifferences (xs : List Nat) (A : Option Addr) (c : Nat) (ys : List Nat) (B : Option Addr) (d : Nat) (w : World) (hx : Rd w w.heap.size A xs) (hy : Rd w w.heap.size B ys) (hl : xs.length ≤ 1048576) (hl2 : ys.length ≤ 1048576) : Calls Try.prog 33 #[.slice A xs.length c, .slice B ys.length d] w (UndoP xs ys w) := by
  have HX := Lib.hid hx
  have HY := Lib.hid hy
  clear hx hy
  cases hs : serB xs
  · have hp : (undoB xs ys && allO (undoO xs ys ys.length)) = false := by unfold undoB; rw [hs]; rfl
    have HS := Lib.hid hs
    unfold UndoP
    rw [hp]
    clear hp hs
    go_enter Try.func33, Try.ntmps33
    go_wp2_with fail
    refine (impl_IsSeries xs _ c _ _ (by exact HX.out) hl).mono ?_
    rw [HS.out]
    rintro e w' ⟨m, rfl, rfl⟩
    go_wp2
    go_ret2
    exact RetL.no _
  have HS := Lib.hid hs
  cases hs2 : serB ys
  · have hp : (undoB xs ys && allO (undoO xs ys ys.length)) = false := by unfold undoB; rw [hs2, hs]; rfl
    have HS2 := Lib.hid hs2
    unfold UndoP
    rw [hp]
    clear hp hs hs2
    go_enter Try.func33, Try.ntmps33
    go_wp2_with fail
    refine (impl_IsSeries xs _ c _ _ (by exact HX.out) hl).mono ?_
    rw [HS.out]
    rintro e w' ⟨m, rfl, rfl⟩
    go_wp2_with fail
    refine (impl_IsSeries ys _ d _ _ (by exact HY.out) hl2).mono ?_
    rw [HS2.out]
    rintro e w' ⟨m', rfl, rfl⟩
    go_wp2
    go_ret2
    exact RetL.no _
  have HS2 := Lib.hid hs2
  obtain ⟨hne, h1, h96⟩ := ser_ne hs
  obtain ⟨hne2, h1', h96'⟩ := ser_ne hs2
  have hp0 : undoB xs ys = decide ((xs.length : Int) + ys.length ≤ 96) := by unfold undoB; rw [hs, hs2]; rfl
  have HNE := Lib.hid hne
  clear hs hs2 hne hne2
  by_cases hsum : (xs.length : Int) + ys.length ≤ 96
  · have hp : undoB xs ys = true := by rw [hp0]; exact decide_eq_true hsum
    unfold UndoP
    rw [hp, Bool.true_and]
    clear hp hp0
    obtain ⟨ad, hA⟩ : ∃ ad, A = some ad := by
      obtain ⟨ad, h, _⟩ := HX.out HNE.out
      exact ⟨ad, h⟩
    subst hA
    go_enter Try.func33, Try.ntmps33
    go_wp2_with fail
    refine (impl_IsSeries xs _ c _ _ (by exact HX.out) hl).mono ?_
    rw [HS.out]
    rintro e w' ⟨m, rfl, rfl⟩
    go_wp2_with fail
    refine (impl_IsSeries ys _ d _ _ (by exact HY.out) hl2).mono ?_
    rw [HS2.out]
    rintro e w' ⟨m', rfl, rfl⟩
    go_wp2_with fail
    refine (clone_any xs ad c _ (by exact HX.out) HNE.out hl).mono ?_
    rintro e w2 ⟨v0, rfl, hg00⟩
    have HG00 : Hid (Gath w w2 v0 xs) := Lib.hid ⟨hg00.own, und' hg00.below⟩
    clear hg00
    obtain ⟨A0, c0, rfl, hg0⟩ := gath_slice HG00.out
    have HG0 := Lib.hid hg0
    clear hg0 HG00
    go_wp2
    go_loopw [6, 29] (fun v i wr => ∃ k : Nat, k ≤ ys.length ∧ i = .int .i64 k ∧ Hid (UndoR xs ys w k v wr)) (fun _ i _ => ys.length - (intOf i).toNat)
    case atStart => exact ⟨0, by omega, rfl, Lib.hid ⟨xs, rfl, HG0.out⟩⟩
    case round =>
      obtain ⟨k, hk, rfl, HJ⟩ := hrel
      obtain ⟨rs, hrs, hgath0⟩ := HJ.out
      obtain ⟨A', c', rfl, hgath⟩ := gath_slice hgath0
      clear hgath0
      have hrl := undo_cnt hrs
      have hrk : rs.length ≤ 1099511627776 := by omega
      have HRS := Lib.hid hrs
      have HG := Lib.hid hgath
      clear HJ hrs hgath
      by_cases hlt : k < ys.length
      · have hlr : k < rs.length := by omega
        clear hrl
        obtain ⟨bd, rfl, hb0, hc⟩ := (HG.out.rd HY.out).at_ hlt
        obtain ⟨ad', rfl, hb1, hc2⟩ := (gath_rdo HG.out).at_ hlr
        obtain ⟨x, hx⟩ : ∃ x, x = ys[k] := ⟨_, rfl⟩
        obtain ⟨y, hy⟩ : ∃ y, y = rs[k] := ⟨_, rfl⟩
        rw [← hx] at hc
        rw [← hy] at hc2
        have HXX := Lib.hid hx
        have HYY := Lib.hid hy
        clear hx hy
        go_wp2_with (first | (refine wpList_farith _ _ _ _ _ rfl rfl rfl _ _ _ rfl rfl ?_; intro r n hr) | (at_builtin; refine wpList_push w _ _ r _ (Lib.hid (HG.out.drewN n)) hrk rfl _ _ rfl rfl rfl ?_; intro v' w' HG'))
        have hs' := Lib.hid (undo_step hlt hlr HRS.out HXX.out HYY.out hr)
        clear hr
        go_roundw
        case rel => exact ⟨k + 1, by omega, by go_num, Lib.hid ⟨_, hs'.out, HG'.out⟩⟩
        case measure => simp [intOf]; omega
      · have hkl : k = ys.length := by omega
        have hrl2 : rs.length ≤ 1048576 := by omega
        rw [hkl] at HRS
        clear hkl hrl
        go_wp2_with fail
        refine (impl_ifAll rs _ _ _ _ (by exact gath_rdo HG.out) hrl2).mono ?_
        rintro e w' ⟨m2, v2, hv, rfl, rfl⟩
        have HH := Lib.hid (handed HRS.out (by exact HG.out.own) HG.out.below m2 hv)
        clear hv
        go_wp2
        go_ret2
        exact HH.out
  · have hp : undoB xs ys = false := by rw [hp0]; exact decide_eq_false hsum
    unfold UndoP
    rw [hp, Bool.false_and]
    clear hp hp0
    have hsd : decide ((96 : Int) < (xs.length : Int) + ys.length) = true := decide_eq_true (by omega)
    go_enter Try.func33, Try.ntmps33
    go_wp2_with fail
    refine (impl_IsSeries xs _ c _ _ (by exact HX.out) hl).mono ?_
    rw [HS.out]
    rintro e w' ⟨m, rfl, rfl⟩
    go_wp2_with fail
    refine (impl_IsSeries ys _ d _ _ (by exact HY.out) hl2).mono ?_
    rw [HS2.out]
    rintro e w' ⟨m', rfl, rfl⟩
    go_wp2
    go_ret2
    exact RetL.no _

set_option maxHeartbeats 2000000 in
theorem spec_UndoDifferences (xs : List Nat) (A : Option Addr) (c : Nat) (ys : List Nat) (B : Option Addr) (d : Nat) (w : World) (hx : Rd w w.heap.size A xs) (hy : Rd w w.heap.size B ys) (hl : xs.length ≤ 1048576) (hl2 : ys.length ≤ 1048576) : Calls Try.prog 32 #[.slice A xs.length c, .slice B ys.length d] w (UndoP xs ys w) := by
  have HX := Lib.hid hx
  have HY := Lib.hid hy
  clear hx hy
  cases hs : serB xs
  · have hp : (undoB xs ys && allO (undoO xs ys ys.length)) = false := by unfold undoB; rw [hs]; rfl
    have HS := Lib.hid hs
    unfold UndoP
    rw [hp]
    clear hp hs
    go_enter Try.func32, Try.ntmps32
    go_wp2_with fail
    refine (spec_l02Series xs _ c _ _ (by exact HX.out) hl).mono ?_
    rw [HS.out]
    rintro e w' ⟨m, rfl, rfl⟩
    go_wp2
    go_ret2
    exact RetL.no _
  have HS := Lib.hid hs
  cases hs2 : serB ys
  · have hp : (undoB xs ys && allO (undoO xs ys ys.length)) = false := by unfold undoB; rw [hs2, hs]; rfl
    have HS2 := Lib.hid hs2
    unfold UndoP
    rw [hp]
    clear hp hs hs2
    go_enter Try.func32, Try.ntmps32
    go_wp2_with fail
    refine (spec_l02Series xs _ c _ _ (by exact HX.out) hl).mono ?_
    rw [HS.out]
    rintro e w' ⟨m, rfl, rfl⟩
    go_wp2_with fail
    refine (spec_l02Series ys _ d _ _ (by exact HY.out) hl2).mono ?_
    rw [HS2.out]
    rintro e w' ⟨m', rfl, rfl⟩
    go_wp2
    go_ret2
    exact RetL.no _
  have HS2 := Lib.hid hs2
  obtain ⟨hne, h1, h96⟩ := ser_ne hs
  obtain ⟨hne2, h1', h96'⟩ := ser_ne hs2
  have hp0 : undoB xs ys = decide ((xs.length : Int) + ys.length ≤ 96) := by unfold undoB; rw [hs, hs2]; rfl
  have HNE := Lib.hid hne
  clear hs hs2 hne hne2
  by_cases hsum : (xs.length : Int) + ys.length ≤ 96
  · have hp : undoB xs ys = true := by rw [hp0]; exact decide_eq_true hsum
    unfold UndoP
    rw [hp, Bool.true_and]
    clear hp hp0
    obtain ⟨ad, hA⟩ : ∃ ad, A = some ad := by
      obtain ⟨ad, h, _⟩ := HX.out HNE.out
      exact ⟨ad, h⟩
    subst hA
    go_enter Try.func32, Try.ntmps32
    go_wp2_with fail
    refine (spec_l02Series xs _ c _ _ (by exact HX.out) hl).mono ?_
    rw [HS.out]
    rintro e w' ⟨m, rfl, rfl⟩
    go_wp2_with fail
    refine (spec_l02Series ys _ d _ _ (by exact HY.out) hl2).mono ?_
    rw [HS2.out]
    rintro e w' ⟨m', rfl, rfl⟩
    go_wp2_with (at_builtin; refine wpList_copy w _ xs ad c _ (by first | exact Gath.empty w | exact gath_empty _) (by first | exact HX.out.below (Gath.empty w).below | exact HX.out.below (gath_empty _).below) HNE.out hl rfl _ _ rfl rfl rfl ?_; intro v' w' HG00)
    obtain ⟨A0, c0, rfl, hg0⟩ := gath_slice HG00.out
    have HG0 := Lib.hid hg0
    clear hg0 HG00
    go_wp2
    go_loopw [6, 7] (fun v i wr => ∃ k : Nat, k ≤ ys.length ∧ i = .int .i64 k ∧ Hid (UndoR xs ys w k v wr)) (fun _ i _ => ys.length - (intOf i).toNat)
    case atStart => exact ⟨0, by omega, rfl, Lib.hid ⟨xs, rfl, HG0.out⟩⟩
    case round =>
      obtain ⟨k, hk, rfl, HJ⟩ := hrel
      obtain ⟨rs, hrs, hgath0⟩ := HJ.out
      obtain ⟨A', c', rfl, hgath⟩ := gath_slice hgath0
      clear hgath0
      have hrl := undo_cnt hrs
      have hrk : rs.length ≤ 1099511627776 := by omega
      have HRS := Lib.hid hrs
      have HG := Lib.hid hgath
      clear HJ hrs hgath
      by_cases hlt : k < ys.length
      · have hlr : k < rs.length := by omega
        clear hrl
        obtain ⟨bd, rfl, hb0, hc⟩ := (HG.out.rd HY.out).at_ hlt
        obtain ⟨ad', rfl, hb1, hc2⟩ := (gath_rdo HG.out).at_ hlr
        obtain ⟨x, hx⟩ : ∃ x, x = ys[k] := ⟨_, rfl⟩
        obtain ⟨y, hy⟩ : ∃ y, y = rs[k] := ⟨_, rfl⟩
        rw [← hx] at hc
        rw [← hy] at hc2
        have HXX := Lib.hid hx
        have HYY := Lib.hid hy
        clear hx hy
        have hltd : decide ((k : Int) < (ys.length : Int)) = true := decide_eq_true (by omega)
        have hltr : decide ((k : Int) < (rs.length : Int)) = true := decide_eq_true (by omega)
        have b1 : (0 : Int) ≤ (k : Int) := by omega
        have b3 : (k : Int) < (ys.length : Int) := by omega
        have b4 : (k : Int) < (rs.length : Int) := by omega
        have C1 := Lib.hid (old_cell HG.out hb0 hc)
        have C2 := Lib.hid (show rs[k]? = some y by rw [List.getElem?_eq_getElem hlr, HYY.out])
        obtain ⟨g, hgA⟩ : ∃ g, ad' = ⟨g, 0, none⟩ := by
          rcases Own.at_block (base := w.heap.size) HG.out.own with ⟨h, _⟩ | ⟨g, h, _⟩
          · cases h
          · cases h; exact ⟨g, rfl⟩
        subst hgA
        rw [add_at] at hc2
        go_wp2
        go_region_held_law (fun w' => w'.cell? (bd.add k) = some (.float .f32 x) ∧ w'.cell? ⟨g, k, none⟩ = some (.float .f32 y)) (first | go_keep | exact ⟨gath_cell (by assumption) C1, keep_at (by assumption) C2⟩) (first | (refine upon_farith _ rfl _ .f32 _ _ ?_; intro r n hr) | (refine step_push_keep w _ _ _ _ _ (Lib.hid (HG.out.drewN _)) hrk rfl _ _ rfl rfl rfl ?_; intro v' w' HG' HK'))
        all_goals
          have hs' := Lib.hid (undo_step hlt hlr HRS.out HXX.out HYY.out (by assumption))
          go_wp2
          go_roundw
          case rel => exact ⟨k + 1, by omega, by go_num, Lib.hid ⟨_, hs'.out, HG'.out⟩⟩
          case measure => simp [intOf]; omega
      · have hkl : k = ys.length := by omega
        have hrl2 : rs.length ≤ 1048576 := by omega
        rw [hkl] at HRS
        clear hkl hrl
        go_wp2_with fail
        refine (spec_l02List rs _ _ _ _ (by exact gath_rdo HG.out) hrl2).mono ?_
        rintro e w' ⟨m2, v2, hv, rfl, rfl⟩
        have HH := Lib.hid (handed HRS.out (by exact HG.out.own) HG.out.below m2 hv)
        clear hv
        go_wp2
        go_ret2
        exact HH.out
  · have hp : undoB xs ys = false := by rw [hp0]; exact decide_eq_false hsum
    unfold UndoP
    rw [hp, Bool.false_and]
    clear hp hp0
    have hsd : decide ((96 : Int) < (xs.length : Int) + ys.length) = true := decide_eq_true (by omega)
    go_enter Try.func32, Try.ntmps32
    go_wp2_with fail
    refine (spec_l02Series xs _ c _ _ (by exact HX.out) hl).mono ?_
    rw [HS.out]
    rintro e w' ⟨m, rfl, rfl⟩
    go_wp2_with fail
    refine (spec_l02Series ys _ d _ _ (by exact HY.out) hl2).mono ?_
    rw [HS2.out]
    rintro e w' ⟨m', rfl, rfl⟩
    go_wp2
    go_ret2
    exact RetL.no _

end Go.Proofs.Ytjlkkamcflijjaa.Mp