/- The walks: LagDifferences. -/
import Derived.Deep.RegionHeldLaw
import Derived.Deep.DrawnRows
import Derived.Test.YtjlkkamcflijjaaMl
namespace Go.Proofs.Ytjlkkamcflijjaa.Mo
open Go Go.RowKit Fl WA WB Md Me Mf Mi Mj Mk Ml
set_option linter.unusedVariables false
attribute [local go_sem ↓] Go.wp_at_zero Go.wp_at_succ
/-- The one list less the other. -/
def lessO (ps qs : List Nat) : List (Option Nat) := List.zipWith (fun p q => fop .sub .f32 (fl .f32 p) (fl .f32 q)) ps qs
theorem less_len (ps qs : List Nat) : (lessO ps qs).length = min ps.length qs.length := by simp [lessO]
theorem less_step {ps qs rs : List Nat} {k x y r : Nat} (hp : k < ps.length) (hq : k < qs.length) (h : rs.map (fl .f32) = (lessO ps qs).take k) (hx : x = ps[k]) (hy : y = qs[k])
    (hr : FV .f32 (fop .sub .f32 (fl .f32 x) (fl .f32 y)) r) : (rs ++ [r]).map (fl .f32) = (lessO ps qs).take (k + 1) := by
  have hl : k < (lessO ps qs).length := by rw [less_len]; omega
  rw [List.take_succ_eq_append_getElem hl, List.map_append, h, List.map_cons, List.map_nil, hr.1, hx, hy]
  congr 2
  simp [lessO]
theorem less_cnt {ps qs rs : List Nat} {k : Nat} (hp : k ≤ ps.length) (hq : k ≤ qs.length) (h : rs.map (fl .f32) = (lessO ps qs).take k) : rs.length = k := by
  have := congrArg List.length h
  rw [List.length_map, List.length_take, less_len] at this
  omega
theorem less_done {ps qs rs : List Nat} {k : Nat} (hk : k ≤ ps.length) (hn : ¬ k < ps.length) (hq : ps.length ≤ qs.length) (h : rs.map (fl .f32) = (lessO ps qs).take k) : rs.map (fl .f32) = lessO ps qs := by
  rw [h, List.take_of_length_le (by rw [less_len]; omega)]
theorem gath_cell {w0 w' : World} {v : Value} {rs : List Nat} {p : Addr} {u : Value} (h : Hid (Gath w0 w' v rs)) (hc : Hid (p.block < w0.heap.size ∧ w0.cell? p = some u)) : w'.cell? p = some u := (h.out.below.cell hc.out.1).trans hc.out.2
theorem old_cell {w0 wr : World} {v : Value} {rs : List Nat} {ad : Addr} {k : Nat} {u : Value} (h : Gath w0 wr v rs) (hb : ad.block < w0.heap.size) (hc : wr.cell? (ad.add k) = some u) : (ad.add k).block < w0.heap.size ∧ w0.cell? (ad.add k) = some u := by
  have hb' : (ad.add k).block < w0.heap.size := by rw [add_block]; exact hb
  exact ⟨hb', (h.below.cell hb').symm.trans hc⟩
def LessR (ps qs : List Nat) (w : World) (k : Nat) (v : Value) (wr : World) : Prop := ∃ rs, rs.map (fl .f32) = (lessO ps qs).take k ∧ Gath w wr v rs
/-- 'append(out, x)' as a step of a region that draws its order. -/
theorem step_push {ops : Array Oper} {o : Oper} {a : Act} {K : Act → World → Prop} {Q : Exit → Act → World → Prop} {E : Prop} (w0 wr : World) (rs : List Nat) (x : Nat) (a_v : Value) (hg : Hid (Gath w0 wr a_v rs)) (hlen : rs.length ≤ 1099511627776)
    (hgd : o.guard = none) (s y : Operand) (ho : o.op = .call { callee := .builtin .append, args := #[s, y], argTypes := #[22, 22] })
    (hs : a.eval s = a_v) (hy : a.eval y = .slice (some ⟨wr.heap.size, 0, none⟩) 1 1)
    (h : ∀ v' w', Hid (Gath w0 w' v' (rs ++ [x])) → K (a.put o.dst v') w') : if Region.wanted o (yielded ops a.tmps) = true then Oper.wp Try.prog o a (wr.alloc (.cells #[.float .f32 x] 23)) K Q else E := by
  have hw : Region.wanted o (yielded ops a.tmps) = true := by simp [Region.wanted, hgd]
  rw [if_pos hw]
  obtain ⟨i0, hi, hz0, hz1, hz2⟩ := info_parts f32_info
  have H := hg.out
  refine wp_append_own _ s y 22 ho w0.heap.size 23 i0 (.float .f32 0) 1 4 Try.underlying22 hi hz0 hz1 hz2 rfl (by decide) _ _ _ hs (H.own.alloc _) ⟨wr.heap.size, 0, none⟩ 1 1 [.float .f32 x] hy rfl ?c1 ?c2 ?c3 ?c4 ?c5 ?_
  case c1 =>
    intro j u hj
    match j, hj with
    | 0, hj => simp at hj; subst hj; simp [Addr.add]
  case c2 => intro u hu; simp at hu; subst hu; rfl
  case c3 => unfold maxLen; omega
  case c4 => omega
  case c5 => have := H.below.size; simp; omega
  · intro v' w' hown' hgrow _
    refine h v' w' ⟨?_, ?_⟩
    · have e1 : (rs ++ [x]).length = rs.length + 1 := by simp
      have e2 : vs (rs ++ [x]) = vs rs ++ [.float .f32 x] := by unfold vs; simp
      rw [e1, e2]; exact hown'
    · refine (H.below.alloc H.below.size _).grown hgrow (by simp; have := H.below.size; omega) ?_
      intro k hk
      exact (H.own.lt k hk).1

set_option maxHeartbeats 1000000 in
theorem impl_less (ps qs : List Nat) (A B : Option Addr) (c d : Nat) (w : World) (hx : Rd w w.heap.size A ps) (hy : Rd w w.heap.size B qs) (hl : qs.length ≤ 1048576) (hle : ps.length ≤ qs.length) :
    Calls Try.prog 52 #[.slice A ps.length c, .slice B qs.length d] w (RetV (lessO ps qs) w) := by
  have HX := Lib.hid hx
  have HY := Lib.hid hy
  clear hx hy
  go_enter Try.func52, Try.ntmps52
  go_wp2
  go_loopw [5, 11] (fun v i wr => ∃ k : Nat, k ≤ ps.length ∧ i = .int .i64 k ∧ Hid (LessR ps qs w k v wr)) (fun _ i _ => ps.length - (intOf i).toNat)
  case atStart => exact ⟨0, by omega, rfl, Lib.hid ⟨[], rfl, gath_empty 0⟩⟩
  case round =>
    obtain ⟨k, hk, rfl, HJ⟩ := hrel
    obtain ⟨rs, hrs, hgath⟩ := HJ.out
    have hrl : rs.length = k := less_cnt hk (by omega) hrs
    have hrk : rs.length ≤ 1099511627776 := by omega
    have HRS := Lib.hid hrs
    have HG := Lib.hid hgath
    clear HJ hrs hgath
    by_cases hlt : k < ps.length
    · have hlq : k < qs.length := by omega
      obtain ⟨ad, rfl, hb0, hc⟩ := (HG.out.rd HX.out).at_ hlt
      obtain ⟨bd, rfl, hb1, hc2⟩ := (HG.out.rd HY.out).at_ hlq
      obtain ⟨x, hx⟩ : ∃ x, x = ps[k] := ⟨_, rfl⟩
      obtain ⟨y, hy⟩ : ∃ y, y = qs[k] := ⟨_, rfl⟩
      rw [← hx] at hc
      rw [← hy] at hc2
      have HXX := Lib.hid hx
      have HYY := Lib.hid hy
      clear hx hy
      go_wp2_with (first | (refine wpList_farith _ _ _ _ _ rfl rfl rfl _ _ _ rfl rfl ?_; intro r n hr) | (at_builtin; refine wpList_push w _ _ r _ (Lib.hid (HG.out.drewN n)) hrk rfl _ _ rfl rfl rfl ?_; intro v' w' HG'))
      have hs' := Lib.hid (less_step hlt hlq HRS.out HXX.out HYY.out hr)
      clear hr
      go_roundw
      case rel => exact ⟨k + 1, by omega, by go_num, Lib.hid ⟨_, hs'.out, HG'.out⟩⟩
      case measure => simp [intOf]; omega
    · have hd := Lib.hid (less_done hk hlt hle HRS.out)
      clear HRS
      go_wp2
      go_ret
      exact HG.out.retV hd.out

/-- Is it a series, and n a lag for it? -/
def lagB (xs : List Nat) (n : Int) : Bool := serB xs && (decide (1 ≤ n) && decide (n ≤ (xs.length : Int) - 1))
theorem lag_int {xs : List Nat} {a : Int} (h : lagB xs a = true) : ∃ n : Nat, a = n ∧ 1 ≤ n ∧ n < xs.length ∧ serB xs = true := by
  unfold lagB at h
  simp only [Bool.and_eq_true, decide_eq_true_eq] at h
  exact ⟨a.toNat, by omega, by omega, by omega, h.1⟩
def lagO (xs : List Nat) (a : Int) : List (Option Nat) := lessO (xs.drop a.toNat) xs
def LagP (xs : List Nat) (a : Int) (w : World) (e : Ending) (w' : World) : Prop := RetL (lagO xs a) (lagB xs a && allO (lagO xs a)) w e w'
theorem Rd.drop {w : World} {B : Nat} {ad : Addr} {xs : List Nat} (h : Rd w B (some ad) xs) (n : Nat) : Rd w B (some (ad.add n)) (xs.drop n) := fun hn => by
  obtain ⟨ad', e, hb, hc⟩ := h (by intro e; subst e; simp at hn)
  cases e
  refine ⟨_, rfl, by rw [add_block]; exact hb, fun j x hx => ?_⟩
  rw [List.getElem?_drop] at hx
  have := hc (n + j) x hx
  rw [show (ad.add n).add j = ad.add (n + j) from Addr.add_add _ _ _]
  exact this
set_option maxHeartbeats 1000000 in
theorem impl_LagDifferences (xs : List Nat) (A : Option Addr) (c : Nat) (w : World) (hx : Rd w w.heap.size A xs) (hl : xs.length ≤ 1048576) (a : Int) (hcap : xs.length ≤ c) : Calls Try.prog 31 #[.slice A xs.length c, .int .i64 a] w (LagP xs a w) := by
  have HX := Lib.hid hx
  clear hx
  cases hs : serB xs
  · have hp : (lagB xs a && allO (lagO xs a)) = false := by unfold lagB; rw [hs]; rfl
    have HS := Lib.hid hs
    unfold LagP
    rw [hp]
    clear hp hs
    go_enter Try.func31, Try.ntmps31
    go_wp2_with fail
    refine (impl_IsSeries xs A c _ _ (by exact HX.out) hl).mono ?_
    rw [HS.out]
    rintro e w' ⟨m, rfl, rfl⟩
    go_wp2
    go_ret2
    exact RetL.no _
  have HS := Lib.hid hs
  have hp0 : lagB xs a = (decide (1 ≤ a) && decide (a ≤ (xs.length : Int) - 1)) := by unfold lagB; rw [hs]; rfl
  have HP0 := Lib.hid hp0
  clear hs hp0
  cases hp : lagB xs a
  · have HP := Lib.hid (HP0.out.symm.trans hp)
    unfold LagP
    rw [hp, Bool.false_and]
    clear hp
    go_enter Try.func31, Try.ntmps31
    go_wp2_with fail
    refine (impl_IsSeries xs A c _ _ (by exact HX.out) hl).mono ?_
    rw [HS.out]
    rintro e w' ⟨m, rfl, rfl⟩
    go_wp2_with fail
    refine (impl_within a 1 ((xs.length : Int) - 1) _).mono ?_
    rw [HP.out]
    rintro e w' ⟨rfl, rfl⟩
    go_wp2
    go_ret2
    exact RetL.no _
  · obtain ⟨n, rfl, hn, hnl, _⟩ := lag_int hp
    have HP := Lib.hid (HP0.out.symm.trans hp)
    unfold LagP
    rw [hp, Bool.true_and]
    clear hp
    obtain ⟨ad, hA⟩ : ∃ ad, A = some ad := by
      obtain ⟨ad, h, _⟩ := HX.out (by intro e; subst e; simp at hnl)
      exact ⟨ad, h⟩
    subst hA
    have hcn : ¬ c = n := by omega
    have hD : lagO xs (n : Int) = lessO (xs.drop n) xs := rfl
    rw [hD]
    have hln : (xs.drop n).length = xs.length - n := by simp
    go_enter Try.func31, Try.ntmps31
    go_wp2_with fail
    refine (impl_IsSeries xs _ c _ _ (by exact HX.out) hl).mono ?_
    rw [HS.out]
    rintro e w' ⟨m, rfl, rfl⟩
    go_wp2_with fail
    refine (impl_within n 1 ((xs.length : Int) - 1) _).mono ?_
    rw [HP.out]
    rintro e w' ⟨rfl, rfl⟩
    go_wp2_with fail
    have hcall := impl_less (xs.drop n) xs (some (ad.add n)) (some ad) (c - n) c (w.drewN m) (by exact Rd.drop HX.out n) (by exact HX.out) hl (by omega)
    rw [hln] at hcall
    refine hcall.mono ?_
    rintro e w2 ⟨rs, A', c', hrs, rfl, ho, hb⟩
    have HR := Lib.hid hrs
    have HO := Lib.hid ho
    have HB := Lib.hid hb
    have hrl : rs.length ≤ 1048576 := by
      have := congrArg List.length hrs
      rw [List.length_map, less_len] at this
      omega
    clear hrs ho hb hcall
    go_wp2_with fail
    refine (impl_ifAll rs _ _ _ _ (by exact HO.out.rd) hrl).mono ?_
    rintro e w' ⟨m2, v2, hv, rfl, rfl⟩
    have HH := Lib.hid (handed (w := w) HR.out (by exact HO.out) (und' HB.out) m2 hv)
    clear hv
    go_wp2
    go_ret2
    exact HH.out

theorem lag_spec {xs : List Nat} {a : Int} (hs : serB xs = true) (hp : lagB xs a = false) : a < 1 ∨ (1 ≤ a ∧ (xs.length : Int) ≤ a) := by
  unfold lagB at hp
  rw [hs] at hp
  simp only [Bool.true_and, Bool.and_eq_false_iff, decide_eq_false_iff_not] at hp
  omega
set_option maxHeartbeats 2000000 in
theorem spec_LagDifferences (xs : List Nat) (A : Option Addr) (c : Nat) (w : World) (hx : Rd w w.heap.size A xs) (hl : xs.length ≤ 1048576) (a : Int) : Calls Try.prog 30 #[.slice A xs.length c, .int .i64 a] w (LagP xs a w) := by
  have HX := Lib.hid hx
  clear hx
  cases hs : serB xs
  · have hp : (lagB xs a && allO (lagO xs a)) = false := by unfold lagB; rw [hs]; rfl
    have HS := Lib.hid hs
    unfold LagP
    rw [hp]
    clear hp hs
    go_enter Try.func30, Try.ntmps30
    go_wp2_with fail
    refine (spec_l02Series xs A c _ _ (by exact HX.out) hl).mono ?_
    rw [HS.out]
    rintro e w' ⟨m, rfl, rfl⟩
    go_wp2
    go_ret2
    exact RetL.no _
  have HS := Lib.hid hs
  cases hp : lagB xs a
  · have hq := lag_spec hs hp
    unfold LagP
    rw [hp, Bool.false_and]
    clear hp hs
    rcases hq with h1 | ⟨h1, h2⟩
    · go_enter Try.func30, Try.ntmps30
      go_wp2_with fail
      refine (spec_l02Series xs A c _ _ (by exact HX.out) hl).mono ?_
      rw [HS.out]
      rintro e w' ⟨m, rfl, rfl⟩
      go_wp2
      go_ret2
      exact RetL.no _
    · have h0 : decide (a < 1) = false := decide_eq_false (by omega)
      go_enter Try.func30, Try.ntmps30
      go_wp2_with fail
      refine (spec_l02Series xs A c _ _ (by exact HX.out) hl).mono ?_
      rw [HS.out]
      rintro e w' ⟨m, rfl, rfl⟩
      go_wp2
      go_ret2
      exact RetL.no _
  · obtain ⟨n, rfl, hn, hnl, _⟩ := lag_int hp
    unfold LagP
    rw [hp, Bool.true_and]
    clear hp hs
    have hD : lagO xs (n : Int) = lessO (xs.drop n) xs := rfl
    rw [hD]
    have hln : (xs.drop n).length = xs.length - n := by simp
    have h0 : decide ((n : Int) < 1) = false := decide_eq_false (by omega)
    have h2 : decide ((n : Int) < (xs.length : Int)) = true := decide_eq_true (by omega)
    have h3 : decide (xs.length ≤ n) = false := decide_eq_false (by omega)
    have h4 : decide ((xs.length : Int) ≤ (n : Int)) = false := decide_eq_false (by omega)
    go_enter Try.func30, Try.ntmps30
    go_wp2_with fail
    refine (spec_l02Series xs A c _ _ (by exact HX.out) hl).mono ?_
    rw [HS.out]
    rintro e w' ⟨m, rfl, rfl⟩
    go_wp2
    go_loopw [6, 7] (fun v i wr => ∃ i0 k : Nat, i0 = n + k ∧ i0 ≤ xs.length ∧ i = .int .i64 i0 ∧ Hid (LessR (xs.drop n) xs w k v wr)) (fun _ i _ => xs.length - (intOf i).toNat)
    case atStart => exact ⟨n, 0, rfl, by omega, rfl, Lib.hid ⟨[], rfl, gath_empty _⟩⟩
    case round =>
      obtain ⟨i0, k, hik, hk, rfl, HJ⟩ := hrel
      obtain ⟨rs, hrs, hgath⟩ := HJ.out
      have hrl : rs.length = k := less_cnt (by omega) (by omega) hrs
      have HRS := Lib.hid hrs
      have HG := Lib.hid hgath
      have HIK := Lib.hid hik
      have hkn : IntKind.i64.wrap ((i0 : Int) - (n : Int)) = (k : Int) := by rw [IntKind.wrap_i64]; omega
      have b1 : (0 : Int) ≤ (k : Int) := by omega
      have b2 : (0 : Int) ≤ (i0 : Int) := by omega
      have hrk : rs.length ≤ 1099511627776 := by omega
      clear HJ hrs hgath hrl
      by_cases hlt : i0 < xs.length
      · have hlq : k < xs.length := by omega
        have hlp : k < (xs.drop n).length := by omega
        obtain ⟨ad, rfl, hb0, hc⟩ := (HG.out.rd HX.out).at_ hlt
        obtain ⟨bd, hbd, hb1, hc2⟩ := (HG.out.rd HX.out).at_ hlq
        cases hbd
        obtain ⟨x, hx⟩ : ∃ x, x = xs[i0] := ⟨_, rfl⟩
        obtain ⟨y, hy⟩ : ∃ y, y = xs[k] := ⟨_, rfl⟩
        rw [← hx] at hc
        rw [← hy] at hc2
        have HXX := Lib.hid (show x = (xs.drop n)[k] by rw [hx, List.getElem_drop]; subst hik; rfl)
        have HYY := Lib.hid hy
        have hltd : decide ((i0 : Int) < (xs.length : Int)) = true := decide_eq_true (by omega)
        have b3 : (i0 : Int) < (xs.length : Int) := by omega
        have b4 : (k : Int) < (xs.length : Int) := by omega
        clear hx hy hik
        have C1 := Lib.hid (old_cell HG.out hb0 hc)
        have C2 := Lib.hid (old_cell HG.out hb1 hc2)
        go_wp2
        go_region_held_law (fun w' => w'.cell? (ad.add i0) = some (.float .f32 x) ∧ w'.cell? (ad.add k) = some (.float .f32 y)) (first | go_keep | exact ⟨gath_cell (by assumption) C1, gath_cell (by assumption) C2⟩) (first | (refine upon_farith _ rfl _ .f32 _ _ ?_; intro r n hr) | (refine step_push w _ _ _ _ (Lib.hid (HG.out.drewN _)) hrk rfl _ _ rfl rfl rfl ?_; intro v' w' HG'))
        all_goals
          have hs' := Lib.hid (less_step hlp hlq HRS.out HXX.out HYY.out (by assumption))
          go_wp2
          go_roundw
          case rel => exact ⟨i0 + 1, k + 1, by have := HIK.out; omega, by omega, by go_num, Lib.hid ⟨_, hs'.out, HG'.out⟩⟩
          case measure => simp [intOf]; omega
      · have hkk : k = (xs.drop n).length := by omega
        have HD := Lib.hid (less_done (by omega) (by omega) (by omega) HRS.out)
        have hrl2 : rs.length ≤ 1048576 := by
          have := less_cnt (by omega) (by omega) HRS.out
          omega
        clear hkk hik HRS
        go_wp2_with fail
        obtain ⟨A', c', rfl, ho⟩ := own_shape HG.out.own
        have HO := Lib.hid ho
        clear ho
        refine (spec_l02List rs _ _ _ _ (by exact HO.out.rd) hrl2).mono ?_
        rintro e w' ⟨m2, v2, hv, rfl, rfl⟩
        have HH := Lib.hid (handed (w := w) HD.out (by exact HO.out) HG.out.below m2 hv)
        clear hv
        go_wp2
        go_ret2
        exact HH.out

end Go.Proofs.Ytjlkkamcflijjaa.Mo