/- The walks: JoinSteps. -/
import Derived.Test.YtjlkkamcflijjaaMm
import Derived.Test.YtjlkkamcflijjaaMo
namespace Go.Proofs.Ytjlkkamcflijjaa.Mr
open Go Go.RowKit Fl WA WB Md Me Mf Mi Mj Mk Ml Mm Mo
set_option linter.unusedVariables false
/-- The first k sums of n numbers each. -/
def joinV (xs : List Nat) (n k : Nat) : List (Option Nat) := (List.range k).map fun t => sumV ((xs.drop (t * n)).take n)
def joinO (xs : List Nat) (a : Int) : List (Option Nat) := joinV xs a.toNat (xs.length / a.toNat)
theorem join_len (xs : List Nat) (n k : Nat) : (joinV xs n k).length = k := by simp [joinV]
theorem join_cnt {xs rs : List Nat} {n k : Nat} (h : rs.map (fl .f32) = joinV xs n k) : rs.length = k := by
  have := congrArg List.length h
  rwa [List.length_map, join_len] at this
theorem join_step {xs rs : List Nat} {n k i r : Nat} (h : rs.map (fl .f32) = joinV xs n k) (hi : i = k * n) (hr : FV .f32 (sumV ((xs.drop i).take n)) r) : (rs ++ [r]).map (fl .f32) = joinV xs n (k + 1) := by
  subst hi
  unfold joinV at h ⊢
  rw [List.range_succ, List.map_append, List.map_append, h, List.map_cons, List.map_nil, hr.1]; rfl
theorem join_done {xs : List Nat} {n k i : Nat} (hn : 1 ≤ n) (hi : i = k * n) (h1 : i ≤ xs.length) (h2 : ¬ i + n ≤ xs.length) : k = xs.length / n := by
  subst hi
  refine (Nat.div_eq_of_lt_le h1 ?_).symm
  rw [Nat.add_mul, Nat.one_mul]; omega
def JoinR (xs : List Nat) (n : Nat) (w : World) (i : Nat) (v : Value) (wr : World) : Prop := ∃ rs k, i = k * n ∧ k ≤ i ∧ rs.map (fl .f32) = joinV xs n k ∧ Gath w wr v rs
def JoinP (xs : List Nat) (a : Int) (w : World) (e : Ending) (w' : World) : Prop := RetL (joinO xs a) (perB xs a && allO (joinO xs a)) w e w'
theorem Rd.sub {w : World} {B : Nat} {ad : Addr} {xs : List Nat} (h : Rd w B (some ad) xs) (i n : Nat) : Rd w B (some (ad.add i)) ((xs.drop i).take n) := fun hn => by
  obtain ⟨ad', e, hb, hc⟩ := (Mo.Rd.drop h i) (by intro e; rw [e] at hn; simp at hn)
  cases e
  refine ⟨_, rfl, hb, fun j x hx => hc j x ?_⟩
  rw [List.getElem?_take] at hx
  split at hx
  · exact hx
  · cases hx

set_option maxHeartbeats 2000000 in
theorem impl_JoinSteps (xs : List Nat) (A : Option Addr) (c : Nat) (w : World) (hx : Rd w w.heap.size A xs) (hl : xs.length ≤ 1048576) (a : Int) (hcap : xs.length ≤ c) : Calls Try.prog 37 #[.slice A xs.length c, .int .i64 a] w (JoinP xs a w) := by
  have HX := Lib.hid hx
  clear hx
  cases hp : perB xs a
  · have HP := Lib.hid hp
    unfold JoinP
    rw [hp, Bool.false_and]
    clear hp
    go_enter Try.func37, Try.ntmps37
    go_wp2_with fail
    refine (impl_isPeriodOf xs A c _ (by exact HX.out) hl a).mono ?_
    rw [HP.out]
    rintro e w' ⟨m, rfl, rfl⟩
    go_wp2
    go_ret2
    exact RetL.no _
  · obtain ⟨n, rfl⟩ := per_int hp
    obtain ⟨hs, hn, hnl⟩ := per_yes hp
    have HP := Lib.hid hp
    unfold JoinP
    rw [hp, Bool.true_and]
    clear hp hs
    obtain ⟨ad, hA⟩ : ∃ ad, A = some ad := by
      obtain ⟨ad, h, _⟩ := HX.out (by intro e; subst e; simp at hnl; omega)
      exact ⟨ad, h⟩
    subst hA
    go_enter Try.func37, Try.ntmps37
    go_wp2_with fail
    refine (impl_isPeriodOf xs _ c _ (by exact HX.out) hl n).mono ?_
    rw [HP.out]
    rintro e w' ⟨m, rfl, rfl⟩
    go_wp2
    go_loopw [6, 7] (fun v i wr => ∃ i0 : Nat, i0 ≤ xs.length ∧ i = .int .i64 ((i0 + n : Nat) : Int) ∧ Hid (JoinR xs n w i0 v wr)) (fun _ i _ => xs.length + n - (intOf i).toNat)
    case atStart => exact ⟨0, by omega, by go_num, Lib.hid ⟨[], 0, by simp, by omega, rfl, gath_empty _⟩⟩
    case round =>
      obtain ⟨i0, hi0, rfl, HJ⟩ := hrel
      obtain ⟨rs, k, hik, hki, hrs, hgath⟩ := HJ.out
      have hrl := join_cnt hrs
      have hrk : rs.length ≤ 1099511627776 := by omega
      have HIK := Lib.hid hik
      have HRS := Lib.hid hrs
      have HG := Lib.hid hgath
      clear HJ hrs hgath hik
      by_cases hlt : i0 + n ≤ xs.length
      · have hci : ¬ c = i0 := by omega
        have hsl : ((xs.drop i0).take n).length = n := by simp; omega
        have HSL := Lib.hid hsl
        clear hsl
        go_wp2_with fail
        have hcall := impl_addUp ((xs.drop i0).take n) (some (ad.add i0)) (c - i0) _ w.heap.size (by exact Mr.Rd.sub (HG.out.rd HX.out) i0 n) (by rw [HSL.out]; omega)
        rw [HSL.out] at hcall
        refine hcall.mono ?_
        rintro e w' ⟨r, m2, hr, rfl, rfl⟩
        have hs' := Lib.hid (join_step HRS.out HIK.out hr)
        clear hr hcall
        go_wp2_with (at_builtin; refine wpList_push w _ _ r _ (Lib.hid (HG.out.drewN _)) hrk rfl _ _ rfl rfl rfl ?_; intro v' w' HG')
        go_roundw
        case rel => exact ⟨i0 + n, by omega, by go_num, Lib.hid ⟨_, k + 1, by rw [Nat.add_mul, Nat.one_mul, ← HIK.out], by omega, hs'.out, HG'.out⟩⟩
        case measure => simp [intOf]; omega
      · have hd := join_done hn HIK.out hi0 hlt
        have HE := Lib.hid (show rs.map (fl .f32) = joinO xs (n : Int) by rw [HRS.out, hd]; rfl)
        clear hd HRS HIK
        go_wp2_with fail
        obtain ⟨A', c', rfl, ho⟩ := own_shape HG.out.own
        have HO := Lib.hid ho
        clear ho
        refine (impl_ifAll rs _ _ _ _ (by exact HO.out.rd) (by omega)).mono ?_
        rintro e w' ⟨m2, v2, hv, rfl, rfl⟩
        have HH := Lib.hid (handed HE.out (by exact HO.out) HG.out.below m2 hv)
        clear hv
        go_wp2
        go_ret2
        exact HH.out

set_option maxHeartbeats 2000000 in
theorem spec_JoinSteps (xs : List Nat) (A : Option Addr) (c : Nat) (w : World) (hx : Rd w w.heap.size A xs) (hl : xs.length ≤ 1048576) (a : Int) (hcap : xs.length ≤ c) : Calls Try.prog 36 #[.slice A xs.length c, .int .i64 a] w (JoinP xs a w) := by
  have HX := Lib.hid hx
  clear hx
  cases hs : serB xs
  · have hp : perB xs a = false := by unfold perB; rw [hs]; rfl
    have HS := Lib.hid hs
    unfold JoinP
    rw [hp, Bool.false_and]
    clear hp hs
    go_enter Try.func36, Try.ntmps36
    go_wp2_with fail
    refine (spec_l02Series xs A c _ _ (by exact HX.out) hl).mono ?_
    rw [HS.out]
    rintro e w' ⟨m, rfl, rfl⟩
    go_wp2
    go_ret2
    exact RetL.no _
  have HS := Lib.hid hs
  have hp0 : perB xs a = (decide (1 ≤ a) && decide (a ≤ xs.length)) := by unfold perB; rw [hs]; rfl
  have HP0 := Lib.hid hp0
  clear hs hp0
  cases hp : perB xs a
  · have HP := Lib.hid (HP0.out.symm.trans hp)
    unfold JoinP
    rw [hp, Bool.false_and]
    clear hp
    go_enter Try.func36, Try.ntmps36
    go_wp2_with fail
    refine (spec_l02Series xs A c _ _ (by exact HX.out) hl).mono ?_
    rw [HS.out]
    rintro e w' ⟨m, rfl, rfl⟩
    go_wp2_with fail
    refine (spec_l00In a 1 xs.length _).mono ?_
    rw [HP.out]
    rintro e w' ⟨rfl, rfl⟩
    go_wp2
    go_ret2
    exact RetL.no _
  · obtain ⟨n, rfl⟩ := per_int hp
    obtain ⟨hs, hn, hnl⟩ := per_yes hp
    have HP := Lib.hid (HP0.out.symm.trans hp)
    unfold JoinP
    rw [hp, Bool.true_and]
    clear hp hs
    obtain ⟨ad, hA⟩ : ∃ ad, A = some ad := by
      obtain ⟨ad, h, _⟩ := HX.out (by intro e; subst e; simp at hnl; omega)
      exact ⟨ad, h⟩
    subst hA
    go_enter Try.func36, Try.ntmps36
    go_wp2_with fail
    refine (spec_l02Series xs _ c _ _ (by exact HX.out) hl).mono ?_
    rw [HS.out]
    rintro e w' ⟨m, rfl, rfl⟩
    go_wp2_with fail
    refine (spec_l00In n 1 xs.length _).mono ?_
    rw [HP.out]
    rintro e w' ⟨rfl, rfl⟩
    go_wp2
    go_loopw [6, 7] (fun v i wr => ∃ i0 : Nat, i0 ≤ xs.length ∧ i = .int .i64 ((i0 : Nat) : Int) ∧ Hid (JoinR xs n w i0 v wr)) (fun _ i _ => xs.length + n - (intOf i).toNat)
    case atStart => exact ⟨0, by omega, by go_num, Lib.hid ⟨[], 0, by simp, by omega, rfl, gath_empty _⟩⟩
    case round =>
      obtain ⟨i0, hi0, rfl, HJ⟩ := hrel
      obtain ⟨rs, k, hik, hki, hrs, hgath⟩ := HJ.out
      have hrl := join_cnt hrs
      have hrk : rs.length ≤ 1099511627776 := by omega
      have HIK := Lib.hid hik
      have HRS := Lib.hid hrs
      have HG := Lib.hid hgath
      clear HJ hrs hgath hik
      by_cases hlt : i0 + n ≤ xs.length
      · have hci : ¬ c = i0 := by omega
        have hsl : ((xs.drop i0).take n).length = n := by simp; omega
        have HSL := Lib.hid hsl
        clear hsl
        go_wp2_with fail
        have hcall := spec_l02Sum ((xs.drop i0).take n) (some (ad.add i0)) (c - i0) _ w.heap.size (by exact Mr.Rd.sub (HG.out.rd HX.out) i0 n) (by rw [HSL.out]; omega)
        rw [HSL.out] at hcall
        refine hcall.mono ?_
        rintro e w' ⟨r, m2, hr, rfl, rfl⟩
        have hs' := Lib.hid (join_step HRS.out HIK.out hr)
        clear hr hcall
        go_wp2_with (at_builtin; refine wpList_push w _ _ r _ (Lib.hid (HG.out.drewN _)) hrk rfl _ _ rfl rfl rfl ?_; intro v' w' HG')
        go_roundw
        case rel => exact ⟨i0 + n, by omega, by go_num, Lib.hid ⟨_, k + 1, by rw [Nat.add_mul, Nat.one_mul, ← HIK.out], by omega, hs'.out, HG'.out⟩⟩
        case measure => simp [intOf]; omega
      · have hd := join_done hn HIK.out hi0 hlt
        have HE := Lib.hid (show rs.map (fl .f32) = joinO xs (n : Int) by rw [HRS.out, hd]; rfl)
        clear hd HRS HIK
        go_wp2_with fail
        obtain ⟨A', c', rfl, ho⟩ := own_shape HG.out.own
        have HO := Lib.hid ho
        clear ho
        refine (spec_l02List rs _ _ _ _ (by exact HO.out.rd) (by omega)).mono ?_
        rintro e w' ⟨m2, v2, hv, rfl, rfl⟩
        have HH := Lib.hid (handed HE.out (by exact HO.out) HG.out.below m2 hv)
        clear hv
        go_wp2
        go_ret2
        exact HH.out

end Go.Proofs.Ytjlkkamcflijjaa.Mr