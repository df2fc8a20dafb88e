/- The walks: ThinSteps. -/
import Derived.Test.YtjlkkamcflijjaaMl
namespace Go.Proofs.Ytjlkkamcflijjaa.Mm
open Go Go.RowKit Fl WA WB Md Me Mf Mi Mj Mk Ml
set_option linter.unusedVariables false
/-- The first k of each n-th number. -/
def thinV (xs : List Nat) (n k : Nat) : List Nat := (List.range k).map fun t => xs.getD (t * n) 0
def thinN (xs : List Nat) (n : Nat) : Nat := (xs.length + n - 1) / n
def thinO (xs : List Nat) (n : Nat) : List (Option Nat) := (thinV xs n (thinN xs n)).map (fl .f32)
theorem thin_len (xs : List Nat) (n k : Nat) : (thinV xs n k).length = k := by simp [thinV]
theorem thin_step {xs : List Nat} {n k i x : Nat} (hi : i = k * n) (hlt : i < xs.length) (hx : x = xs[i]) : thinV xs n k ++ [x] = thinV xs n (k + 1) := by
  subst hi
  unfold thinV
  rw [List.range_succ, List.map_append, List.map_cons, List.map_nil, List.getD_eq_getElem?_getD, List.getElem?_eq_getElem hlt, hx]; rfl
theorem thin_done {xs : List Nat} {n k i : Nat} (hn : 1 ≤ n) (hi : i = k * n) (hlt : ¬ i < xs.length) (hb : i < xs.length + n) : k = thinN xs n := by
  subst hi
  unfold thinN
  refine (Nat.div_eq_of_lt_le ?_ ?_).symm
  · omega
  · rw [Nat.add_mul, Nat.one_mul]; omega
def ThinR (xs : List Nat) (n : Nat) (w : World) (i : Nat) (v : Value) (wr : World) : Prop := ∃ k, i = k * n ∧ i < xs.length + n ∧ k ≤ i ∧ Gath w wr v (thinV xs n k)

theorem per_yes {xs : List Nat} {n : Nat} (h : perB xs n = true) : serB xs = true ∧ 1 ≤ n ∧ n ≤ xs.length := by
  unfold perB at h
  simp only [Bool.and_eq_true, decide_eq_true_eq] at h
  exact ⟨h.1, by omega, by omega⟩
theorem per_int {xs : List Nat} {a : Int} (h : perB xs a = true) : ∃ n : Nat, a = n := by
  unfold perB at h
  simp only [Bool.and_eq_true, decide_eq_true_eq] at h
  exact ⟨a.toNat, by omega⟩
def ThinP (xs : List Nat) (a : Int) (w : World) (e : Ending) (w' : World) : Prop := RetL (thinO xs a.toNat) (perB xs a) w e w'
set_option maxHeartbeats 1000000 in
theorem impl_ThinSteps (xs : List Nat) (A : Option Addr) (c : Nat) (w : World) (hx : Rd w w.heap.size A xs) (hl : xs.length ≤ 1048576) (a : Int) : Calls Try.prog 25 #[.slice A xs.length c, .int .i64 a] w (ThinP xs a w) := by
  have HX := Lib.hid hx
  clear hx
  cases hp : perB xs a
  · have HP := Lib.hid hp
    unfold ThinP
    rw [hp]
    clear hp
    go_enter Try.func25, Try.ntmps25
    go_wp2_with fail
    refine (impl_isPeriodOf xs A c _ (by exact HX.out) hl a).mono ?_
    rw [HP.out]
    rintro e w' ⟨m, rfl, rfl⟩
    go_wp2
    go_ret2
    exact RetL.no _
  · obtain ⟨n, rfl⟩ := per_int hp
    obtain ⟨hs, hn, hnl⟩ := per_yes hp
    have HP := Lib.hid hp
    unfold ThinP
    rw [hp]
    have HS := Lib.hid hs
    clear hp hs
    go_enter Try.func25, Try.ntmps25
    go_wp2_with fail
    refine (impl_isPeriodOf xs A c _ (by exact HX.out) hl n).mono ?_
    rw [HP.out]
    rintro e w' ⟨m, rfl, rfl⟩
    go_wp2
    go_loopw [6, 7] (fun v i wr => ∃ j : Nat, i = .int .i64 j ∧ j < xs.length + n ∧ Hid (ThinR xs n w j v wr)) (fun _ i _ => xs.length + n - (intOf i).toNat)
    case atStart => exact ⟨0, rfl, by omega, Lib.hid ⟨0, by simp, by omega, by omega, gath_empty _⟩⟩
    case round =>
      obtain ⟨j, rfl, hjn, HJ⟩ := hrel
      obtain ⟨k, hk, hb, hki, hgath⟩ := HJ.out
      have HK := Lib.hid hk
      have HG := Lib.hid hgath
      clear HJ hk hgath
      by_cases hlt : j < xs.length
      · obtain ⟨ad, rfl, hb0, hc⟩ := (HG.out.rd HX.out).at_ hlt
        obtain ⟨x, hx⟩ : ∃ x, x = xs[j] := ⟨_, rfl⟩
        rw [← hx] at hc
        have HXX := Lib.hid hx
        clear hx
        go_wp2_with (at_builtin; refine wpList_push w _ _ x _ HG (by rw [thin_len]; omega) rfl _ _ rfl rfl rfl ?_; intro v' w' HG')
        rw [thin_step HK.out hlt HXX.out] at HG'
        go_roundw
        case rel => exact ⟨j + n, by go_num, by omega, Lib.hid ⟨k + 1, by rw [Nat.add_mul, Nat.one_mul, ← HK.out], by omega, by omega, HG'.out⟩⟩
        case measure => simp [intOf]; omega
      · have hd := thin_done hn HK.out hlt hb
        rw [hd] at HG
        have HE := Lib.hid HG.out
        clear hd HG
        go_wp2
        go_ret2
        exact HE.out.retL rfl

set_option maxHeartbeats 1000000 in
theorem spec_ThinSteps (xs : List Nat) (A : Option Addr) (c : Nat) (w : World) (hx : Rd w w.heap.size A xs) (hl : xs.length ≤ 1048576) (a : Int) : Calls Try.prog 24 #[.slice A xs.length c, .int .i64 a] w (ThinP xs a w) := by
  have HX := Lib.hid hx
  clear hx
  cases hs : serB xs
  · have hp : perB xs a = false := by unfold perB; rw [hs]; rfl
    have HS := Lib.hid hs
    unfold ThinP
    rw [hp]
    clear hp hs
    go_enter Try.func24, Try.ntmps24
    go_wp2_with fail
    refine (spec_l02Series xs A c _ _ (by exact HX.out) hl).mono ?_
    rw [HS.out]
    rintro e w' ⟨m, rfl, rfl⟩
    go_wp2
    go_ret2
    exact RetL.no _
  have HS := Lib.hid hs
  have hp0 : perB xs a = (decide (1 ≤ a) && decide (a ≤ xs.length)) := by unfold perB; rw [hs]; rfl
  have HP0 := Lib.hid hp0
  clear hs hp0
  cases hp : perB xs a
  · have HP := Lib.hid (HP0.out.symm.trans hp)
    unfold ThinP
    rw [hp]
    clear hp
    go_enter Try.func24, Try.ntmps24
    go_wp2_with fail
    refine (spec_l02Series xs A c _ _ (by exact HX.out) hl).mono ?_
    rw [HS.out]
    rintro e w' ⟨m, rfl, rfl⟩
    go_wp2_with fail
    refine (spec_l00In a 1 xs.length _).mono ?_
    rw [HP.out]
    rintro e w' ⟨rfl, rfl⟩
    go_wp2
    go_ret2
    exact RetL.no _
  · obtain ⟨n, rfl⟩ := per_int hp
    obtain ⟨hs, hn, hnl⟩ := per_yes hp
    have HP := Lib.hid (HP0.out.symm.trans hp)
    unfold ThinP
    rw [hp]
    clear hp hs
    go_enter Try.func24, Try.ntmps24
    go_wp2_with fail
    refine (spec_l02Series xs A c _ _ (by exact HX.out) hl).mono ?_
    rw [HS.out]
    rintro e w' ⟨m, rfl, rfl⟩
    go_wp2_with fail
    refine (spec_l00In n 1 xs.length _).mono ?_
    rw [HP.out]
    rintro e w' ⟨rfl, rfl⟩
    go_wp2
    go_loopw [6, 7] (fun v i wr => ∃ j : Nat, i = .int .i64 j ∧ j < xs.length + n ∧ Hid (ThinR xs n w j v wr)) (fun _ i _ => xs.length + n - (intOf i).toNat)
    case atStart => exact ⟨0, rfl, by omega, Lib.hid ⟨0, by simp, by omega, by omega, gath_empty _⟩⟩
    case round =>
      obtain ⟨j, rfl, hjn, HJ⟩ := hrel
      obtain ⟨k, hk, hb, hki, hgath⟩ := HJ.out
      have HK := Lib.hid hk
      have HG := Lib.hid hgath
      clear HJ hk hgath
      by_cases hlt : j < xs.length
      · obtain ⟨ad, rfl, hb0, hc⟩ := (HG.out.rd HX.out).at_ hlt
        obtain ⟨x, hx⟩ : ∃ x, x = xs[j] := ⟨_, rfl⟩
        rw [← hx] at hc
        have HXX := Lib.hid hx
        clear hx
        go_wp2_with (at_builtin; refine wpList_push w _ _ x _ HG (by rw [thin_len]; omega) rfl _ _ rfl rfl rfl ?_; intro v' w' HG')
        rw [thin_step HK.out hlt HXX.out] at HG'
        go_roundw
        case rel => exact ⟨j + n, by go_num, by omega, Lib.hid ⟨k + 1, by rw [Nat.add_mul, Nat.one_mul, ← HK.out], by omega, by omega, HG'.out⟩⟩
        case measure => simp [intOf]; omega
      · have hd := thin_done hn HK.out hlt hb
        rw [hd] at HG
        have HE := Lib.hid HG.out
        clear hd HG
        go_wp2
        go_ret2
        exact HE.out.retL rfl

end Go.Proofs.Ytjlkkamcflijjaa.Mm