/- The walks: RunningSums. -/
import Derived.Test.YtjlkkamcflijjaaMl
namespace Go.Proofs.Ytjlkkamcflijjaa.Mn
open Go Go.RowKit Fl WA WB Md Me Mf Mi Mj Mk Ml
set_option linter.unusedVariables false
/-- The first k running sums. -/
def runO (xs : List Nat) (k : Nat) : List (Option Nat) := (List.range k).map fun t => sumV (xs.take (t + 1))
def RunR (xs : List Nat) (w : World) (j : Nat) (v : Value) (wr : World) : Prop := ∃ rs, rs.map (fl .f32) = runO xs j ∧ Gath w wr v rs
theorem run_len {xs rs : List Nat} {k : Nat} (h : rs.map (fl .f32) = runO xs k) : rs.length = k := by
  have := congrArg List.length h
  simpa [runO] using this
theorem run_step {xs rs : List Nat} {j r : Nat} (h : rs.map (fl .f32) = runO xs j) (hr : FV .f32 (sumV (xs.take (j + 1))) r) : (rs ++ [r]).map (fl .f32) = runO xs (j + 1) := by
  unfold runO at h ⊢
  rw [List.range_succ, List.map_append, List.map_append, h, List.map_cons, List.map_nil, hr.1]; rfl

set_option maxHeartbeats 1000000 in
theorem spec_RunningSums (xs : List Nat) (A : Option Addr) (c : Nat) (w : World) (hx : Rd w w.heap.size A xs) (hl : xs.length ≤ 1048576) : Calls Try.prog 28 #[.slice A xs.length c] w (RetL (runO xs xs.length) (serB xs && allO (runO xs xs.length)) w) := by
  have HX := Lib.hid hx
  clear hx
  cases hs : serB xs
  · have HS := Lib.hid hs
    clear hs
    rw [Bool.false_and]
    go_enter Try.func28, Try.ntmps28
    go_wp2_with fail
    refine (spec_l02Series xs A c _ w.heap.size (by exact HX.out) hl).mono ?_
    rw [HS.out]
    rintro e w' ⟨m, rfl, rfl⟩
    go_wp2
    go_ret2
    exact RetL.no _
  · have HS := Lib.hid hs
    clear hs
    rw [Bool.true_and]
    go_enter Try.func28, Try.ntmps28
    go_wp2_with fail
    refine (spec_l02Series xs A c _ w.heap.size (by exact HX.out) hl).mono ?_
    rw [HS.out]
    rintro e w' ⟨m, rfl, rfl⟩
    go_wp2
    go_loopw [4, 5, 6] (fun v s i wr => ∃ j r : Nat, j ≤ xs.length ∧ i = .int .i64 j ∧ s = .float .f32 r ∧ FV .f32 (sumV (xs.take j)) r ∧ Hid (RunR xs w j v wr)) (fun _ _ i _ => xs.length - (intOf i).toNat)
    case atStart => exact ⟨0, 0, by omega, rfl, rfl, sum_zero xs, Lib.hid ⟨[], rfl, gath_empty _⟩⟩
    case round =>
      obtain ⟨j, s, hj, rfl, rfl, hs, HJ⟩ := hrel
      obtain ⟨rs, hrs, hgath⟩ := HJ.out
      have HRS := Lib.hid hrs
      have HG := Lib.hid hgath
      have hrl : rs.length = j := run_len hrs
      have hrk : rs.length ≤ 1099511627776 := by omega
      have HS0 := Lib.hid hs
      clear HJ hrs hgath hs
      by_cases hlt : j < xs.length
      · obtain ⟨ad, rfl, hb0, hc⟩ := (HG.out.rd HX.out).at_ hlt
        obtain ⟨x, hx⟩ : ∃ x, x = xs[j] := ⟨_, rfl⟩
        rw [← hx] at hc
        have HXX := Lib.hid hx
        clear hx
        go_wp2_with (first | (refine wpList_farith _ _ _ _ _ rfl rfl rfl _ _ _ rfl rfl ?_; intro r n hr) | (at_builtin; refine wpList_push w _ _ r _ (Lib.hid (HG.out.drewN n)) hrk rfl _ _ rfl rfl rfl ?_; intro v' w' HG'))
        have hs' := Lib.hid (sum_step hlt HS0.out HXX.out hr)
        clear hr
        go_roundw
        case rel => exact ⟨j + 1, _, by omega, by go_num, rfl, hs'.out, Lib.hid ⟨_, run_step HRS.out hs'.out, HG'.out⟩⟩
        case measure => simp [intOf]; omega
      · have hjl : j = xs.length := by omega
        rw [hjl] at HRS hrl
        clear hjl
        go_wp2_with fail
        obtain ⟨A', c', rfl, ho⟩ := own_shape HG.out.own
        have HO := Lib.hid ho
        clear ho
        refine (spec_l02List rs _ _ _ _ (by exact HO.out.rd) (by omega)).mono ?_
        rintro e w' ⟨m2, v2, hv, rfl, rfl⟩
        have HH := Lib.hid (handed HRS.out HO.out HG.out.below m2 hv)
        clear hv
        go_wp2
        go_ret2
        exact HH.out

set_option maxHeartbeats 1000000 in
theorem impl_RunningSums (xs : List Nat) (A : Option Addr) (c : Nat) (w : World) (hx : Rd w w.heap.size A xs) (hl : xs.length ≤ 1048576) : Calls Try.prog 29 #[.slice A xs.length c] w (RetL (runO xs xs.length) (serB xs && allO (runO xs xs.length)) w) := by
  have HX := Lib.hid hx
  clear hx
  cases hs : serB xs
  · have HS := Lib.hid hs
    clear hs
    rw [Bool.false_and]
    go_enter Try.func29, Try.ntmps29
    go_wp2_with fail
    refine (impl_IsSeries xs A c _ w.heap.size (by exact HX.out) hl).mono ?_
    rw [HS.out]
    rintro e w' ⟨m, rfl, rfl⟩
    go_wp2
    go_ret2
    exact RetL.no _
  · have HS := Lib.hid hs
    clear hs
    rw [Bool.true_and]
    go_enter Try.func29, Try.ntmps29
    go_wp2_with fail
    refine (impl_IsSeries xs A c _ w.heap.size (by exact HX.out) hl).mono ?_
    rw [HS.out]
    rintro e w' ⟨m, rfl, rfl⟩
    go_wp2
    go_loopw [4, 5, 14] (fun v s i wr => ∃ j r : Nat, j ≤ xs.length ∧ i = .int .i64 j ∧ s = .float .f32 r ∧ FV .f32 (sumV (xs.take j)) r ∧ Hid (RunR xs w j v wr)) (fun _ _ i _ => xs.length - (intOf i).toNat)
    case atStart => exact ⟨0, 0, by omega, rfl, rfl, sum_zero xs, Lib.hid ⟨[], rfl, gath_empty _⟩⟩
    case round =>
      obtain ⟨j, s, hj, rfl, rfl, hs, HJ⟩ := hrel
      obtain ⟨rs, hrs, hgath⟩ := HJ.out
      have HRS := Lib.hid hrs
      have HG := Lib.hid hgath
      have hrl : rs.length = j := run_len hrs
      have hrk : rs.length ≤ 1099511627776 := by omega
      have HS0 := Lib.hid hs
      clear HJ hrs hgath hs
      by_cases hlt : j < xs.length
      · obtain ⟨ad, rfl, hb0, hc⟩ := (HG.out.rd HX.out).at_ hlt
        obtain ⟨x, hx⟩ : ∃ x, x = xs[j] := ⟨_, rfl⟩
        rw [← hx] at hc
        have HXX := Lib.hid hx
        clear hx
        go_wp2_with (first | (refine wpList_farith _ _ _ _ _ rfl rfl rfl _ _ _ rfl rfl ?_; intro r n hr) | (at_builtin; refine wpList_push w _ _ r _ (Lib.hid (HG.out.drewN n)) hrk rfl _ _ rfl rfl rfl ?_; intro v' w' HG'))
        have hs' := Lib.hid (sum_step hlt HS0.out HXX.out hr)
        clear hr
        go_roundw
        case rel => exact ⟨j + 1, _, by omega, by go_num, rfl, hs'.out, Lib.hid ⟨_, run_step HRS.out hs'.out, HG'.out⟩⟩
        case measure => simp [intOf]; omega
      · have hjl : j = xs.length := by omega
        rw [hjl] at HRS hrl
        clear hjl
        go_wp2_with fail
        obtain ⟨A', c', rfl, ho⟩ := own_shape HG.out.own
        have HO := Lib.hid ho
        clear ho
        refine (impl_ifAll rs _ _ _ _ (by exact HO.out.rd) (by omega)).mono ?_
        rintro e w' ⟨m2, v2, hv, rfl, rfl⟩
        have HH := Lib.hid (handed HRS.out HO.out HG.out.below m2 hv)
        clear hv
        go_wp2
        go_ret2
        exact HH.out

end Go.Proofs.Ytjlkkamcflijjaa.Mn