/- The walks: RanksOf. -/
import Derived.Test.YtjlkkamcflijjaaMo
namespace Go.Proofs.Ytjlkkamcflijjaa.Mq
open Go Go.RowKit Fl WA WB Md Me Mf Mi Mj Mk Ml Mo
set_option linter.unusedVariables false
attribute [local go_sem ↓] Go.wp_at_zero Go.wp_at_succ
def ltB (y x : Nat) : Bool := FloatKind.f32.format.order y x == some .lt
def eqB (y x : Nat) : Bool := FloatKind.f32.format.order y x == some .eq
/-- How many are less than x; how many are as great. -/
def lowN (ys : List Nat) (x : Nat) : Nat := (ys.filter (ltB · x)).length
def sameN (ys : List Nat) (x : Nat) : Nat := (ys.filter (eqB · x)).length
theorem low_le (ys : List Nat) (x : Nat) : lowN ys x ≤ ys.length := List.length_filter_le _ _
theorem same_le (ys : List Nat) (x : Nat) : sameN ys x ≤ ys.length := List.length_filter_le _ _
theorem low_step {ys : List Nat} {j y : Nat} (x : Nat) (hj : j < ys.length) (hy : y = ys[j]) : lowN (ys.take (j + 1)) x = lowN (ys.take j) x + (if ltB y x then 1 else 0) := by
  unfold lowN
  rw [List.take_succ_eq_append_getElem hj, List.filter_append, List.length_append, ← hy]
  cases h : ltB y x <;> simp [h]
theorem same_step {ys : List Nat} {j y : Nat} (x : Nat) (hj : j < ys.length) (hy : y = ys[j]) : sameN (ys.take (j + 1)) x = sameN (ys.take j) x + (if eqB y x then 1 else 0) := by
  unfold sameN
  rw [List.take_succ_eq_append_getElem hj, List.filter_append, List.length_append, ← hy]
  cases h : eqB y x <;> simp [h]
/-- Counting up by ones, in numbers. -/
theorem cnt_up : ∀ n : Fin 100, fop .add .f32 (cnt n.val) (some 1065353216) = cnt (n.val + 1) := by decide +kernel
theorem cnt_half : ∀ n : Fin 100, fop .mul .f32 (some 1056964608) (cnt n.val) = fop .quo .f32 (cnt n.val) (some 1073741824) := by decide +kernel
def rankV (ys : List Nat) (x : Nat) : Option Nat := fop .add .f32 (fop .add .f32 (cnt (lowN ys x)) (fop .quo .f32 (cnt (sameN ys x)) (some 1073741824))) (some 1056964608)
def rankO (ys : List Nat) (k : Nat) : List (Option Nat) := (ys.take k).map (rankV ys)
theorem rank_len {ys : List Nat} {k : Nat} (h : k ≤ ys.length) : (rankO ys k).length = k := by simp [rankO]; omega
theorem rank_cnt {ys rs : List Nat} {k : Nat} (hk : k ≤ ys.length) (h : rs.map (fl .f32) = rankO ys k) : rs.length = k := by
  have := congrArg List.length h
  rwa [List.length_map, rank_len hk] at this
theorem rank_step {ys rs : List Nat} {k x r : Nat} (hk : k < ys.length) (hx : x = ys[k]) (h : rs.map (fl .f32) = rankO ys k) (hr : FV .f32 (rankV ys x) r) : (rs ++ [r]).map (fl .f32) = rankO ys (k + 1) := by
  unfold rankO at h ⊢
  rw [List.map_append, h, List.take_succ_eq_append_getElem hk, List.map_append, List.map_cons, List.map_nil, List.map_cons, List.map_nil, hr.1, hx]
def RankR (ys : List Nat) (w : World) (k : Nat) (v : Value) (wr : World) : Prop := ∃ rs, rs.map (fl .f32) = rankO ys k ∧ Gath w wr v rs
def RankP (xs : List Nat) (w : World) (e : Ending) (w' : World) : Prop := RetL (rankO xs xs.length) (serB xs) w e w'
def RetCC (a b : Nat) (w : World) (e : Ending) (w' : World) : Prop := e = .returned (.tuple #[.float .f32 (floatOfInt .f32 (a : Int)), .float .f32 (floatOfInt .f32 (b : Int))]) ∧ w' = w
theorem ord_cases (y x : Nat) : (FloatKind.f32.format.order y x = some .lt ∧ ltB y x = true ∧ eqB y x = false) ∨ (FloatKind.f32.format.order y x = some .eq ∧ ltB y x = false ∧ eqB y x = true) ∨
    (FloatKind.f32.format.order y x = some .gt ∧ ltB y x = false ∧ eqB y x = false) ∨ (FloatKind.f32.format.order y x = none ∧ ltB y x = false ∧ eqB y x = false) := by
  unfold ltB eqB
  rcases h : FloatKind.f32.format.order y x with _ | (_ | _ | _)
  · exact .inr (.inr (.inr ⟨rfl, rfl, rfl⟩))
  · exact .inl ⟨rfl, rfl, rfl⟩
  · exact .inr (.inl ⟨rfl, rfl, rfl⟩)
  · exact .inr (.inr (.inl ⟨rfl, rfl, rfl⟩))

set_option maxHeartbeats 2000000 in
theorem around_any (xs : List Nat) (A : Option Addr) (c : Nat) (w : World) (hx : Rd w w.heap.size A xs) (hl : xs.length ≤ 1048576) (x : Nat) : Calls Try.prog 55 #[.slice A xs.length c, .float .f32 x] w (RetCC (lowN xs x) (sameN xs x) w) := by
  have HX := Lib.hid hx
  clear hx
  go_enter Try.func55, Try.ntmps55
  go_wp2
  go_loopw [6, 7, 12] (fun b q i wr => ∃ j nb nq : Nat, j ≤ xs.length ∧ i = .int .i64 j ∧ b = .int .i64 nb ∧ q = .int .i64 nq ∧ nb ≤ j ∧ nq ≤ j ∧ Hid (nb = lowN (xs.take j) x ∧ nq = sameN (xs.take j) x) ∧ wr = w) (fun _ _ i _ => xs.length - (intOf i).toNat)
  case atStart => exact ⟨0, 0, 0, by omega, rfl, rfl, rfl, by omega, by omega, Lib.hid ⟨rfl, rfl⟩, rfl⟩
  case round =>
    obtain ⟨j, nb, nq, hj, rfl, rfl, rfl, hb, hq, HN, rfl⟩ := hrel
    by_cases hlt : j < xs.length
    · obtain ⟨ad, rfl, hb0, hc⟩ := HX.out.at_ hlt
      obtain ⟨y, hy⟩ : ∃ y, y = xs[j] := ⟨_, rfl⟩
      rw [← hy] at hc
      have HL := Lib.hid (low_step x hlt hy)
      have HS := Lib.hid (same_step x hlt hy)
      clear hy
      rcases ord_cases y x with ⟨ho, h1, h2⟩ | ⟨ho, h1, h2⟩ | ⟨ho, h1, h2⟩ | ⟨ho, h1, h2⟩
      · rw [h1, ← HN.out.1] at HL
        rw [h2, ← HN.out.2] at HS
        clear h1 h2
        go_wp2
        go_roundw
        case rel => exact ⟨j + 1, nb + 1, nq, by omega, by go_num, by go_num, rfl, by omega, by omega, Lib.hid ⟨HL.out.symm, HS.out.symm⟩, by first | trivial | rfl⟩
        case measure => simp [intOf]; omega
      · rw [h1, ← HN.out.1] at HL
        rw [h2, ← HN.out.2] at HS
        clear h1 h2
        go_wp2
        go_roundw
        case rel => exact ⟨j + 1, nb, nq + 1, by omega, by go_num, rfl, by go_num, by omega, by omega, Lib.hid ⟨HL.out.symm, HS.out.symm⟩, by first | trivial | rfl⟩
        case measure => simp [intOf]; omega
      · rw [h1, ← HN.out.1] at HL
        rw [h2, ← HN.out.2] at HS
        clear h1 h2
        go_wp2
        go_roundw
        case rel => exact ⟨j + 1, nb, nq, by omega, by go_num, rfl, rfl, by omega, by omega, Lib.hid ⟨HL.out.symm, HS.out.symm⟩, by first | trivial | rfl⟩
        case measure => simp [intOf]; omega
      · rw [h1, ← HN.out.1] at HL
        rw [h2, ← HN.out.2] at HS
        clear h1 h2
        go_wp2
        go_roundw
        case rel => exact ⟨j + 1, nb, nq, by omega, by go_num, rfl, rfl, by omega, by omega, Lib.hid ⟨HL.out.symm, HS.out.symm⟩, by first | trivial | rfl⟩
        case measure => simp [intOf]; omega
    · have hjl : j = xs.length := by omega
      have HE := Lib.hid (show nb = lowN xs x ∧ nq = sameN xs x by have := HN.out; rw [hjl, List.take_length] at this; exact this)
      clear hjl
      go_wp2
      go_ret2
      exact ⟨by rw [HE.out.1, HE.out.2]; rfl, rfl⟩

theorem rank_fv {ys : List Nat} {x p q r : Nat} (hp : FV .f32 (fop .quo .f32 (fl .f32 (floatOfInt .f32 (sameN ys x : Int))) (fl .f32 1073741824)) p) (hq : FV .f32 (fop .add .f32 (fl .f32 (floatOfInt .f32 (lowN ys x : Int))) (fl .f32 p)) q)
    (hr : FV .f32 (fop .add .f32 (fl .f32 q) (fl .f32 1056964608)) r) : FV .f32 (rankV ys x) r := by
  refine ⟨?_, hr.2⟩
  rw [hr.1, hq.1, hp.1, fl_cnt, fl_cnt]; rfl
set_option maxHeartbeats 2000000 in
theorem impl_RanksOf (xs : List Nat) (A : Option Addr) (c : Nat) (w : World) (hx : Rd w w.heap.size A xs) (hl : xs.length ≤ 1048576) : Calls Try.prog 35 #[.slice A xs.length c] w (RankP xs w) := by
  have HX := Lib.hid hx
  clear hx
  cases hs : serB xs
  · have HS := Lib.hid hs
    unfold RankP
    rw [hs]
    clear hs
    go_enter Try.func35, Try.ntmps35
    go_wp2_with fail
    refine (impl_IsSeries xs A c _ _ (by exact HX.out) hl).mono ?_
    rw [HS.out]
    rintro e w' ⟨m, rfl, rfl⟩
    go_wp2
    go_ret2
    exact RetL.no _
  · have HS := Lib.hid hs
    unfold RankP
    rw [hs]
    clear hs
    go_enter Try.func35, Try.ntmps35
    go_wp2_with fail
    refine (impl_IsSeries xs A c _ _ (by exact HX.out) hl).mono ?_
    rw [HS.out]
    rintro e w' ⟨m, rfl, rfl⟩
    go_wp2
    go_loopw [4, 15] (fun v i wr => ∃ j : Nat, j ≤ xs.length ∧ i = .int .i64 j ∧ Hid (RankR xs w j v wr)) (fun _ i _ => xs.length - (intOf i).toNat)
    case atStart => exact ⟨0, by omega, rfl, Lib.hid ⟨[], rfl, gath_empty _⟩⟩
    case round =>
      obtain ⟨j, hj, rfl, HJ⟩ := hrel
      obtain ⟨rs, hrs, hgath⟩ := HJ.out
      have hrl := rank_cnt hj hrs
      have hrk : rs.length ≤ 1099511627776 := by omega
      have HRS := Lib.hid hrs
      have HG := Lib.hid hgath
      clear HJ hrs hgath
      by_cases hlt : j < xs.length
      · obtain ⟨ad, rfl, hb0, hc⟩ := (HG.out.rd HX.out).at_ hlt
        obtain ⟨x, hx⟩ : ∃ x, x = xs[j] := ⟨_, rfl⟩
        rw [← hx] at hc
        have HXX := Lib.hid hx
        clear hx
        go_wp2_with fail
        refine (around_any xs _ c _ (by exact (HG.out.rd HX.out).more HG.out.below.size) hl x).mono ?_
        rintro e w' ⟨rfl, rfl⟩
        go_wp2_with (first | (refine wpList_farith _ _ _ _ _ rfl rfl rfl _ _ _ rfl rfl ?_; intro r n hr) | (at_builtin; refine wpList_push w _ _ _ _ (Lib.hid (by first | exact HG.out.drewN _ | exact (HG.out.drewN _).drewN _ | exact ((HG.out.drewN _).drewN _).drewN _)) hrk rfl _ _ rfl rfl rfl ?_; intro v' w' HG'))
        have hs' := Lib.hid (rank_step hlt HXX.out HRS.out (rank_fv (by assumption) (by assumption) (by assumption)))
        go_roundw
        case rel => exact ⟨j + 1, by omega, by go_num, Lib.hid ⟨_, hs'.out, HG'.out⟩⟩
        case measure => simp [intOf]; omega
      · have hjl : j = xs.length := by omega
        rw [hjl] at HRS
        clear hjl hrl hrk
        go_wp2
        go_ret2
        exact HG.out.retL HRS.out

theorem cnt_more {n r : Nat} {b : Bool} {a : Nat} (hn : n < 100) (ha : FV .f32 (cnt n) a) (hr : FV .f32 (fop .add .f32 (fl .f32 a) (fl .f32 1065353216)) r) : FV .f32 (cnt (n + 1)) r := by
  refine ⟨?_, hr.2⟩
  rw [hr.1, ha.1, show fl .f32 1065353216 = some 1065353216 from rfl]
  exact cnt_up ⟨n, hn⟩
theorem rank_fv2 {ys : List Nat} {x a b p q r : Nat} (hl : ys.length ≤ 96) (ha : FV .f32 (cnt (lowN ys x)) a) (hb : FV .f32 (cnt (sameN ys x)) b) (hp : FV .f32 (fop .mul .f32 (fl .f32 1056964608) (fl .f32 b)) p)
    (hq : FV .f32 (fop .add .f32 (fl .f32 a) (fl .f32 p)) q) (hr : FV .f32 (fop .add .f32 (fl .f32 q) (fl .f32 1056964608)) r) : FV .f32 (rankV ys x) r := by
  refine ⟨?_, hr.2⟩
  have h1 : sameN ys x < 100 := by have := same_le ys x; omega
  have h2 := cnt_half ⟨_, h1⟩
  rw [hr.1, hq.1, hp.1, ha.1, hb.1, show fl .f32 1056964608 = some 1056964608 from rfl, h2]; rfl
def RankI (ys : List Nat) (x : Nat) (k a b : Nat) : Prop := FV .f32 (cnt (lowN (ys.take k) x)) a ∧ FV .f32 (cnt (sameN (ys.take k) x)) b
theorem low_up {ys : List Nat} {x k y a r : Nat} (hl : ys.length ≤ 96) (hk : k < ys.length) (hy : y = ys[k]) (h : ltB y x = true) (ha : FV .f32 (cnt (lowN (ys.take k) x)) a) (hr : FV .f32 (fop .add .f32 (fl .f32 a) (fl .f32 1065353216)) r) : FV .f32 (cnt (lowN (ys.take (k + 1)) x)) r := by
  rw [low_step x hk hy, h]
  exact cnt_more (b := true) (by have := low_le (ys.take k) x; rw [List.length_take] at this; omega) ha hr
theorem low_stay {ys : List Nat} {x k y a : Nat} (hk : k < ys.length) (hy : y = ys[k]) (h : ltB y x = false) (ha : FV .f32 (cnt (lowN (ys.take k) x)) a) : FV .f32 (cnt (lowN (ys.take (k + 1)) x)) a := by
  rw [low_step x hk hy, h]; exact ha
theorem same_up {ys : List Nat} {x k y a r : Nat} (hl : ys.length ≤ 96) (hk : k < ys.length) (hy : y = ys[k]) (h : eqB y x = true) (ha : FV .f32 (cnt (sameN (ys.take k) x)) a) (hr : FV .f32 (fop .add .f32 (fl .f32 a) (fl .f32 1065353216)) r) : FV .f32 (cnt (sameN (ys.take (k + 1)) x)) r := by
  rw [same_step x hk hy, h]
  exact cnt_more (b := true) (by have := same_le (ys.take k) x; rw [List.length_take] at this; omega) ha hr
theorem same_stay {ys : List Nat} {x k y a : Nat} (hk : k < ys.length) (hy : y = ys[k]) (h : eqB y x = false) (ha : FV .f32 (cnt (sameN (ys.take k) x)) a) : FV .f32 (cnt (sameN (ys.take (k + 1)) x)) a := by
  rw [same_step x hk hy, h]; exact ha
def RetVV (O : List (Option Nat)) (w : World) (e : Ending) (w' : World) : Prop := RetV O w e w'

set_option maxHeartbeats 4000000 in
theorem spec_l02Ranks (xs : List Nat) (A : Option Addr) (c : Nat) (w : World) (hx : Rd w w.heap.size A xs) (hl : xs.length ≤ 1048576) (h96 : xs.length ≤ 96) : Calls Try.prog 54 #[.slice A xs.length c] w (RetV (rankO xs xs.length) w) := by
  have HX := Lib.hid hx
  clear hx
  go_enter Try.func54, Try.ntmps54
  go_wp2
  go_loopw [3, 4] (fun v i wr => ∃ j : Nat, j ≤ xs.length ∧ i = .int .i64 j ∧ Hid (RankR xs w j v wr)) (fun _ i _ => xs.length - (intOf i).toNat)
  case atStart => exact ⟨0, by omega, rfl, Lib.hid ⟨[], rfl, gath_empty 0⟩⟩
  case round =>
    obtain ⟨j, hj, rfl, HJ⟩ := hrel
    obtain ⟨rs, hrs, hgath⟩ := HJ.out
    have hrl := rank_cnt hj hrs
    have hrk : rs.length ≤ 1099511627776 := by omega
    have HRS := Lib.hid hrs
    have HG := Lib.hid hgath
    clear HJ hrs hgath hrl
    by_cases hlt : j < xs.length
    · obtain ⟨ad, rfl, hb0, hc⟩ := (HG.out.rd HX.out).at_ hlt
      obtain ⟨x, hx⟩ : ∃ x, x = xs[j] := ⟨_, rfl⟩
      rw [← hx] at hc
      have HXX := Lib.hid hx
      clear hx
      have b1 : (0 : Int) ≤ (j : Int) := by omega
      have b2 : (j : Int) < (xs.length : Int) := by omega
      go_wp2
      go_loopw [5, 6, 7] (fun a b q wz => ∃ k ra rb N : Nat, k ≤ xs.length ∧ q = .int .i64 k ∧ a = .float .f32 ra ∧ b = .float .f32 rb ∧ Hid (RankI xs x k ra rb) ∧ wz = wr.drewN N) (fun _ _ q _ => xs.length - (intOf q).toNat)
      case atStart => exact ⟨0, 0, 0, 0, by omega, rfl, rfl, rfl, Lib.hid ⟨⟨rfl, by decide⟩, ⟨rfl, by decide⟩⟩, rfl⟩
      case round =>
        obtain ⟨k, ra, rb, N, hk, rfl, rfl, rfl, HI, rfl⟩ := hrel
        by_cases hlk : k < xs.length
        · have hlkd : decide ((k : Int) < (xs.length : Int)) = true := decide_eq_true (by omega)
          obtain ⟨bd, hbd, hb1, hc2⟩ := (HG.out.rd HX.out).at_ hlk
          cases hbd
          obtain ⟨y, hy⟩ : ∃ y, y = xs[k] := ⟨_, rfl⟩
          rw [← hy] at hc2
          have HYY := Lib.hid hy
          clear hy
          have b3 : (0 : Int) ≤ (k : Int) := by omega
          have b4 : (k : Int) < (xs.length : Int) := by omega
          rcases ord_cases y x with ⟨ho, h1, h2⟩ | ⟨ho, h1, h2⟩ | ⟨ho, h1, h2⟩ | ⟨ho, h1, h2⟩
          · have H1 := Lib.hid h1
            have H2 := Lib.hid h2
            clear h1 h2
            go_wp2
            go_region_held (fun w' => w'.cell? (ad.add k) = some (.float .f32 y) ∧ w'.cell? (ad.add j) = some (.float .f32 x)) (go_keep) (fail)
            all_goals go_wp2_with (refine wpList_farith _ _ _ _ _ rfl rfl rfl _ _ _ rfl rfl ?_; intro r n hr)
            all_goals go_region_held (fun w' => w'.cell? (ad.add k) = some (.float .f32 y) ∧ w'.cell? (ad.add j) = some (.float .f32 x)) (go_keep) (fail)
            all_goals go_wp2
            all_goals
              go_roundw
              case rel => exact ⟨k + 1, _, _, _, by omega, by go_num, rfl, rfl, Lib.hid ⟨low_up h96 hlk HYY.out H1.out HI.out.1 (by assumption), same_stay hlk HYY.out H2.out HI.out.2⟩, rfl⟩
              case measure => simp [intOf]; omega
          · have H1 := Lib.hid h1
            have H2 := Lib.hid h2
            clear h1 h2
            go_wp2
            go_region_held (fun w' => w'.cell? (ad.add k) = some (.float .f32 y) ∧ w'.cell? (ad.add j) = some (.float .f32 x)) (go_keep) (fail)
            all_goals go_wp2
            all_goals go_region_held (fun w' => w'.cell? (ad.add k) = some (.float .f32 y) ∧ w'.cell? (ad.add j) = some (.float .f32 x)) (go_keep) (fail)
            all_goals go_wp2_with (refine wpList_farith _ _ _ _ _ rfl rfl rfl _ _ _ rfl rfl ?_; intro r n hr)
            all_goals
              go_roundw
              case rel => exact ⟨k + 1, _, _, _, by omega, by go_num, rfl, rfl, Lib.hid ⟨low_stay hlk HYY.out H1.out HI.out.1, same_up h96 hlk HYY.out H2.out HI.out.2 (by assumption)⟩, rfl⟩
              case measure => simp [intOf]; omega
          · have H1 := Lib.hid h1
            have H2 := Lib.hid h2
            clear h1 h2
            go_wp2
            go_region_held (fun w' => w'.cell? (ad.add k) = some (.float .f32 y) ∧ w'.cell? (ad.add j) = some (.float .f32 x)) (go_keep) (fail)
            all_goals go_wp2
            all_goals go_region_held (fun w' => w'.cell? (ad.add k) = some (.float .f32 y) ∧ w'.cell? (ad.add j) = some (.float .f32 x)) (go_keep) (fail)
            all_goals go_wp2
            all_goals
              go_roundw
              case rel => exact ⟨k + 1, _, _, _, by omega, by go_num, rfl, rfl, Lib.hid ⟨low_stay hlk HYY.out H1.out HI.out.1, same_stay hlk HYY.out H2.out HI.out.2⟩, rfl⟩
              case measure => simp [intOf]; omega
          · have H1 := Lib.hid h1
            have H2 := Lib.hid h2
            clear h1 h2
            go_wp2
            go_region_held (fun w' => w'.cell? (ad.add k) = some (.float .f32 y) ∧ w'.cell? (ad.add j) = some (.float .f32 x)) (go_keep) (fail)
            all_goals go_wp2
            all_goals go_region_held (fun w' => w'.cell? (ad.add k) = some (.float .f32 y) ∧ w'.cell? (ad.add j) = some (.float .f32 x)) (go_keep) (fail)
            all_goals go_wp2
            all_goals
              go_roundw
              case rel => exact ⟨k + 1, _, _, _, by omega, by go_num, rfl, rfl, Lib.hid ⟨low_stay hlk HYY.out H1.out HI.out.1, same_stay hlk HYY.out H2.out HI.out.2⟩, rfl⟩
              case measure => simp [intOf]; omega
        · have hkl : k = xs.length := by omega
          rw [hkl] at HI
          clear hkl
          have HE := Lib.hid (show FV .f32 (cnt (lowN xs x)) ra ∧ FV .f32 (cnt (sameN xs x)) rb by have := HI.out; unfold RankI at this; rw [List.take_length] at this; exact this)
          clear HI
          go_wp2_with (first | (refine wpList_farith _ _ _ _ _ rfl rfl rfl _ _ _ rfl rfl ?_; intro r n hr) | (at_builtin; refine wpList_push w _ _ _ _ (Lib.hid (by first | exact HG.out.drewN _ | exact (HG.out.drewN _).drewN _ | exact ((HG.out.drewN _).drewN _).drewN _ | exact (((HG.out.drewN _).drewN _).drewN _).drewN _)) hrk rfl _ _ rfl rfl rfl ?_; intro v' w' HG'))
          have hs' := Lib.hid (rank_step hlt HXX.out HRS.out (rank_fv2 h96 HE.out.1 HE.out.2 (by assumption) (by assumption) (by assumption)))
          go_roundw
          case rel => exact ⟨j + 1, by omega, by go_num, Lib.hid ⟨_, hs'.out, HG'.out⟩⟩
          case measure => simp [intOf]; omega
    · have hjl : j = xs.length := by omega
      rw [hjl] at HRS
      clear hjl hrk
      go_wp2
      go_ret
      exact HG.out.retV HRS.out

theorem ser_96 {xs : List Nat} (h : serB xs = true) : xs.length ≤ 96 := by
  unfold serB at h
  simp only [Bool.and_eq_true, decide_eq_true_eq] at h
  omega
theorem spec_RanksOf (xs : List Nat) (A : Option Addr) (c : Nat) (w : World) (hx : Rd w w.heap.size A xs) (hl : xs.length ≤ 1048576) : Calls Try.prog 34 #[.slice A xs.length c] w (RankP xs w) := by
  have HX := Lib.hid hx
  clear hx
  cases hs : serB xs
  · have HS := Lib.hid hs
    unfold RankP
    rw [hs]
    clear hs
    go_enter Try.func34, Try.ntmps34
    go_wp2_with fail
    refine (spec_l02Series xs A c _ _ (by exact HX.out) hl).mono ?_
    rw [HS.out]
    rintro e w' ⟨m, rfl, rfl⟩
    go_wp2
    go_ret2
    exact RetL.no _
  · have HS := Lib.hid hs
    have h96 := ser_96 hs
    unfold RankP
    rw [hs]
    clear hs
    go_enter Try.func34, Try.ntmps34
    go_wp2_with fail
    refine (spec_l02Series xs A c _ _ (by exact HX.out) hl).mono ?_
    rw [HS.out]
    rintro e w' ⟨m, rfl, rfl⟩
    go_wp2_with fail
    refine (spec_l02Ranks xs A c _ (by exact HX.out) hl h96).mono ?_
    rintro e w2 ⟨rs, A', c', hrs, rfl, ho, hb⟩
    have HR := Lib.hid (show RetL (rankO xs xs.length) true w (.returned (.tuple #[.slice A' rs.length c', .bool true])) w2 from ⟨rs, A', c', by simpa using hrs, rfl, ho, und' hb⟩)
    clear hrs ho hb
    go_wp2
    go_ret2
    exact HR.out

end Go.Proofs.Ytjlkkamcflijjaa.Mq