/- The walks: DotNumbers. -/
import Derived.Test.YtjlkkamcflijjaaMf
namespace Go.Proofs.Ytjlkkamcflijjaa.Mh
open Go Go.RowKit Fl WA WB Md Me Mf
set_option linter.unusedVariables false
def dotV (xs ys : List Nat) : Option Nat := (xs.zip ys).foldl (fun s p => fop .add .f32 s (fop .mul .f32 (fl .f32 p.1) (fl .f32 p.2))) (some 0)
theorem dot_step {xs ys : List Nat} {j s x y p r : Nat} (hj : j < xs.length) (hk : j < ys.length) (hs : FV .f32 (dotV (xs.take j) (ys.take j)) s) (hx : x = xs[j]) (hy : y = ys[j])
    (hp : FV .f32 (fop .mul .f32 (fl .f32 x) (fl .f32 y)) p) (hr : FV .f32 (fop .add .f32 (fl .f32 s) (fl .f32 p)) r) : FV .f32 (dotV (xs.take (j + 1)) (ys.take (j + 1))) r := by
  refine ⟨?_, hr.2⟩
  rw [hr.1, hs.1, hp.1, List.take_succ_eq_append_getElem hj, List.take_succ_eq_append_getElem hk, hx, hy]
  unfold dotV
  rw [List.zip_append (by rw [List.length_take, List.length_take]; omega), List.foldl_append]; rfl
theorem dot_zero (xs ys : List Nat) : FV .f32 (dotV (xs.take 0) (ys.take 0)) 0 := ⟨rfl, by decide⟩
theorem dot_done {xs ys : List Nat} {j s : Nat} (he : ys.length = xs.length) (hj : j ≤ xs.length) (hl : ¬ j < xs.length) (hs : FV .f32 (dotV (xs.take j) (ys.take j)) s) : FV .f32 (dotV xs ys) s := by
  obtain rfl : j = xs.length := by omega
  rw [List.take_length, ← he, List.take_length] at hs; exact hs

set_option maxHeartbeats 1000000 in
theorem spec_l01Dot (xs ys : List Nat) (A B : Option Addr) (c d : Nat) (w : World) (M : Nat) (hx : Rd w M A xs) (hy : Rd w M B ys) (hl : xs.length ≤ 1048576) (he : ys.length = xs.length) :
    Calls Try.prog 39 #[.slice A xs.length c, .slice B ys.length d] w (RetF .f32 (FV .f32 (dotV xs ys)) w) := by
  have HX := Lib.hid hx
  have HY := Lib.hid hy
  have HLE := Lib.hid he
  rw [he]
  clear hx hy he
  go_enter Try.func39, Try.ntmps39
  go_wp2
  go_loopw [5, 6] (fun s i wr => ∃ j r N : Nat, j ≤ xs.length ∧ i = .int .i64 j ∧ s = .float .f32 r ∧ FV .f32 (dotV (xs.take j) (ys.take j)) r ∧ wr = w.drewN N) (fun _ i _ => xs.length - (intOf i).toNat)
  case atStart => exact ⟨0, 0, 0, by omega, rfl, rfl, dot_zero xs ys, rfl⟩
  case round =>
    obtain ⟨j, s, N, hj, rfl, rfl, hs, rfl⟩ := hrel
    by_cases hlt : j < xs.length
    · have hly : j < ys.length := by rw [HLE.out]; exact hlt
      obtain ⟨ad, rfl, hb, hc⟩ := HX.out.at_ hlt
      obtain ⟨bd, rfl, hb2, hc2⟩ := HY.out.at_ hly
      obtain ⟨x, hx⟩ : ∃ x, x = xs[j] := ⟨_, rfl⟩
      obtain ⟨y, hy⟩ : ∃ y, y = ys[j] := ⟨_, rfl⟩
      rw [← hx] at hc
      rw [← hy] at hc2
      have HXX := Lib.hid hx
      have HYY := Lib.hid hy
      clear hx hy
      go_wp2
      go_region_held (fun w' => w'.cell? (ad.add j) = some (.float .f32 x) ∧ w'.cell? (bd.add j) = some (.float .f32 y)) (go_keep) ((refine upon_farith _ rfl _ .f32 _ _ ?_; intro r n hr))
      all_goals
        go_wp2
        go_roundw
        case rel => exact ⟨j + 1, _, _, by omega, by go_num, rfl, dot_step hlt hly hs HXX.out HYY.out (by assumption) (by assumption), rfl⟩
        case measure => simp [intOf]; omega
    · have hd := Lib.hid (dot_done HLE.out hj hlt hs)
      go_wp2
      go_ret
      exact ⟨_, _, hd.out, rfl, rfl⟩

theorem nof {xs ys : List Nat} (h : ¬ (xs.length ≤ 256 ∧ ys.length = xs.length)) : ¬ (xs.length : Int) ≤ 256 ∨ ((xs.length : Int) ≤ 256 ∧ ((xs.length : Int) != (ys.length : Int)) = true ∧ decide ((256 : Int) < (xs.length : Int)) = false) := by
  by_cases h1 : (xs.length : Int) ≤ 256
  · right
    refine ⟨h1, ?_, by simpa using h1⟩
    have : ¬ (xs.length : Int) = (ys.length : Int) := fun e => h ⟨by omega, by omega⟩
    simpa using this
  · exact .inl h1
set_option maxHeartbeats 1000000 in
theorem spec_Dot_yes (xs ys : List Nat) (A B : Option Addr) (c d : Nat) (w : World) (M : Nat) (hx : Rd w M A xs) (hy : Rd w M B ys) (hl : xs.length ≤ 1048576) (hl2 : ys.length ≤ 1048576) (h256 : (xs.length : Int) ≤ 256) (he : ys.length = xs.length) :
    Calls Try.prog 13 #[.slice A xs.length c, .slice B ys.length d] w (RetFB (FV .f32 (dotV xs ys)) true w) := by
  have HX := Lib.hid hx
  have HY := Lib.hid hy
  have HLE := Lib.hid he
  rw [he]
  clear hx hy he
  go_enter Try.func13, Try.ntmps13
  go_wp2_with (go_at_call 38; refine (spec_l01Few_any _ _ _ _ hl).mono ?_; rintro e w' ⟨rfl, rfl⟩)
  have hc := spec_l01Dot xs ys A B c d w M HX.out HY.out hl HLE.out
  rw [HLE.out] at hc
  refine hc.mono ?_
  rintro e w' ⟨r, n, hr, rfl, rfl⟩
  go_wp2
  go_ret2
  exact ⟨_, _, hr, rfl, rfl⟩
set_option maxHeartbeats 1000000 in
theorem spec_Dot_no (xs ys : List Nat) (A B : Option Addr) (c d : Nat) (w : World) (M : Nat) (hx : Rd w M A xs) (hy : Rd w M B ys) (hl : xs.length ≤ 1048576) (hl2 : ys.length ≤ 1048576) (h : ¬ (xs.length ≤ 256 ∧ ys.length = xs.length)) :
    Calls Try.prog 13 #[.slice A xs.length c, .slice B ys.length d] w (RetFB (· = 0) false w) := by
  clear hx hy
  rcases nof h with h1 | ⟨h1, h2, h3⟩
  · clear h
    go_enter Try.func13, Try.ntmps13
    go_wp2_with (go_at_call 38; refine (spec_l01Few_any _ _ _ _ hl).mono ?_; rintro e w' ⟨rfl, rfl⟩)
    go_ret2
    exact ⟨0, 0, rfl, rfl, rfl⟩
  · clear h
    go_enter Try.func13, Try.ntmps13
    go_wp2_with (go_at_call 38; refine (spec_l01Few_any _ _ _ _ hl).mono ?_; rintro e w' ⟨rfl, rfl⟩)
    go_ret2
    exact ⟨0, 0, rfl, rfl, rfl⟩
set_option maxHeartbeats 1000000 in
theorem impl_Dot_no (xs ys : List Nat) (A B : Option Addr) (c d : Nat) (w : World) (M : Nat) (hx : Rd w M A xs) (hy : Rd w M B ys) (hl : xs.length ≤ 1048576) (hl2 : ys.length ≤ 1048576) (h : ¬ (xs.length ≤ 256 ∧ ys.length = xs.length)) :
    Calls Try.prog 15 #[.slice A xs.length c, .slice B ys.length d] w (RetFB (· = 0) false w) := by
  clear hx hy
  rcases nof h with h1 | ⟨h1, h2, h3⟩
  · clear h
    go_enter Try.func15, Try.ntmps15
    go_wp2
    go_ret2
    exact ⟨0, 0, rfl, rfl, rfl⟩
  · clear h
    go_enter Try.func15, Try.ntmps15
    go_wp2
    go_ret2
    exact ⟨0, 0, rfl, rfl, rfl⟩
set_option maxHeartbeats 1000000 in
theorem impl_Dot_yes (xs ys : List Nat) (A B : Option Addr) (c d : Nat) (w : World) (M : Nat) (hx : Rd w M A xs) (hy : Rd w M B ys) (hl : xs.length ≤ 1048576) (hl2 : ys.length ≤ 1048576) (h256 : (xs.length : Int) ≤ 256) (he : ys.length = xs.length) :
    Calls Try.prog 15 #[.slice A xs.length c, .slice B ys.length d] w (RetFB (FV .f32 (dotV xs ys)) true w) := by
  have HX := Lib.hid hx
  have HY := Lib.hid hy
  have HLE := Lib.hid he
  rw [he]
  clear hx hy he
  go_enter Try.func15, Try.ntmps15
  go_wp2
  go_loopw [6, 20] (fun s i wr => ∃ j r N : Nat, j ≤ xs.length ∧ i = .int .i64 j ∧ s = .float .f32 r ∧ FV .f32 (dotV (xs.take j) (ys.take j)) r ∧ wr = w.drewN N) (fun _ i _ => xs.length - (intOf i).toNat)
  case atStart => exact ⟨0, 0, 0, by omega, rfl, rfl, dot_zero xs ys, rfl⟩
  case round =>
    obtain ⟨j, s, N, hj, rfl, rfl, hs, rfl⟩ := hrel
    by_cases hlt : j < xs.length
    · have hly : j < ys.length := by rw [HLE.out]; exact hlt
      obtain ⟨ad, rfl, hb, hc⟩ := HX.out.at_ hlt
      obtain ⟨bd, rfl, hb2, hc2⟩ := HY.out.at_ hly
      obtain ⟨x, hx⟩ : ∃ x, x = xs[j] := ⟨_, rfl⟩
      obtain ⟨y, hy⟩ : ∃ y, y = ys[j] := ⟨_, rfl⟩
      rw [← hx] at hc
      rw [← hy] at hc2
      have HXX := Lib.hid hx
      have HYY := Lib.hid hy
      clear hx hy
      go_wp2
      go_region_held (fun w' => w'.cell? (ad.add j) = some (.float .f32 x) ∧ w'.cell? (bd.add j) = some (.float .f32 y)) (go_keep) ((refine upon_farith _ rfl _ .f32 _ _ ?_; intro r n hr))
      all_goals
        go_wp2
        go_roundw
        case rel => exact ⟨j + 1, _, _, by omega, by go_num, rfl, dot_step hlt hly hs HXX.out HYY.out (by assumption) (by assumption), rfl⟩
        case measure => simp [intOf]; omega
    · have hd := Lib.hid (dot_done HLE.out hj hlt hs)
      go_wp2
      go_ret2
      exact ⟨_, _, hd.out, rfl, rfl⟩

end Go.Proofs.Ytjlkkamcflijjaa.Mh