/- The walks: same32, sameAll32. -/
import Derived.Test.YtomnhcogchceiaaMs
namespace Go.Proofs.Ytomnhcogchceiaa.Mt
open Go Go.RowKit Fl WA WB Md Me Mf Mi Mj Mk Ml Ms Fw
set_option linter.unusedVariables false
theorem quo_one {a v : Nat} (h : fl .f32 a = some v) : fop .quo .f32 (fl .f32 1065353216) (fl .f32 a) ≠ none := by
  have hn := (fl_some h).2
  rw [fop_fl]
  have h1 : FloatKind.f32.format.read 1065353216 = .number false 8388608 (-23) := by decide +kernel
  show ((FloatKind.f32.format.read 1065353216).quotient (FloatKind.f32.format.fractionBits + 2) (FloatKind.f32.format.read a)).map FloatKind.f32.format.write ≠ none
  rw [h1]
  cases hr : FloatKind.f32.format.read a with
  | nan s t => rw [hr] at hn; simp [Ieee.Datum.isNaN] at hn
  | infinity s => simp [Ieee.Datum.quotient]
  | number s m e =>
    simp only [Ieee.Datum.quotient]
    split <;> simp
theorem eq_same {v : Option Nat} {r1 r2 : Nat} (h1 : FV .f32 v r1) (h2 : FV .f32 v r2) (hv : v ≠ none) : FloatKind.f32.format.order r1 r2 = some .eq := by
  cases v with
  | none => exact absurd rfl hv
  | some u =>
    have e1 := (fl_some h1.1).1
    have e2 := (fl_some h2.1).1
    obtain rfl : r1 = r2 := by omega
    rw [order_self, (fl_some h1.1).2]; rfl
set_option maxHeartbeats 400000 in
theorem same32_yes (a b : Nat) (h : fl .f32 a = fl .f32 b) (w : World) : Calls Try.prog 11 #[.float .f32 a, .float .f32 b] w (Yes w) := by
  cases ha : fl .f32 a with
  | none =>
    have h0 : (FloatKind.f32.format.order a b == some .eq) = false := by rw [order_fl, ha]; rfl
    have h1 : (FloatKind.f32.format.order a a != some .eq) = true := by rw [order_self, fl_none ha]; rfl
    have h2 : (FloatKind.f32.format.order b b != some .eq) = true := by rw [order_self, fl_none (by rw [← h, ha])]; rfl
    clear h ha
    go_enter Try.func11, Try.ntmps11
    go_wp2
    go_ret
    exact ⟨0, rfl, rfl⟩
  | some v =>
    have e1 := (fl_some ha).1
    have e2 := (fl_some (h.symm.trans ha)).1
    obtain rfl : a = b := by omega
    have h1' : (FloatKind.f32.format.order a a == some .eq) = true := by rw [order_self, (fl_some ha).2]; rfl
    have hp : FloatKind.f32.format.order a a = some .eq := by simpa using h1'
    have hq := quo_one ha
    have HQ := Lib.hid hq
    clear h ha e1 e2 hq
    by_cases hz : (FloatKind.f32.format.order a 0 != some .eq) = true
    · go_enter Try.func11, Try.ntmps11
      go_wp2
      go_ret
      exact ⟨0, rfl, rfl⟩
    · have hz' : (FloatKind.f32.format.order a 0 != some .eq) = false := by simpa using hz
      clear hz
      go_enter Try.func11, Try.ntmps11
      go_wp2_with (refine wpList_farith _ _ _ _ _ rfl rfl rfl _ _ _ rfl rfl ?_; intro r n hr)
      · go_ret
        exact ⟨_, rfl, rfl⟩
      · exfalso
        refine absurd ?_ (by assumption : ¬ FloatKind.f32.format.order _ _ = some .eq)
        exact eq_same (by assumption) (by assumption) HQ.out
set_option maxHeartbeats 1000000 in
theorem sameAll32_yes (xs ys : List Nat) (A B : Option Addr) (c d : Nat) (w : World) (M : Nat) (hx : Rd w M A xs) (hy : Rd w M B ys) (hl : xs.length ≤ 1048576) (he : Me.Alike xs ys) :
    Calls Try.prog 6 #[.slice A xs.length c, .slice B ys.length d] w (Yes w) := by
  have HX := Lib.hid hx
  have HY := Lib.hid hy
  have HE := Lib.hid he
  have hle : ys.length = xs.length := he.len.symm
  have HLE := Lib.hid hle
  rw [hle]
  clear hx hy he hle
  go_enter Try.func6, Try.ntmps6
  go_wp2
  go_loopw [5] (fun i wr => ∃ j N : Nat, j ≤ xs.length ∧ i = .int .i64 j ∧ wr = w.drewN N) (fun i _ => xs.length - (intOf i).toNat)
  case atStart => exact ⟨0, 0, by omega, rfl, rfl⟩
  case round =>
    obtain ⟨j, N, hj, rfl, rfl⟩ := hrel
    by_cases hlt : j < xs.length
    · have hltd : decide ((j : Int) < (xs.length : Int)) = true := by simpa using hlt
      have hly : j < ys.length := by rw [HLE.out]; exact hlt
      obtain ⟨ad, rfl, hb, hc⟩ := HX.out.at_ hlt
      obtain ⟨bd, rfl, hb2, hc2⟩ := HY.out.at_ hly
      have hq := HE.out.at_ hlt hly
      generalize xs[j] = x at hc hq
      generalize ys[j] = y at hc2 hq
      have HQ := Lib.hid hq
      clear hq hly
      go_wp2
      go_region_held (fun w' => w'.cell? (ad.add j) = some (.float .f32 x) ∧ w'.cell? (bd.add j) = some (.float .f32 y)) (go_keep) (first | (go_at_call 11; refine (same32_yes _ _ HQ.out _).mono ?_; rintro e w' ⟨n, rfl, rfl⟩))
      all_goals
        go_wp2
        go_roundw
        case rel => exact ⟨j + 1, _, by omega, by go_num, rfl⟩
        case measure => simp [intOf]; omega
    · go_wp2
      go_ret
      exact ⟨_, rfl, rfl⟩

end Go.Proofs.Ytomnhcogchceiaa.Mt