/- The walks: the reference's angle; AngleTurns. -/
import Derived.Test.YtkfhgjknmdlhbaaGreatDoorWP
namespace Go.Proofs.YtkfhgjknmdlhbaaGreatDoor.WQ
open Go.RowKit Fl Fs Fo Fw Fb Fm Ff Fz Fy Fx Fa WA WB WH WI WJ WK WL WM WN WP
set_option maxRecDepth 20000
theorem wid_cmp {x : Nat} (hx : x < 4294967296) (h : rung Ieee.single x < Ieee.single.infRung) : (FloatKind.f64.format.order (wid x) 0 == some .eq) = eqz x ∧ (FloatKind.f64.format.order (wid x) 0 == some .lt) = ltz x := by
  unfold eqz ltz
  by_cases h0 : rung Ieee.single x = 0
  · have hr : rung Ieee.single x = x % 2147483648 := rfl
    have : x = 0 ∨ x = 2147483648 := by omega
    rcases this with rfl | rfl <;> decide +kernel
  · obtain ⟨k1, _⟩ := order0_wid (Nat.le_of_lt h) (by omega)
    rw [k1, order0 (Nat.le_of_lt h), if_neg h0]
    cases sgn Ieee.single x <;> exact ⟨rfl, rfl⟩

theorem self_good {x y d : Nat} (hx : rung Ieee.single x < Ieee.single.infRung) (h : FC .f32 .f64 (fl .f32 x) y) (hd : FV .f64 (fop .sub .f64 (fl .f64 y) (fl .f64 y)) d) : (FloatKind.f64.format.order d 0 != some .eq) = false := by
  obtain rfl := wid_eq hx h
  exact self_ok (wid_fin hx) hd
set_option maxHeartbeats 1000000 in
theorem impl_AngleTurns (y x : Nat) (w : World) : Calls Tryz.prog 34 #[.float .f32 y, .float .f32 x] w (RetF .f32 (fun r => fl .f32 r = angT y x) w) := by
  by_cases h1 : rung Ieee.single x < Ieee.single.infRung
  · by_cases h2 : rung Ieee.single y < Ieee.single.infRung
    · cases hz : eqz x
      · exact impl_AngleTurns_a y x h1 h2 hz w
      · cases hy : eqz y
        · exact impl_AngleTurns_b y x h1 h2 hz hy w
        · have f1 := finB_yes h1
          have f2 := finB_yes h2
          have hz' : (FloatKind.f32.format.order x 0 == some .eq) = true := hz
          have hy' : (FloatKind.f32.format.order y 0 == some .eq) = true := hy
          have HT := Lib.hid (angT_zero h1 h2 (by rw [hz, hy]; rfl))
          clear h1 h2 hz hy
          go_enter Tryz.func34, Tryz.ntmps34
          go_wp2_with (go_at_call 61; refine (impl_IsFinite _ _).mono ?_; rintro e w' ⟨rfl, n, rfl⟩)
          go_ret
          exact ⟨0, _, HT.out.symm, rfl, rfl⟩
    · have f1 := finB_yes h1
      have f2 := finB_no h2
      have HT := Lib.hid (angT_bad (y := y) (x := x) (fun c => h2 c.2))
      clear h1 h2
      go_enter Tryz.func34, Tryz.ntmps34
      go_wp2_with (first | (go_at_call 61; refine (impl_IsFinite _ _).mono ?_; rintro e w' ⟨rfl, n, rfl⟩) | (refine wpList_fconv _ _ _ rfl rfl .f64 .f32 (by decide) _ rfl (by rw [Tryz.underlying46]; rfl) Tryz.underlying28 ?_; intro r n hr) | (go_at_call 66; refine (math_NaN _).mono ?_; rintro e w' ⟨rfl, rfl⟩))
      go_ret
      exact ⟨_, _, (nan_narrow (by assumption)).trans HT.out.symm, rfl, rfl⟩
  · have f1 := finB_no h1
    have HT := Lib.hid (angT_bad (y := y) (x := x) (fun c => h1 c.1))
    clear h1
    go_enter Tryz.func34, Tryz.ntmps34
    go_wp2_with (first | (go_at_call 61; refine (impl_IsFinite _ _).mono ?_; rintro e w' ⟨rfl, n, rfl⟩) | (refine wpList_fconv _ _ _ rfl rfl .f64 .f32 (by decide) _ rfl (by rw [Tryz.underlying46]; rfl) Tryz.underlying28 ?_; intro r n hr) | (go_at_call 66; refine (math_NaN _).mono ?_; rintro e w' ⟨rfl, rfl⟩))
    go_ret
    exact ⟨_, _, (nan_narrow (by assumption)).trans HT.out.symm, rfl, rfl⟩

end Go.Proofs.YtkfhgjknmdlhbaaGreatDoor.WQ