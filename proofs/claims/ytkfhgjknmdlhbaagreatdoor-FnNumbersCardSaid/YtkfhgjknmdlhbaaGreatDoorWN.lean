/- The walks: TenthsOf. -/
import Derived.Test.YtkfhgjknmdlhbaaGreatDoorWM
namespace Go.Proofs.YtkfhgjknmdlhbaaGreatDoor.WN
open Go.RowKit Fl Fs Fo Fw Fb Fm Ff Fz Fy Fx WA WB WH WI WJ WK WL WM
set_option maxRecDepth 20000

def floorW (x : Nat) : Nat := Ieee.double.write ((Ieee.double.read x).integral .down)
theorem floor_int {x : Nat} (hx : rung Ieee.double x ≤ P2 40) : floatToIntVal .f64 (floorW x) .i64 = some (tru (floorW x)) := by
  refine tru_eq ?_
  have hf := Bd.fin (show 40 ≤ 1000 by omega) hx
  obtain ⟨T, hT, he, hlo, _⟩ := trunc_of (Nat.le_trans hx (P2_mono (by omega)))
  have hm := Bd.mag_le hx
  obtain ⟨C, hC⟩ : ∃ C, C = 1074 := ⟨_, rfl⟩
  rw [← hC] at hlo hm
  have hT40 : T ≤ 2 ^ 40 := by
    have h1 := Nat.le_trans hlo hm
    rw [Nat.pow_add] at h1
    exact Nat.le_of_mul_le_mul_right h1 (Nat.two_pow_pos C)
  obtain ⟨m, a, hr, _⟩ := read_fin Ieee.double (by decide) hf
  have hcut : Ieee.Toward.zero.cut (sgn Ieee.double x) (m <<< (Ieee.double.leastPlace + (a : Int)).toNat) (-(Ieee.double.leastPlace + (a : Int))).toNat = T := by
    unfold floatToIntVal at he
    have hint : (FloatKind.f64.decode x).toInt .zero = some (Ieee.signed (sgn Ieee.double x) (Ieee.Toward.zero.cut (sgn Ieee.double x) (m <<< (Ieee.double.leastPlace + (a : Int)).toNat) (-(Ieee.double.leastPlace + (a : Int))).toNat) 0) := by
      show (Ieee.double.read x).toInt .zero = _
      rw [hr]; rfl
    rw [hint] at he
    dsimp only at he
    split at he
    · have h2 := Option.some.inj he
      have h3 := congrArg Int.natAbs h2
      rw [natAbs_signed, Nat.pow_zero, Nat.mul_one] at h3
      rw [h3]; split <;> simp
    · cases he
  have hdown : Ieee.Toward.down.cut (sgn Ieee.double x) (m <<< (Ieee.double.leastPlace + (a : Int)).toNat) (-(Ieee.double.leastPlace + (a : Int))).toNat ≤ T + 1 := by
    rw [← hcut]
    unfold Ieee.Toward.cut
    simp only [Bool.toNat_false, Nat.add_zero]
    refine Nat.add_le_add_left ?_ _
    generalize (sgn Ieee.double x && _) = b
    cases b <;> simp
  have hfl : floorW x = Ieee.double.nearest (sgn Ieee.double x) (Ieee.Toward.down.cut (sgn Ieee.double x) (m <<< (Ieee.double.leastPlace + (a : Int)).toNat) (-(Ieee.double.leastPlace + (a : Int))).toNat) 0 := by
    unfold floorW; rw [hr]; rfl
  generalize Ieee.Toward.down.cut (sgn Ieee.double x) (m <<< (Ieee.double.leastPlace + (a : Int)).toNat) (-(Ieee.double.leastPlace + (a : Int))).toNat = D at hdown hfl
  rw [hfl, Ft.nearest_rr Ieee.double _ _ _ 0 C (by rw [hC]; decide), rung_word' Ieee.double _ (Ft.rr_le_inf Ieee.double _ _)]
  refine Nat.le_trans (rr_P2 (e := 41) (by omega) ?_) (P2_mono (by omega))
  rw [show 41 + 1074 + 0 = 41 + C by omega, Nat.pow_add]
  exact Nat.mul_le_mul_right _ (by omega)
theorem conv_fact {y : Nat} {n : Int} (h : floatToIntVal .f64 y .i64 = some n) : ∀ w, (convert 46 2 (.float .f64 y)).run Tryz.prog w = .ok (.int .i64 n) w :=
  fun w => run_convert_float_int w 46 2 .f64 .i64 y n (by rw [Tryz.underlying46]; rfl) Tryz.underlying2 h
def c43 : Nat := 4631308968768463603
def tenV (z : Nat) (e : Int) : Option Nat := fop .add .f64 (fop .mul .f64 (logV z e) (some c43)) (some half)
theorem bd_ten {z : Nat} {e : Int} (h2 : z < 4609434218613702656) (he : e.natAbs ≤ 2048) : Bd 40 (tenV z e) := by
  have h1 := bd_mul (bd_log h2 he) (bd_c (c := c43) (e := 6) (by decide +kernel) (by decide +kernel)) (by omega)
  have h3 := bd_add (h1.mono (show 15 + 6 ≤ 21 by omega)) (bd_c (c := half) (e := 21) (Nat.le_trans (show rung Ieee.double half ≤ P2 0 by decide +kernel) (P2_mono (by omega))) (by decide +kernel)) (by omega)
  exact h3.mono (by omega)
/-- What TenthsOf returns for a normal number. -/
def TenOf (x : Nat) (n : Int) : Prop := ∃ z e a, LogOf (wid x) z e ∧ FV .f64 (tenV z e) a ∧ n = tru (floorW a)
theorem TenOf.one {x : Nat} {n m : Int} (h : TenOf x n) (g : TenOf x m) (hn : Normal x) : n = m := by
  obtain ⟨z, e, a, hl, ha, rfl⟩ := h
  obtain ⟨z', e', a', hl', ha', rfl⟩ := g
  obtain ⟨rfl, rfl⟩ := hl.one hl'
  obtain ⟨p0, p1⟩ := wid_pos hn
  have hb := bd_ten hl.2.1 (logOf_e hl p0 p1)
  have h1 := (hb.num ha).2
  have h2 := (hb.num ha').2
  rw [h1] at h2
  rw [Option.some.inj h2]
theorem ten_fin {x a m l z : Nat} {e : Int} (hn : Normal x) (hl : LogOf (wid x) z e) (hv : FV .f64 (logV z e) l) (hm : FV .f64 (fop .mul .f64 (fl .f64 l) (fl .f64 4631308968768463603)) m) (ha : FV .f64 (fop .add .f64 (fl .f64 m) (fl .f64 4602678819172646912)) a) :
    FV .f64 (tenV z e) a ∧ rung Ieee.double a ≤ P2 40 ∧ rung Ieee.double a < Ieee.double.infRung := by
  have h1 : FV .f64 (tenV z e) a := ⟨by rw [ha.1, hm.1, hv.1]; rfl, ha.2⟩
  obtain ⟨p0, p1⟩ := wid_pos hn
  obtain ⟨b, hb, hr, hf⟩ := bd_ten hl.2.1 (logOf_e hl p0 p1)
  have h2 := h1.1
  rw [hb] at h2
  have h3 := (fl_some h2).1
  subst h3
  exact ⟨h1, hr, Bd.fin (by omega) hr⟩
def SomeTen (x : Nat) (w : World) (e : Ending) (w' : World) : Prop := ∃ n k, TenOf x n ∧ e = .returned (.tuple #[.int .i64 n, .bool true]) ∧ w' = w.drewN k
def SomeTen1 (x : Nat) (w : World) (e : Ending) (w' : World) : Prop := ∃ n k, TenOf x n ∧ e = .returned (.int .i64 n) ∧ w' = w.drewN k
theorem norm_facts {x : Nat} (hn : Normal x) : finB x = true ∧ (FloatKind.f32.format.order x 0 == some .lt || FloatKind.f32.format.order x 0 == some .eq) = false := by
  refine ⟨finB_yes hn.2.2, ?_⟩
  rw [order0 (Nat.le_of_lt hn.2.2), if_neg (by have := hn.2.1; omega), hn.1, if_neg (by simp)]; rfl
theorem bad_facts {x : Nat} (hn : ¬ Normal x) : finB x = false ∨ (finB x = true ∧ (FloatKind.f32.format.order x 0 == some .lt || FloatKind.f32.format.order x 0 == some .eq) = true) := by
  by_cases hf : rung Ieee.single x < Ieee.single.infRung
  · right
    refine ⟨finB_yes hf, ?_⟩
    rw [order0 (Nat.le_of_lt hf)]
    by_cases h0 : rung Ieee.single x = 0
    · rw [if_pos h0]; rfl
    · rw [if_neg h0]
      cases hs : sgn Ieee.single x
      · exact absurd ⟨hs, by omega, hf⟩ hn
      · rfl
  · exact .inl (finB_no hf)

end Go.Proofs.YtkfhgjknmdlhbaaGreatDoor.WN