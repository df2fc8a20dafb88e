/- The walks: TenthsOf. -/
import Derived.Test.YtfnplomgicgenaaWM
namespace Go.Proofs.Ytfnplomgicgenaa.WN
open Go.RowKit Fl Fs Fo Fw Fb Fm Ff Fz Fy Fx WA WB WH WI WJ WK WL WM
set_option maxRecDepth 20000

def floorW (x : Nat) : Nat := Ieee.double.write ((Ieee.double.read x).integral .down)
theorem run_floor (x : Nat) (hx : rung Ieee.double x < Ieee.double.infRung) (w : World) : (callFunc 73 #[.float .f64 x]).run Try.prog w = .ok (.value (.float .f64 (floorW x))) w := by
  rw [run_callFunc_extern (e := Go.Extern.MathFloor.toIntegral (Try.f73).name .down) Try.func73 (by kernel_rfl) (by kernel_rfl) (by kernel_rfl) (by kernel_rfl)]
  obtain ⟨m, i, hr, _⟩ := read_fin Ieee.double (by decide) hx
  have hr' : FloatKind.f64.decode x = .number (sgn Ieee.double x) m (Ieee.double.leastPlace + (i : Int)) := hr
  conv in (Go.Extern.MathFloor.toIntegral _ _ _) => whnf
  rw [hr']
  have hf : floorW x = FloatKind.f64.encode ((Ieee.Datum.number (sgn Ieee.double x) m (Ieee.double.leastPlace + (i : Int))).integral .down) := by unfold floorW; rw [hr]; rfl
  rw [hf]; rfl

set_option maxHeartbeats 400000 in
theorem math_Floor (x : Nat) (hx : rung Ieee.double x < Ieee.double.infRung) (w : World) : Calls Try.prog 58 #[.float .f64 x] w fun e w' => e = .returned (.float .f64 (floorW x)) ∧ w = w' := by
  have hr := run_floor x hx w
  clear hx
  go_enter Try.func58, Try.ntmps58
  go_wp2
  go_ret
  exact ⟨rfl, rfl⟩
theorem floor_int {x : Nat} (hx : rung Ieee.double x ≤ P2 40) : floatToIntVal .f64 (floorW x) .i64 = some (tru (floorW x)) := by
  refine tru_eq ?_
  have hf := Bd.fin (show 40 ≤ 1000 by omega) hx
  obtain ⟨T, hT, he, hlo, _⟩ := trunc_of (Nat.le_trans hx (P2_mono (by omega)))
  have hm := Bd.mag_le hx
  obtain ⟨C, hC⟩ : ∃ C, C = 1074 := ⟨_, rfl⟩
  rw [← hC] at hlo hm
  have hT40 : T ≤ 2 ^ 40 := by
    have h1 := Nat.le_trans hlo hm
    rw [Nat.pow_add] at h1
    exact Nat.le_of_mul_le_mul_right h1 (Nat.two_pow_pos C)
  obtain ⟨m, a, hr, _⟩ := read_fin Ieee.double (by decide) hf
  have hcut : Ieee.Toward.zero.cut (sgn Ieee.double x) (m <<< (Ieee.double.leastPlace + (a : Int)).toNat) (-(Ieee.double.leastPlace + (a : Int))).toNat = T := by
    unfold floatToIntVal at he
    have hint : (FloatKind.f64.decode x).toInt .zero = some (Ieee.signed (sgn Ieee.double x) (Ieee.Toward.zero.cut (sgn Ieee.double x) (m <<< (Ieee.double.leastPlace + (a : Int)).toNat) (-(Ieee.double.leastPlace + (a : Int))).toNat) 0) := by
      show (Ieee.double.read x).toInt .zero = _
      rw [hr]; rfl
    rw [hint] at he
    dsimp only at he
    split at he
    · have h2 := Option.some.inj he
      have h3 := congrArg Int.natAbs h2
      rw [natAbs_signed, Nat.pow_zero, Nat.mul_one] at h3
      rw [h3]; split <;> simp
    · cases he
  have hdown : Ieee.Toward.down.cut (sgn Ieee.double x) (m <<< (Ieee.double.leastPlace + (a : Int)).toNat) (-(Ieee.double.leastPlace + (a : Int))).toNat ≤ T + 1 := by
    rw [← hcut]
    unfold Ieee.Toward.cut
    simp only [Bool.toNat_false, Nat.add_zero]
    refine Nat.add_le_add_left ?_ _
    generalize (sgn Ieee.double x && _) = b
    cases b <;> simp
  have hfl : floorW x = Ieee.double.nearest (sgn Ieee.double x) (Ieee.Toward.down.cut (sgn Ieee.double x) (m <<< (Ieee.double.leastPlace + (a : Int)).toNat) (-(Ieee.double.leastPlace + (a : Int))).toNat) 0 := by
    unfold floorW; rw [hr]; rfl
  generalize Ieee.Toward.down.cut (sgn Ieee.double x) (m <<< (Ieee.double.leastPlace + (a : Int)).toNat) (-(Ieee.double.leastPlace + (a : Int))).toNat = D at hdown hfl
  rw [hfl, Ft.nearest_rr Ieee.double _ _ _ 0 C (by rw [hC]; decide), rung_word' Ieee.double _ (Ft.rr_le_inf Ieee.double _ _)]
  refine Nat.le_trans (rr_P2 (e := 41) (by omega) ?_) (P2_mono (by omega))
  rw [show 41 + 1074 + 0 = 41 + C by omega, Nat.pow_add]
  exact Nat.mul_le_mul_right _ (by omega)
theorem conv_fact {y : Nat} {n : Int} (h : floatToIntVal .f64 y .i64 = some n) : ∀ w, (convert 25 2 (.float .f64 y)).run Try.prog w = .ok (.int .i64 n) w :=
  fun w => run_convert_float_int w 25 2 .f64 .i64 y n (by rw [Try.underlying25]; rfl) Try.underlying2 h
def c43 : Nat := 4631308968768463603
def tenV (z : Nat) (e : Int) : Option Nat := fop .add .f64 (fop .mul .f64 (logV z e) (some c43)) (some half)
theorem bd_ten {z : Nat} {e : Int} (h2 : z < 4609434218613702656) (he : e.natAbs ≤ 2048) : Bd 40 (tenV z e) := by
  have h1 := bd_mul (bd_log h2 he) (bd_c (c := c43) (e := 6) (by decide +kernel) (by decide +kernel)) (by omega)
  have h3 := bd_add (h1.mono (show 15 + 6 ≤ 21 by omega)) (bd_c (c := half) (e := 21) (Nat.le_trans (show rung Ieee.double half ≤ P2 0 by decide +kernel) (P2_mono (by omega))) (by decide +kernel)) (by omega)
  exact h3.mono (by omega)
/-- What TenthsOf returns for a normal number. -/
def TenOf (x : Nat) (n : Int) : Prop := ∃ z e a, LogOf (wid x) z e ∧ FV .f64 (tenV z e) a ∧ n = tru (floorW a)
theorem TenOf.one {x : Nat} {n m : Int} (h : TenOf x n) (g : TenOf x m) (hn : Normal x) : n = m := by
  obtain ⟨z, e, a, hl, ha, rfl⟩ := h
  obtain ⟨z', e', a', hl', ha', rfl⟩ := g
  obtain ⟨rfl, rfl⟩ := hl.one hl'
  obtain ⟨p0, p1⟩ := wid_pos hn
  have hb := bd_ten hl.2.1 (logOf_e hl p0 p1)
  have h1 := (hb.num ha).2
  have h2 := (hb.num ha').2
  rw [h1] at h2
  rw [Option.some.inj h2]
theorem ten_fin {x a m l z : Nat} {e : Int} (hn : Normal x) (hl : LogOf (wid x) z e) (hv : FV .f64 (logV z e) l) (hm : FV .f64 (fop .mul .f64 (fl .f64 l) (fl .f64 4631308968768463603)) m) (ha : FV .f64 (fop .add .f64 (fl .f64 m) (fl .f64 4602678819172646912)) a) :
    FV .f64 (tenV z e) a ∧ rung Ieee.double a ≤ P2 40 ∧ rung Ieee.double a < Ieee.double.infRung := by
  have h1 : FV .f64 (tenV z e) a := ⟨by rw [ha.1, hm.1, hv.1]; rfl, ha.2⟩
  obtain ⟨p0, p1⟩ := wid_pos hn
  obtain ⟨b, hb, hr, hf⟩ := bd_ten hl.2.1 (logOf_e hl p0 p1)
  have h2 := h1.1
  rw [hb] at h2
  have h3 := (fl_some h2).1
  subst h3
  exact ⟨h1, hr, Bd.fin (by omega) hr⟩
def SomeTen (x : Nat) (w : World) (e : Ending) (w' : World) : Prop := ∃ n k, TenOf x n ∧ e = .returned (.tuple #[.int .i64 n, .bool true]) ∧ w' = w.drewN k
def SomeTen1 (x : Nat) (w : World) (e : Ending) (w' : World) : Prop := ∃ n k, TenOf x n ∧ e = .returned (.int .i64 n) ∧ w' = w.drewN k
theorem norm_facts {x : Nat} (hn : Normal x) : finB x = true ∧ (FloatKind.f32.format.order x 0 == some .lt || FloatKind.f32.format.order x 0 == some .eq) = false := by
  refine ⟨finB_yes hn.2.2, ?_⟩
  rw [order0 (Nat.le_of_lt hn.2.2), if_neg (by have := hn.2.1; omega), hn.1, if_neg (by simp)]; rfl
theorem bad_facts {x : Nat} (hn : ¬ Normal x) : finB x = false ∨ (finB x = true ∧ (FloatKind.f32.format.order x 0 == some .lt || FloatKind.f32.format.order x 0 == some .eq) = true) := by
  by_cases hf : rung Ieee.single x < Ieee.single.infRung
  · right
    refine ⟨finB_yes hf, ?_⟩
    rw [order0 (Nat.le_of_lt hf)]
    by_cases h0 : rung Ieee.single x = 0
    · rw [if_pos h0]; rfl
    · rw [if_neg h0]
      cases hs : sgn Ieee.single x
      · exact absurd ⟨hs, by omega, hf⟩ hn
      · rfl
  · exact .inl (finB_no hf)

set_option maxHeartbeats 1000000 in
theorem impl_TenthsOf_yes (x : Nat) (hn : Normal x) (w : World) : Calls Try.prog 31 #[.float .f32 x] w (SomeTen x w) := by
  obtain ⟨p0, p1⟩ := wid_pos hn
  have HX := Lib.hid (Nat.le_of_lt hn.2.2)
  have HN := Lib.hid hn
  obtain ⟨f1, f2⟩ := norm_facts hn
  clear hn
  go_enter Try.func31, Try.ntmps31
  go_wp2_with (first | (refine wpList_fconv _ _ _ rfl rfl .f32 .f64 (by decide) _ rfl (by rw [Try.underlying22]; rfl) Try.underlying25 ?_; intro r n hr; obtain rfl := wid_eq' HX.out hr; clear hr) | (go_at_call 45; refine (impl_IsFinite _ _).mono ?_; rintro e w' ⟨rfl, n, rfl⟩) | (go_at_call 46; refine (impl_naturalLog _ p0 p1 _).mono ?_; rintro e w' ⟨l, nl, ⟨z, ee, hl, hv⟩, rfl, rfl⟩; have HL := Lib.hid hl; have HV := Lib.hid hv; clear hl hv) | (go_at_call 58; obtain ⟨t1, t2, t3⟩ := ten_fin HN.out HL.out HV.out (by assumption) (by assumption); have HT := Lib.hid t1; have hc := conv_fact (floor_int t2); clear t1 t2; refine (math_Floor _ t3 _).mono ?_; rintro e w' ⟨rfl, rfl⟩) | (refine wpList_farith _ _ _ _ _ rfl rfl rfl _ _ _ rfl rfl ?_; intro r n hr))
  go_ret2
  exact ⟨_, _, ⟨_, _, _, HL.out, HT.out, rfl⟩, rfl, rfl⟩

set_option maxHeartbeats 1000000 in
theorem spec_l01Tenths (x : Nat) (hn : Normal x) (w : World) : Calls Try.prog 57 #[.float .f32 x] w (SomeTen1 x w) := by
  obtain ⟨p0, p1⟩ := wid_pos hn
  have HX := Lib.hid (Nat.le_of_lt hn.2.2)
  have HN := Lib.hid hn
  clear hn
  go_enter Try.func57, Try.ntmps57
  go_wp2_with (first | (refine wpList_fconv _ _ _ rfl rfl .f32 .f64 (by decide) _ rfl (by rw [Try.underlying22]; rfl) Try.underlying25 ?_; intro r n hr; obtain rfl := wid_eq' HX.out hr; clear hr) | (go_at_call 72; refine (spec_l01LogWide _ p0 p1 _).mono ?_; rintro e w' ⟨l, nl, ⟨z, ee, hl, hv⟩, rfl, rfl⟩; have HL := Lib.hid hl; have HV := Lib.hid hv; clear hl hv) | (go_at_call 58; obtain ⟨t1, t2, t3⟩ := ten_fin HN.out HL.out HV.out (by assumption) (by assumption); have HT := Lib.hid t1; have hc := conv_fact (floor_int t2); clear t1 t2; refine (math_Floor _ t3 _).mono ?_; rintro e w' ⟨rfl, rfl⟩) | (refine wpList_farith _ _ _ _ _ rfl rfl rfl _ _ _ rfl rfl ?_; intro r n hr))
  go_ret
  exact ⟨_, _, ⟨_, _, _, HL.out, HT.out, rfl⟩, rfl, rfl⟩

theorem spec_TenthsOf_yes (x : Nat) (hn : Normal x) (w : World) : Calls Try.prog 30 #[.float .f32 x] w (SomeTen x w) := by
  obtain ⟨f1, f2⟩ := norm_facts hn
  have HN := Lib.hid hn
  clear hn
  go_enter Try.func30, Try.ntmps30
  go_wp2_with (first | (go_at_call 56; refine (spec_l01Finite _ _).mono ?_; rintro e w' ⟨rfl, n, rfl⟩) | (go_at_call 57; refine (spec_l01Tenths _ HN.out _).mono ?_; rintro e w' ⟨n, k, ht, rfl, rfl⟩))
  go_ret2
  exact ⟨_, _, by assumption, rfl, rfl⟩

theorem impl_TenthsOf_no (x : Nat) (hn : ¬ Normal x) (w : World) : Calls Try.prog 31 #[.float .f32 x] w fun e w' => e = .returned (.tuple #[.int .i64 0, .bool false]) ∧ ∃ n, w' = w.drewN n := by
  rcases bad_facts hn with f1 | ⟨f1, f2⟩
  all_goals
    clear hn
    go_enter Try.func31, Try.ntmps31
    go_wp2_with (go_at_call 45; refine (impl_IsFinite _ _).mono ?_; rintro e w' ⟨rfl, n, rfl⟩)
    go_ret2
    exact ⟨rfl, _, rfl⟩

theorem spec_TenthsOf_no (x : Nat) (hn : ¬ Normal x) (w : World) : Calls Try.prog 30 #[.float .f32 x] w fun e w' => e = .returned (.tuple #[.int .i64 0, .bool false]) ∧ ∃ n, w' = w.drewN n := by
  rcases bad_facts hn with f1 | ⟨f1, f2⟩
  all_goals
    clear hn
    go_enter Try.func30, Try.ntmps30
    go_wp2_with (go_at_call 56; refine (spec_l01Finite _ _).mono ?_; rintro e w' ⟨rfl, n, rfl⟩)
    go_ret2
    exact ⟨rfl, _, rfl⟩

end Go.Proofs.Ytfnplomgicgenaa.WN