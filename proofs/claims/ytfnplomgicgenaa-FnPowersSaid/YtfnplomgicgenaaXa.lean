/- The walks: ExpNumber between -200 and 200. -/
import Derived.Test.YtfnplomgicgenaaWM
namespace Go.Proofs.Ytfnplomgicgenaa.Xa
open Go Go.RowKit Fl Fs Fo Fw WA WB WH WI WK
set_option linter.unusedVariables false
/-- The series' counter, 12 down to 0. -/
def ke (j : Nat) : Nat := floatOfInt .f64 (12 - (j : Int))
theorem ke_ge : ∀ j < 13, (FloatKind.f64.format.order (ke j) 4607182418800017408 == some .gt || FloatKind.f64.format.order (ke j) 4607182418800017408 == some .eq) = decide (j < 12) := by decide +kernel
theorem ke_sub : ∀ j < 12, fop .sub .f64 (some (ke j)) (some 4607182418800017408) = some (ke (j + 1)) := by decide +kernel
theorem ke_fl : ∀ j < 13, fl .f64 (ke j) = some (ke j) := by decide +kernel
theorem ke_dec : ∀ j < 12, ke (j + 1) < ke j := by decide +kernel
theorem ke_step {j r : Nat} (hj : j < 12) (hr : FV .f64 (fop .sub .f64 (fl .f64 (ke j)) (fl .f64 4607182418800017408)) r) : r = ke (j + 1) := by
  have e1 : fl .f64 4607182418800017408 = some 4607182418800017408 := rfl
  have h := hr.1
  rw [ke_fl j (by omega), e1, ke_sub j hj] at h
  exact (fl_some h).1.symm
theorem ke_meas {j r : Nat} (hj : j < 12) (hr : FV .f64 (fop .sub .f64 (fl .f64 (ke j)) (fl .f64 4607182418800017408)) r) : fbits (Value.float .f64 r) < fbits (Value.float .f64 (ke j)) := by
  rw [ke_step hj hr]; exact ke_dec j hj
/-- The series, j steps. -/
def expP (t : Option Nat) : Nat → Option Nat
  | 0 => some 4607182418800017408
  | j + 1 => fop .add .f64 (some 4607182418800017408) (fop .quo .f64 (fop .mul .f64 t (expP t j)) (some (ke j)))
/-- Squared n times. -/
def expQ (p : Option Nat) : Nat → Option Nat
  | 0 => p
  | n + 1 => fop .mul .f64 (expQ p n) (expQ p n)
def expV (x : Nat) : Option Nat := expQ (expP (fop .quo .f64 (fconv .f32 .f64 (fl .f32 x)) (some 4643211215818981376)) 12) 8
theorem expP_step {t p a b r : Nat} {j : Nat} (hj : j < 12) (hp : FV .f64 (expP (fl .f64 t) j) p) (ha : FV .f64 (fop .mul .f64 (fl .f64 t) (fl .f64 p)) a) (hb : FV .f64 (fop .quo .f64 (fl .f64 a) (fl .f64 (ke j))) b)
    (hr : FV .f64 (fop .add .f64 (fl .f64 4607182418800017408) (fl .f64 b)) r) : FV .f64 (expP (fl .f64 t) (j + 1)) r := by
  refine ⟨?_, hr.2⟩
  rw [hr.1, hb.1, ha.1, hp.1, ke_fl j (by omega)]; rfl
theorem expQ_step {p q r : Nat} {o : Option Nat} {j : Nat} (hq : FV .f64 (expQ o j) q) (hr : FV .f64 (fop .mul .f64 (fl .f64 q) (fl .f64 q)) r) : FV .f64 (expQ o (j + 1)) r := by
  refine ⟨?_, hr.2⟩
  rw [hr.1, hq.1]; rfl
def ExpRet (x r : Nat) : Prop := ∃ s, fl .f64 s = expV x ∧ FC .f64 .f32 (fl .f64 s) r
set_option maxHeartbeats 4000000 in
theorem impl_ExpNumber (x : Nat) (h1 : (FloatKind.f32.format.order x 1128792064 == some .gt) = false) (h2 : (FloatKind.f32.format.order x 3276275712 == some .lt) = false) (w : World) :
    Calls Try.prog 17 #[.float .f32 x] w (RetF .f32 (ExpRet x) w) := by
  go_enter Try.func17, Try.ntmps17
  go_wp2_with (first | (refine wpList_fconv _ _ _ rfl rfl .f32 .f64 (by decide) _ rfl (by rw [Try.underlying22]; rfl) Try.underlying25 ?_; intro u nu hu) | (refine wpList_farith _ _ _ _ _ rfl rfl rfl _ _ _ rfl rfl ?_; intro t nt ht))
  have HT := Lib.hid (show fl .f64 t = fop .quo .f64 (fconv .f32 .f64 (fl .f32 x)) (some 4643211215818981376) by rw [ht.1, FC_widen hu]; rfl)
  clear ht hu h1 h2
  go_wp2_with fail
  go_loopw [4, 5] (fun a b wr => ∃ j r N, j ≤ 12 ∧ FV .f64 (expP (fl .f64 t) j) r ∧ a = .float .f64 r ∧ b = .float .f64 (ke j) ∧ wr = w.drewN N) (fun _ b _ => fbits b)
  case atStart => exact ⟨0, _, _, by omega, ⟨rfl, by decide⟩, rfl, rfl, rfl⟩
  case round =>
    obtain ⟨j, p, N, hj, hp, rfl, rfl, rfl⟩ := hrel
    have hge := ke_ge j (by omega)
    by_cases hlt : j < 12
    · rw [decide_eq_true hlt] at hge
      go_wp2_with (refine wpList_farith _ _ _ _ _ rfl rfl rfl _ _ _ rfl rfl ?_; intro r n hr)
      go_roundw
      case rel =>
        refine ⟨j + 1, _, _, by omega, ?_, rfl, ?_, rfl⟩
        · exact expP_step hlt hp (by assumption) (by assumption) (by assumption)
        · exact fl_eq (ke_step hlt (by assumption))
      case measure => exact ke_meas hlt (by assumption)
    · rw [decide_eq_false hlt] at hge
      obtain rfl : j = 12 := by omega
      have HP := Lib.hid hp
      clear hp
      go_wp2_with fail
      go_loopw [4, 27] (fun a b wr => ∃ (j r N : Nat), j ≤ 8 ∧ Hid (FV .f64 (expQ (expP (fl .f64 t) 12) j) r) ∧ a = .float .f64 r ∧ b = .int .i64 j ∧ wr = w.drewN N) (fun _ b _ => 8 - (intOf b).toNat)
      case atStart => exact ⟨0, _, _, by omega, HP, rfl, rfl, rfl⟩
      case round =>
        obtain ⟨i, q, N2, hi, hq, rfl, rfl, rfl⟩ := hrel
        by_cases hli : i < 8
        · go_wp2_with (refine wpList_farith _ _ _ _ _ rfl rfl rfl _ _ _ rfl rfl ?_; intro r n hr)
          have HQ := Lib.hid (expQ_step (p := 0) hq.out hr)
          clear hr hq
          go_roundw
          case rel => exact ⟨i + 1, _, _, by omega, HQ, rfl, by go_num, rfl⟩
          case measure => simp [intOf]; omega
        · obtain rfl : i = 8 := by omega
          go_wp2_with (refine wpList_fconv _ _ _ rfl rfl .f64 .f32 (by decide) _ rfl (by rw [Try.underlying25]; rfl) Try.underlying22 ?_; intro r n hr)
          have HR := Lib.hid (show ExpRet x r from ⟨q, by rw [hq.out.1, HT.out]; rfl, hr⟩)
          clear hr hq
          go_ret
          exact ⟨_, _, HR.out, rfl, rfl⟩

end Go.Proofs.Ytfnplomgicgenaa.Xa