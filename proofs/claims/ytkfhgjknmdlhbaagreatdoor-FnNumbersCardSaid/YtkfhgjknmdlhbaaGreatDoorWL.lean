/- The walks: logarithms. -/
import Derived.Test.YtkfhgjknmdlhbaaGreatDoorWK
import Derived.Test.YtkfhgjknmdlhbaaGreatDoorFx
namespace Go.Proofs.YtkfhgjknmdlhbaaGreatDoor.WL
open Go.RowKit Fl Fs Fo Fw Fb Fm Ff Fz Fy Fx WA WB WH WI WJ WK
set_option maxRecDepth 20000

theorem inf_val : Ieee.double.infRung = 9218868437227405312 := by decide
theorem step_half {x r : Nat} (h1 : 9007199254740992 ≤ x) (h2 : x < 9218868437227405312) (hr : FV .f64 (fop .quo .f64 (fl .f64 x) (fl .f64 4611686018427387904)) r) : r = x - 4503599627370496 := by
  have e := half_exact (x := x) (by unfold BB; omega) (by rw [inf_val]; exact h2)
  rw [fl_const (c := x) (by rw [(pos_word (x := x) (by rw [inf_val]; omega)).1, inf_val]; omega)] at hr
  have h := hr.1
  have e2 : fl .f64 4611686018427387904 = some two := rfl
  rw [e2, e] at h
  exact ((fl_some h).1).symm
theorem step_double {x r : Nat} (h1 : 4503599627370496 ≤ x) (h2 : x + 4503599627370496 < 9218868437227405312) (hr : FV .f64 (fop .mul .f64 (fl .f64 x) (fl .f64 4611686018427387904)) r) : r = x + 4503599627370496 := by
  have e := double_exact (x := x) (by unfold BB; omega) (by rw [inf_val]; exact h2)
  rw [fl_const (c := x) (by rw [(pos_word (x := x) (by rw [inf_val]; omega)).1, inf_val]; omega)] at hr
  have h := hr.1
  have e2 : fl .f64 4611686018427387904 = some two := rfl
  rw [e2, e] at h
  exact ((fl_some h).1).symm
theorem fbits_float (k : FloatKind) (b : Nat) : fbits (.float k b) = b := rfl
theorem meas_half {x r : Nat} (h1 : 9007199254740992 ≤ x) (h2 : x < 9218868437227405312) (hr : FV .f64 (fop .quo .f64 (fl .f64 x) (fl .f64 4611686018427387904)) r) : fbits (.float .f64 r) < fbits (.float .f64 x) := by
  rw [step_half h1 h2 hr, fbits_float, fbits_float]; omega
theorem meas_double {x r : Nat} (h1 : 4503599627370496 ≤ x) (h2 : x + 4503599627370496 < 9218868437227405312) (h3 : x < 4609434218613702656) (hr : FV .f64 (fop .mul .f64 (fl .f64 x) (fl .f64 4611686018427387904)) r) : 4609434218613702656 - fbits (.float .f64 r) < 4609434218613702656 - fbits (.float .f64 x) := by
  rw [step_double h1 h2 hr, fbits_float, fbits_float]; omega
theorem fi_one : fi 1 = 4607182418800017408 := by decide +kernel
theorem step_inc {e : Int} {r : Nat} (h : e.natAbs ≤ 4096) (hr : FV .f64 (fop .add .f64 (fl .f64 (fi e)) (fl .f64 4607182418800017408)) r) : r = fi (e + 1) := by
  rw [(fi_fl (n := e) (by omega)).1, ← fi_one, (fi_fl (n := 1) (by decide)).1, fi_add (by omega) (by decide)] at hr
  exact ((fl_some hr.1).1).symm
theorem step_dec {e : Int} {r : Nat} (h : e.natAbs ≤ 4096) (hr : FV .f64 (fop .sub .f64 (fl .f64 (fi e)) (fl .f64 4607182418800017408)) r) : r = fi (e - 1) := by
  rw [(fi_fl (n := e) (by omega)).1, ← fi_one, (fi_fl (n := 1) (by decide)).1, fi_sub (by omega) (by decide) (by omega)] at hr
  exact ((fl_some hr.1).1).symm
theorem kq_ge : ∀ j : Nat, j < 14 → (FloatKind.f64.format.order (fi (25 - 2 * (j : Int))) 4607182418800017408 == some .gt || FloatKind.f64.format.order (fi (25 - 2 * (j : Int))) 4607182418800017408 == some .eq) = decide (j < 13) := by decide +kernel
theorem kq_sub : ∀ j : Nat, j < 13 → fop .sub .f64 (some (fi (25 - 2 * (j : Int)))) (some 4611686018427387904) = some (fi (25 - 2 * ((j + 1 : Nat) : Int))) := by decide +kernel
theorem kq_fl : ∀ j : Nat, j < 14 → fl .f64 (fi (25 - 2 * (j : Int))) = some (fi (25 - 2 * (j : Int))) := by decide +kernel
def qmeas : Value → Nat
  | .float _ b => if b < 9223372036854775808 then b + 1 else 0
  | _ => 0
theorem kq_dec : ∀ j : Nat, j < 13 → qmeas (.float .f64 (fi (25 - 2 * ((j + 1 : Nat) : Int)))) < qmeas (.float .f64 (fi (25 - 2 * (j : Int)))) := by
  have h : ∀ j : Nat, j < 13 → (if fi (25 - 2 * ((j + 1 : Nat) : Int)) < 9223372036854775808 then fi (25 - 2 * ((j + 1 : Nat) : Int)) + 1 else 0) < (if fi (25 - 2 * (j : Int)) < 9223372036854775808 then fi (25 - 2 * (j : Int)) + 1 else 0) := by decide +kernel
  exact h
theorem kq_step {j r : Nat} (hj : j < 13) (hr : FV .f64 (fop .sub .f64 (fl .f64 (fi (25 - 2 * (j : Int)))) (fl .f64 4611686018427387904)) r) : r = fi (25 - 2 * ((j + 1 : Nat) : Int)) := by
  have e2 : fl .f64 4611686018427387904 = some 4611686018427387904 := rfl
  have h := hr.1
  rw [kq_fl j (by omega), e2, kq_sub j hj] at h
  exact ((fl_some h).1).symm
theorem kq_meas {j r : Nat} (hj : j < 13) (hr : FV .f64 (fop .sub .f64 (fl .f64 (fi (25 - 2 * (j : Int)))) (fl .f64 4611686018427387904)) r) : qmeas (.float .f64 r) < qmeas (.float .f64 (fi (25 - 2 * (j : Int)))) := by
  rw [kq_step hj hr]; exact kq_dec j hj
theorem q_step {u q a b r : Nat} {j : Nat} (hj : j < 13) (hq : FV .f64 (qV (fl .f64 u) j) q) (hr : FV .f64 (fop .add .f64 (fl .f64 a) (fl .f64 b)) r)
    (ha : FV .f64 (fop .quo .f64 (fl .f64 4607182418800017408) (fl .f64 (fi (25 - 2 * (j : Int))))) a) (hb : FV .f64 (fop .mul .f64 (fl .f64 u) (fl .f64 q)) b) : FV .f64 (qV (fl .f64 u) (j + 1)) r := by
  refine ⟨?_, hr.2⟩
  rw [hr.1, ha.1, hb.1, hq.1, kq_fl j (by omega)]; rfl
theorem log_end {z a b s u q c d g h r : Nat} {e : Int} (hz : z < 4609434218613702656) (he : e.natAbs ≤ 4096) (hr : FV .f64 (fop .add .f64 (fl .f64 d) (fl .f64 h)) r) (hd : FV .f64 (fop .mul .f64 (fl .f64 4611686018427387904) (fl .f64 c)) d) (hc : FV .f64 (fop .mul .f64 (fl .f64 s) (fl .f64 q)) c)
    (hh : FV .f64 (fop .mul .f64 (fl .f64 g) (fl .f64 4604418534313441775)) h) (hg : g = fi e) (hq : FV .f64 (qV (fl .f64 u) 13) q) (hu : FV .f64 (fop .mul .f64 (fl .f64 s) (fl .f64 s)) u)
    (hs : FV .f64 (fop .quo .f64 (fl .f64 a) (fl .f64 b)) s) (ha : FV .f64 (fop .sub .f64 (fl .f64 z) (fl .f64 4607182418800017408)) a) (hb : FV .f64 (fop .add .f64 (fl .f64 z) (fl .f64 4607182418800017408)) b) : FV .f64 (logV z e) r := by
  subst hg
  have hzf : fl .f64 z = some z := fl_const (by rw [(z_bd hz).1]; exact Nat.le_of_lt (z_bd hz).2.2)
  have es : fl .f64 s = sV z := by rw [hs.1, ha.1, hb.1, hzf]; rfl
  refine ⟨?_, hr.2⟩
  rw [hr.1, hd.1, hc.1, hh.1, hq.1, hu.1, es, (fi_fl (n := e) (by omega)).1]; rfl
/-- What the logarithm of a positive word returns. -/
def LogRet (r0 : Nat) (r : Nat) : Prop := ∃ z e, LogOf r0 z e ∧ FV .f64 (logV z e) r

/-- Facts on a positive word. -/
theorem pos_facts {y : Nat} (h0 : 3602879701896396800 ≤ y) (h1 : y < 5404319552844595200) : (FloatKind.f64.format.order y y != some .eq) = false ∧ (FloatKind.f64.format.order y 0 == some .lt) = false ∧ (FloatKind.f64.format.order y 0 == some .eq) = false ∧ (FloatKind.f64.format.order y 9218868437227405311 == some .gt) = false := by
  refine ⟨?_, ?_, ?_, ?_⟩
  · have := pos_eq (x := y) (c := y) (by rw [inf_val]; omega) (by rw [inf_val]; omega)
    rw [decide_eq_true rfl] at this
    have h2 : FloatKind.f64.format.order y y = some .eq := by simpa using this
    rw [h2]; rfl
  · rw [pos_lt (by rw [inf_val]; omega) (by omega), decide_eq_false (by omega)]
  · rw [pos_eq (by rw [inf_val]; omega) (by omega), decide_eq_false (by omega)]
  · rw [pos_gt (by rw [inf_val]; omega) (by rw [inf_val]; omega), decide_eq_false (by omega)]
end Go.Proofs.YtkfhgjknmdlhbaaGreatDoor.WL