/- The walks: sines. -/
import Derived.Test.YtkfhgjknmdlhbaaGreatDoorWH
import Derived.Test.YtkfhgjknmdlhbaaGreatDoorFz
namespace Go.Proofs.YtkfhgjknmdlhbaaGreatDoor.WI
open Go.RowKit Fl Fs Fo Fw Fb Fm Ff Fz WA WB WH

def ltO (o : Option Nat) (c : Nat) : Bool := fcmp .f64 o (some c) == some .lt
/-- x less its whole part n, and 1 more if that is less than 0. -/
def fracV (x : Nat) (n : Int) : Option Nat :=
  if ltO (fop .sub .f64 (fl .f64 x) (fl .f64 (floatOfInt .f64 n))) 0 then fop .add .f64 (fop .sub .f64 (fl .f64 x) (fl .f64 (floatOfInt .f64 n))) (some one)
  else fop .sub .f64 (fl .f64 x) (fl .f64 (floatOfInt .f64 n))
theorem ord_lt (d c : Nat) (hc : fl .f64 c = some c) : (FloatKind.f64.format.order d c == some .lt) = ltO (fl .f64 d) c := by rw [order_fl, hc]; rfl
theorem ord_gt (d c : Nat) (hc : fl .f64 c = some c) : (FloatKind.f64.format.order d c == some .gt) = gtO (fl .f64 d) c := by rw [order_fl, hc]; rfl
theorem ord_ge (d c : Nat) (hc : fl .f64 c = some c) : (FloatKind.f64.format.order d c == some .gt || FloatKind.f64.format.order d c == some .eq) = geO (fl .f64 d) c := by rw [order_fl, hc]; rfl
theorem frac_yes {x d r : Nat} {n : Int} (hd : FV .f64 (fop .sub .f64 (fl .f64 x) (fl .f64 (floatOfInt .f64 n))) d) (h : (FloatKind.f64.format.order d 0 == some .lt) = true)
    (hr : FV .f64 (fop .add .f64 (fl .f64 d) (fl .f64 4607182418800017408)) r) : FV .f64 (fracV x n) r := by
  rw [ord_lt d 0 (fl_zero _), hd.1] at h
  unfold fracV
  rw [if_pos h, ← hd.1]; exact hr
theorem frac_no {x d : Nat} {n : Int} (hd : FV .f64 (fop .sub .f64 (fl .f64 x) (fl .f64 (floatOfInt .f64 n))) d) (h : (FloatKind.f64.format.order d 0 == some .lt) = false) : FV .f64 (fracV x n) d := by
  rw [ord_lt d 0 (fl_zero _), hd.1] at h
  unfold fracV
  rw [if_neg (by rw [h]; simp)]; exact hd
theorem bd_frac {x : Nat} {n : Int} (h : rung Ieee.double x ≤ P2 52) (hn : floatToIntVal .f64 x .i64 = some n) : Bd 1 (fracV x n) := by
  have := frac_bd h hn
  unfold fracV
  split
  · exact bd_add this (bd_c (by decide) (by decide)) (by omega)
  · exact this.mono (by omega)

set_option maxHeartbeats 400000 in
theorem impl_fraction (x : Nat) (n : Int) (hn : floatToIntVal .f64 x .i64 = some n) (w : World) : Calls Tryz.prog 83 #[.float .f64 x] w (RetF .f64 (FV .f64 (fracV x n)) w) := by
  have hc : ∀ w, (convert 46 2 (.float .f64 x)).run Tryz.prog w = .ok (.int .i64 n) w := fun w => run_convert_float_int w 46 2 .f64 .i64 x n (by rw [Tryz.underlying46]; rfl) Tryz.underlying2 hn
  clear hn
  go_enter Tryz.func83, Tryz.ntmps83
  go_wp2_with (refine wpList_farith _ _ _ _ _ rfl rfl rfl _ _ _ rfl rfl ?_); intro d nd hd
  cases hlt : (FloatKind.f64.format.order d 0 == some .lt)
  · go_wp2_with fail
    go_ret
    exact ⟨d, _, frac_no hd hlt, rfl, rfl⟩
  · go_wp2_with (refine wpList_farith _ _ _ _ _ rfl rfl rfl _ _ _ rfl rfl ?_); intro r nr hr
    go_wp2_with fail
    go_ret
    exact ⟨r, _, frac_yes hd hlt hr, rfl, rfl⟩

theorem fold_nn {f : Nat} (hb : (FloatKind.f64.format.order f 4602678819172646912 == some .gt || FloatKind.f64.format.order f 4602678819172646912 == some .eq) = false) (hq : (FloatKind.f64.format.order f 4598175219545276416 == some .gt) = false) : fl .f64 f = foldV (fl .f64 f) := by
  rw [ord_ge f 4602678819172646912 rfl] at hb
  rw [ord_gt f 4598175219545276416 rfl] at hq
  have hb' : geO (fl .f64 f) half = false := hb
  have hq' : gtO (fl .f64 f) quarter = false := hq
  unfold foldV; rw [hb']; simp [hq']
theorem fold_nq {f g : Nat} (hb : (FloatKind.f64.format.order f 4602678819172646912 == some .gt || FloatKind.f64.format.order f 4602678819172646912 == some .eq) = false) (hq : (FloatKind.f64.format.order f 4598175219545276416 == some .gt) = true)
    (hg : FV .f64 (fop .sub .f64 (fl .f64 4602678819172646912) (fl .f64 f)) g) : fl .f64 g = foldV (fl .f64 f) := by
  rw [ord_ge f 4602678819172646912 rfl] at hb
  rw [ord_gt f 4598175219545276416 rfl] at hq
  have hb' : geO (fl .f64 f) half = false := hb
  have hq' : gtO (fl .f64 f) quarter = true := hq
  unfold foldV; rw [hb']; simp [hq']; exact hg.1
theorem fold_bn {f g : Nat} (hb : (FloatKind.f64.format.order f 4602678819172646912 == some .gt || FloatKind.f64.format.order f 4602678819172646912 == some .eq) = true) (hg : FV .f64 (fop .sub .f64 (fl .f64 f) (fl .f64 4602678819172646912)) g)
    (hq : (FloatKind.f64.format.order g 4598175219545276416 == some .gt) = false) : fl .f64 g = foldV (fl .f64 f) := by
  rw [ord_ge f 4602678819172646912 rfl] at hb
  rw [ord_gt g 4598175219545276416 rfl, hg.1] at hq
  have hb' : geO (fl .f64 f) half = true := hb
  have hq' : gtO (fop .sub .f64 (fl .f64 f) (some half)) quarter = false := hq
  unfold foldV; rw [hb']; simp [hq']; exact hg.1
theorem fold_bq {f g k : Nat} (hb : (FloatKind.f64.format.order f 4602678819172646912 == some .gt || FloatKind.f64.format.order f 4602678819172646912 == some .eq) = true) (hg : FV .f64 (fop .sub .f64 (fl .f64 f) (fl .f64 4602678819172646912)) g)
    (hq : (FloatKind.f64.format.order g 4598175219545276416 == some .gt) = true) (hk : FV .f64 (fop .sub .f64 (fl .f64 4602678819172646912) (fl .f64 g)) k) : fl .f64 k = foldV (fl .f64 f) := by
  rw [ord_ge f 4602678819172646912 rfl] at hb
  rw [ord_gt g 4598175219545276416 rfl, hg.1] at hq
  have hb' : geO (fl .f64 f) half = true := hb
  have hq' : gtO (fop .sub .f64 (fl .f64 f) (some half)) quarter = true := hq
  have h1 := hk.1
  rw [hg.1] at h1
  unfold foldV; rw [hb']; simp [hq']; exact h1
theorem sin_no {f h z u p s : Nat} (hb : (FloatKind.f64.format.order f 4602678819172646912 == some .gt || FloatKind.f64.format.order f 4602678819172646912 == some .eq) = false) (hh : fl .f64 h = foldV (fl .f64 f)) (hz : FV .f64 (fop .mul .f64 (fl .f64 h) (fl .f64 4618760256179416344)) z)
    (hu : FV .f64 (fop .mul .f64 (fl .f64 z) (fl .f64 z)) u) (hp : FV .f64 (pV (fl .f64 u) 8) p) (hs : FV .f64 (fop .mul .f64 (fl .f64 z) (fl .f64 p)) s) : FV .f64 (sinV (fl .f64 f)) s := by
  rw [ord_ge f 4602678819172646912 rfl] at hb
  have hb' : geO (fl .f64 f) half = false := hb
  have ez : fl .f64 z = zV (fl .f64 f) := by rw [hz.1, hh]; rfl
  unfold sinV; rw [hb', if_neg (by simp), ← ez, ← hu.1, ← hp.1]; exact hs
theorem neg_fl {s : Nat} (hs : s < 18446744073709551616) : fl .f64 (Op.negFloat .f64 s) = fneg (fl .f64 s) ∧ Op.negFloat .f64 s < 18446744073709551616 := by
  have e : Op.negFloat .f64 s = s ^^^ 9223372036854775808 := rfl
  rw [e]
  have hr : rung Ieee.double (s ^^^ 9223372036854775808) = rung Ieee.double s := by
    unfold rung
    have hsw : Ieee.double.signWeight = 2 ^ 63 := by decide
    rw [hsw, Nat.xor_mod_two_pow]; simp
  refine ⟨?_, Nat.xor_lt_two_pow (n := 64) hs (by decide)⟩
  by_cases h : rung Ieee.double s ≤ Ieee.double.infRung
  · rw [fl_le (k := .f64) h, fl_le (k := .f64) (by show rung Ieee.double _ ≤ _; rw [hr]; exact h)]; rfl
  · rw [fl_gt (k := .f64) h, fl_gt (k := .f64) (by show ¬ rung Ieee.double _ ≤ _; rw [hr]; exact h)]; rfl
theorem sin_yes {f h z u p s : Nat} (hb : (FloatKind.f64.format.order f 4602678819172646912 == some .gt || FloatKind.f64.format.order f 4602678819172646912 == some .eq) = true) (hh : fl .f64 h = foldV (fl .f64 f)) (hz : FV .f64 (fop .mul .f64 (fl .f64 h) (fl .f64 4618760256179416344)) z)
    (hu : FV .f64 (fop .mul .f64 (fl .f64 z) (fl .f64 z)) u) (hp : FV .f64 (pV (fl .f64 u) 8) p) (hs : FV .f64 (fop .mul .f64 (fl .f64 z) (fl .f64 p)) s) : FV .f64 (sinV (fl .f64 f)) (Op.negFloat .f64 s) := by
  rw [ord_ge f 4602678819172646912 rfl] at hb
  have hb' : geO (fl .f64 f) half = true := hb
  have ez : fl .f64 z = zV (fl .f64 f) := by rw [hz.1, hh]; rfl
  have hn := neg_fl (s := s) hs.2
  unfold sinV; rw [hb', if_pos rfl, ← ez, ← hu.1, ← hp.1, ← hs.1]; exact hn
def kf (j : Nat) : Nat := floatOfInt .f64 (8 - (j : Int))
theorem kf_ge : ∀ j < 9, (FloatKind.f64.format.order (kf j) 4607182418800017408 == some .gt || FloatKind.f64.format.order (kf j) 4607182418800017408 == some .eq) = decide (j < 8) := by decide +kernel
theorem kf_den : ∀ j < 8, fop .mul .f64 (fop .mul .f64 (some 4611686018427387904) (some (kf j))) (fop .add .f64 (fop .mul .f64 (some 4611686018427387904) (some (kf j))) (some 4607182418800017408)) = some (den j) := by decide +kernel
theorem kf_sub : ∀ j < 8, fop .sub .f64 (some (kf j)) (some 4607182418800017408) = some (kf (j + 1)) := by decide +kernel
theorem kf_fl : ∀ j < 9, fl .f64 (kf j) = some (kf j) := by decide +kernel
theorem p_step {u p q a b c d e r : Nat} {j : Nat} (hj : j < 8) (hp : FV .f64 (pV (fl .f64 u) j) p)
    (hr : FV .f64 (fop .sub .f64 (fl .f64 4607182418800017408) (fl .f64 e)) r) (he : FV .f64 (fop .quo .f64 (fl .f64 q) (fl .f64 d)) e) (hd : FV .f64 (fop .mul .f64 (fl .f64 a) (fl .f64 c)) d) (hc : FV .f64 (fop .add .f64 (fl .f64 b) (fl .f64 4607182418800017408)) c)
    (ha : FV .f64 (fop .mul .f64 (fl .f64 4611686018427387904) (fl .f64 (kf j))) a) (hb : FV .f64 (fop .mul .f64 (fl .f64 4611686018427387904) (fl .f64 (kf j))) b)
    (hq : FV .f64 (fop .mul .f64 (fl .f64 u) (fl .f64 p)) q) : FV .f64 (pV (fl .f64 u) (j + 1)) r := by
  have e2 : fl .f64 4611686018427387904 = some 4611686018427387904 := rfl
  have e1 : fl .f64 4607182418800017408 = some 4607182418800017408 := rfl
  have hd' : fl .f64 d = some (den j) := by
    rw [hd.1, hc.1, ha.1, hb.1, e2, e1, kf_fl j (by omega), kf_den j hj]
  refine ⟨?_, hr.2⟩
  rw [hr.1, he.1, hd', hq.1, hp.1]; rfl
theorem p_step2 {u p q e r : Nat} {j : Nat} (hp : FV .f64 (pV (fl .f64 u) j) p)
    (hr : FV .f64 (fop .sub .f64 (fl .f64 4607182418800017408) (fl .f64 e)) r) (he : FV .f64 (fop .quo .f64 (fl .f64 q) (fl .f64 (den j))) e) (hj : j < 8)
    (hq : FV .f64 (fop .mul .f64 (fl .f64 u) (fl .f64 p)) q) : FV .f64 (pV (fl .f64 u) (j + 1)) r := by
  refine ⟨?_, hr.2⟩
  rw [hr.1, he.1, fl_const (Nat.le_of_lt (den_ok j hj).1), hq.1, hp.1]; rfl
theorem fl_eq {a b : Nat} (h : a = b) : Value.float .f64 a = Value.float .f64 b := by rw [h]
def fbits : Value → Nat
  | .float _ b => b
  | _ => 0
theorem kf_dec : ∀ j < 8, kf (j + 1) < kf j := by decide +kernel
theorem k_step {j r : Nat} (hj : j < 8) (hr : FV .f64 (fop .sub .f64 (fl .f64 (kf j)) (fl .f64 4607182418800017408)) r) : r = kf (j + 1) := by
  have e1 : fl .f64 4607182418800017408 = some 4607182418800017408 := rfl
  have h := hr.1
  rw [kf_fl j (by omega), e1, kf_sub j hj] at h
  exact (fl_some h).1.symm
theorem k_meas {j r : Nat} (hj : j < 8) (hr : FV .f64 (fop .sub .f64 (fl .f64 (kf j)) (fl .f64 4607182418800017408)) r) : fbits (Value.float .f64 r) < fbits (Value.float .f64 (kf j)) := by
  rw [k_step hj hr]; exact kf_dec j hj

set_option maxHeartbeats 4000000 in
theorem impl_sine (x : Nat) (n : Int) (hn : floatToIntVal .f64 x .i64 = some n) (w : World) : Calls Tryz.prog 67 #[.float .f64 x] w (RetF .f64 (FV .f64 (sinV (fracV x n))) w) := by
  have HN := Lib.hid hn
  clear hn
  go_enter Tryz.func67, Tryz.ntmps67
  go_wp2_with fail
  refine (impl_fraction _ n HN.out _).mono ?_
  rintro e w' ⟨f, nf, hf, rfl, rfl⟩
  have HF := Lib.hid hf.1
  clear hf HN
  cases hb : (FloatKind.f64.format.order f 4602678819172646912 == some .gt || FloatKind.f64.format.order f 4602678819172646912 == some .eq)
  · cases hq : (FloatKind.f64.format.order f 4598175219545276416 == some .gt)
    · have hh := Lib.hid (fold_nn hb hq)
      go_wp2_with (refine wpList_farith _ _ _ _ _ rfl rfl rfl _ _ _ rfl rfl ?_); intro z nz hz
      go_wp2_with (refine wpList_farith _ _ _ _ _ rfl rfl rfl _ _ _ rfl rfl ?_); intro u nu hu
      go_wp2_with fail
      go_loopw [7, 8] (fun a b wr => ∃ j r N, j ≤ 8 ∧ FV .f64 (pV (fl .f64 u) j) r ∧ a = .float .f64 r ∧ b = .float .f64 (kf j) ∧ wr = w.drewN N) (fun _ b _ => fbits b)
      case atStart => exact ⟨0, _, _, by omega, ⟨rfl, by decide⟩, rfl, rfl, rfl⟩
      case round =>
        obtain ⟨j, p, N, hj, hp, rfl, rfl, rfl⟩ := hrel
        have hge := kf_ge j (by omega)
        by_cases hlt : j < 8
        · rw [decide_eq_true hlt] at hge
          go_wp2_with (refine wpList_farith _ _ _ _ _ rfl rfl rfl _ _ _ rfl rfl ?_; intro r n hr)
          go_roundw
          case rel =>
            refine ⟨j + 1, _, _, by omega, ?_, rfl, ?_, rfl⟩
            · exact p_step hlt hp (by assumption) (by assumption) (by assumption) (by assumption) (by assumption) (by assumption) (by assumption)
            · exact fl_eq (k_step hlt (by assumption))
          case measure => exact k_meas hlt (by assumption)
        · rw [decide_eq_false hlt] at hge
          obtain rfl : j = 8 := by omega
          go_wp2_with (first | (refine wpList_farith _ _ _ _ _ rfl rfl rfl _ _ _ rfl rfl ?_; intro r n hr) | (refine wpList_fneg _ _ rfl rfl _ _ rfl ?_))
          go_ret
          exact ⟨_, _, HF.out ▸ sin_no hb hh.out hz hu hp (by assumption), rfl, rfl⟩
    · go_wp2_with (refine wpList_farith _ _ _ _ _ rfl rfl rfl _ _ _ rfl rfl ?_); intro g ng hg
      have hh := Lib.hid (fold_nq hb hq hg)
      go_wp2_with (refine wpList_farith _ _ _ _ _ rfl rfl rfl _ _ _ rfl rfl ?_); intro z nz hz
      go_wp2_with (refine wpList_farith _ _ _ _ _ rfl rfl rfl _ _ _ rfl rfl ?_); intro u nu hu
      go_wp2_with fail
      go_loopw [7, 8] (fun a b wr => ∃ j r N, j ≤ 8 ∧ FV .f64 (pV (fl .f64 u) j) r ∧ a = .float .f64 r ∧ b = .float .f64 (kf j) ∧ wr = w.drewN N) (fun _ b _ => fbits b)
      case atStart => exact ⟨0, _, _, by omega, ⟨rfl, by decide⟩, rfl, rfl, rfl⟩
      case round =>
        obtain ⟨j, p, N, hj, hp, rfl, rfl, rfl⟩ := hrel
        have hge := kf_ge j (by omega)
        by_cases hlt : j < 8
        · rw [decide_eq_true hlt] at hge
          go_wp2_with (refine wpList_farith _ _ _ _ _ rfl rfl rfl _ _ _ rfl rfl ?_; intro r n hr)
          go_roundw
          case rel =>
            refine ⟨j + 1, _, _, by omega, ?_, rfl, ?_, rfl⟩
            · exact p_step hlt hp (by assumption) (by assumption) (by assumption) (by assumption) (by assumption) (by assumption) (by assumption)
            · exact fl_eq (k_step hlt (by assumption))
          case measure => exact k_meas hlt (by assumption)
        · rw [decide_eq_false hlt] at hge
          obtain rfl : j = 8 := by omega
          go_wp2_with (first | (refine wpList_farith _ _ _ _ _ rfl rfl rfl _ _ _ rfl rfl ?_; intro r n hr) | (refine wpList_fneg _ _ rfl rfl _ _ rfl ?_))
          go_ret
          exact ⟨_, _, HF.out ▸ sin_no hb hh.out hz hu hp (by assumption), rfl, rfl⟩
  · go_wp2_with (refine wpList_farith _ _ _ _ _ rfl rfl rfl _ _ _ rfl rfl ?_); intro g ng hg
    cases hq : (FloatKind.f64.format.order g 4598175219545276416 == some .gt)
    · have hh := Lib.hid (fold_bn hb hg hq)
      go_wp2_with (refine wpList_farith _ _ _ _ _ rfl rfl rfl _ _ _ rfl rfl ?_); intro z nz hz
      go_wp2_with (refine wpList_farith _ _ _ _ _ rfl rfl rfl _ _ _ rfl rfl ?_); intro u nu hu
      go_wp2_with fail
      go_loopw [7, 8] (fun a b wr => ∃ j r N, j ≤ 8 ∧ FV .f64 (pV (fl .f64 u) j) r ∧ a = .float .f64 r ∧ b = .float .f64 (kf j) ∧ wr = w.drewN N) (fun _ b _ => fbits b)
      case atStart => exact ⟨0, _, _, by omega, ⟨rfl, by decide⟩, rfl, rfl, rfl⟩
      case round =>
        obtain ⟨j, p, N, hj, hp, rfl, rfl, rfl⟩ := hrel
        have hge := kf_ge j (by omega)
        by_cases hlt : j < 8
        · rw [decide_eq_true hlt] at hge
          go_wp2_with (refine wpList_farith _ _ _ _ _ rfl rfl rfl _ _ _ rfl rfl ?_; intro r n hr)
          go_roundw
          case rel =>
            refine ⟨j + 1, _, _, by omega, ?_, rfl, ?_, rfl⟩
            · exact p_step hlt hp (by assumption) (by assumption) (by assumption) (by assumption) (by assumption) (by assumption) (by assumption)
            · exact fl_eq (k_step hlt (by assumption))
          case measure => exact k_meas hlt (by assumption)
        · rw [decide_eq_false hlt] at hge
          obtain rfl : j = 8 := by omega
          go_wp2_with (first | (refine wpList_farith _ _ _ _ _ rfl rfl rfl _ _ _ rfl rfl ?_; intro r n hr) | (refine wpList_fneg _ _ rfl rfl _ _ rfl ?_))
          go_ret
          exact ⟨_, _, HF.out ▸ sin_yes hb hh.out hz hu hp (by assumption), rfl, rfl⟩
    · go_wp2_with (refine wpList_farith _ _ _ _ _ rfl rfl rfl _ _ _ rfl rfl ?_); intro k nk hk
      have hh := Lib.hid (fold_bq hb hg hq hk)
      go_wp2_with (refine wpList_farith _ _ _ _ _ rfl rfl rfl _ _ _ rfl rfl ?_); intro z nz hz
      go_wp2_with (refine wpList_farith _ _ _ _ _ rfl rfl rfl _ _ _ rfl rfl ?_); intro u nu hu
      go_wp2_with fail
      go_loopw [7, 8] (fun a b wr => ∃ j r N, j ≤ 8 ∧ FV .f64 (pV (fl .f64 u) j) r ∧ a = .float .f64 r ∧ b = .float .f64 (kf j) ∧ wr = w.drewN N) (fun _ b _ => fbits b)
      case atStart => exact ⟨0, _, _, by omega, ⟨rfl, by decide⟩, rfl, rfl, rfl⟩
      case round =>
        obtain ⟨j, p, N, hj, hp, rfl, rfl, rfl⟩ := hrel
        have hge := kf_ge j (by omega)
        by_cases hlt : j < 8
        · rw [decide_eq_true hlt] at hge
          go_wp2_with (refine wpList_farith _ _ _ _ _ rfl rfl rfl _ _ _ rfl rfl ?_; intro r n hr)
          go_roundw
          case rel =>
            refine ⟨j + 1, _, _, by omega, ?_, rfl, ?_, rfl⟩
            · exact p_step hlt hp (by assumption) (by assumption) (by assumption) (by assumption) (by assumption) (by assumption) (by assumption)
            · exact fl_eq (k_step hlt (by assumption))
          case measure => exact k_meas hlt (by assumption)
        · rw [decide_eq_false hlt] at hge
          obtain rfl : j = 8 := by omega
          go_wp2_with (first | (refine wpList_farith _ _ _ _ _ rfl rfl rfl _ _ _ rfl rfl ?_; intro r n hr) | (refine wpList_fneg _ _ rfl rfl _ _ rfl ?_))
          go_ret
          exact ⟨_, _, HF.out ▸ sin_yes hb hh.out hz hu hp (by assumption), rfl, rfl⟩

end Go.Proofs.YtkfhgjknmdlhbaaGreatDoor.WI