/- The walks: LogNumber and TenthsOf. -/
import Derived.Test.YtfnplomgicgenaaWL
namespace Go.Proofs.Ytfnplomgicgenaa.WM
open Go.RowKit Fl Fs Fo Fw Fb Fm Ff Fz Fy Fx WA WB WH WI WJ WK WL
set_option maxRecDepth 20000

theorem wid_eq' {x y : Nat} (hx : rung Ieee.single x ≤ Ieee.single.infRung) (h : FC .f32 .f64 (fl .f32 x) y) : y = wid x := by
  have h1 := FC_widen h
  rw [fl_le (k := .f32) hx] at h1
  exact ((fl_some h1).1).symm
def Normal (x : Nat) : Prop := sgn Ieee.single x = false ∧ 0 < rung Ieee.single x ∧ rung Ieee.single x < Ieee.single.infRung
theorem mag_874 : ∃ C, C = 925 ∧ Ft.mag Ieee.double 3936146074321813504 = 2 ^ C := by
  obtain ⟨C, hC⟩ : ∃ C, C = 925 := ⟨_, rfl⟩
  obtain ⟨q, hq⟩ : ∃ q, q = 874 := ⟨_, rfl⟩
  refine ⟨C, hC, ?_⟩
  unfold Ft.mag
  rw [if_neg (by decide)]
  have h1 : 3936146074321813504 / Ieee.double.binade = 874 := by decide
  have h2 : 3936146074321813504 % Ieee.double.binade = 0 := by decide
  have h3 : Ieee.double.binade = 2 ^ 52 := rfl
  rw [h1, h2, h3, ← hq, Nat.add_zero, ← Nat.pow_add]
  congr 1; omega
theorem wid_pos {x : Nat} (h : Normal x) : 3602879701896396800 ≤ wid x ∧ wid x < 5404319552844595200 := by
  obtain ⟨hs, h0, h1⟩ := h
  obtain ⟨s, g1, g2, g3⟩ := widen_word h1
  have e : wid x = s := by unfold wid; rw [g3, hs]; rfl
  rw [e]
  constructor
  · obtain ⟨C, hC, hm⟩ := mag_874
    rw [← hC] at g2
    by_cases hle : 3936146074321813504 ≤ s
    · omega
    · exfalso
      have a1 := Ft.mag_lt Ieee.double (show s < 3936146074321813504 by omega)
      have a2 := Ft.mag_lt Ieee.single h0
      rw [Ft.mag_zero] at a2
      have a3 : 1 * 2 ^ C ≤ Ft.mag Ieee.single (rung Ieee.single x) * 2 ^ C := Nat.mul_le_mul_right _ a2
      omega
  · have hw : FC .f32 .f64 (fl .f32 x) (wid x) := ⟨fun _ => by
      rw [fl_le (k := .f32) (Nat.le_of_lt h1)]
      show fl .f64 (wid x) = some (wid x)
      exact fl_le (k := .f64) (Nat.le_of_lt (wid_fin h1)), wid_lt x⟩
    rcases widen_bd hw with ⟨b, hb, hr, hf⟩ | hn | ⟨b, hb, hr, _⟩
    · have e2 := (fl_some hb).1
      subst e2
      have hsr : rung Ieee.double (wid x) = s := by rw [e]; exact (pos_word (Nat.le_of_lt g1)).1
      rw [hsr] at hr
      have hP : P2 128 = 5183643171103440896 := by decide +kernel
      rw [hP] at hr
      omega
    · rw [fl_le (k := .f64) (show rung Ieee.double (wid x) ≤ Ieee.double.infRung from Nat.le_of_lt (wid_fin h1))] at hn; cases hn
    · have e2 := (fl_some hb).1
      subst e2
      have := wid_fin h1
      omega
/-- float32 against 0. -/
theorem order0 {x : Nat} (h : rung Ieee.single x ≤ Ieee.single.infRung) : FloatKind.f32.format.order x 0 = some (if rung Ieee.single x = 0 then .eq else if sgn Ieee.single x then .lt else .gt) := by
  have ho : FloatKind.f32.format.order x 0 = some (compare (sv Ieee.single x) (sv Ieee.single 0)) := order_sv Ieee.single (by decide) h (by decide)
  have hz : sv Ieee.single 0 = 0 := sv_zero .f32
  rw [ho, hz]
  by_cases h0 : rung Ieee.single x = 0
  · rw [if_pos h0]
    have : sv Ieee.single x = 0 := by unfold sv; rw [h0, Ft.mag_zero]; split <;> rfl
    rw [this]; rfl
  · rw [if_neg h0]
    have hm := Ft.mag_lt Ieee.single (show 0 < rung Ieee.single x by omega)
    rw [Ft.mag_zero] at hm
    unfold sv
    cases hs : sgn Ieee.single x
    · simp only [Bool.false_eq_true, if_false]; rw [compare_gt (by omega)]
    · simp only [if_true]; rw [compare_lt (by omega)]
theorem order0_wid {x : Nat} (h : rung Ieee.single x ≤ Ieee.single.infRung) (h0 : 0 < rung Ieee.single x) : FloatKind.f64.format.order (wid x) 0 = some (if sgn Ieee.single x then .lt else .gt) ∧ FloatKind.f64.format.order (wid x) (wid x) = some .eq := by
  have key : rung Ieee.double (wid x) ≤ Ieee.double.infRung ∧ 0 < rung Ieee.double (wid x) ∧ sgn Ieee.double (wid x) = sgn Ieee.single x := by
    by_cases hi : rung Ieee.single x < Ieee.single.infRung
    · obtain ⟨s, g1, g2, g3⟩ := widen_word hi
      unfold wid
      rw [g3, rung_word' _ _ (Nat.le_of_lt g1), sgn_word' _ _ (Nat.le_of_lt g1)]
      refine ⟨Nat.le_of_lt g1, ?_, rfl⟩
      by_cases hs : s = 0
      · exfalso
        rw [hs, Ft.mag_zero] at g2
        have a2 := Ft.mag_lt Ieee.single h0
        rw [Ft.mag_zero] at a2
        have := Nat.mul_pos a2 (Nat.two_pow_pos 925)
        omega
      · omega
    · have he : rung Ieee.single x = Ieee.single.infRung := by omega
      have e : wid x = Ieee.double.word (sgn Ieee.single x) Ieee.double.infRung := by unfold wid; rw [read_inf Ieee.single (by decide) he]; rfl
      rw [e, rung_word' Ieee.double _ (Nat.le_refl _), sgn_word' Ieee.double _ (Nat.le_refl _)]
      exact ⟨Nat.le_refl _, by decide, rfl⟩
  obtain ⟨k1, k2, k3⟩ := key
  refine ⟨?_, ?_⟩
  · have ho : FloatKind.f64.format.order (wid x) 0 = some (compare (sv Ieee.double (wid x)) (sv Ieee.double 0)) := order_sv Ieee.double (by decide) k1 (by decide)
    have hz : sv Ieee.double 0 = 0 := sv_zero .f64
    have hm := Ft.mag_lt Ieee.double k2
    rw [Ft.mag_zero] at hm
    rw [ho, hz]
    unfold sv
    rw [k3]
    cases hs : sgn Ieee.single x
    · simp only [Bool.false_eq_true, if_false]; rw [compare_gt (by omega)]
    · simp only [if_true]; rw [compare_lt (by omega)]
  · rw [order_self, (num_iff .f64 (wid x)).2 k1]; rfl

def logC (x : Nat) : Option Nat := if rung Ieee.single x = 0 then some 4286578688 else if x = 2139095040 then some 2139095040 else none
def LogRes (x r : Nat) : Prop := (Normal x ∧ ∃ s, LogRet (wid x) s ∧ FC .f64 .f32 (fl .f64 s) r) ∨ (¬ Normal x ∧ fl .f32 r = logC x)
theorem logOf_e {r0 z : Nat} {e : Int} (h : LogOf r0 z e) (h0 : 3602879701896396800 ≤ r0) (h1 : r0 < 5404319552844595200) : e.natAbs ≤ 2048 := by
  obtain ⟨a, b, c⟩ := h; omega
theorem log_same {x r s : Nat} (h1 : LogRes x r) (h2 : LogRes x s) : fl .f32 r = fl .f32 s := by
  rcases h1 with ⟨hn, a, ⟨z, e, hl, hv⟩, ha⟩ | ⟨hn, ha⟩
  · rcases h2 with ⟨_, b, ⟨z', e', hl', hv'⟩, hb⟩ | ⟨hn', _⟩
    · obtain ⟨rfl, rfl⟩ := hl.one hl'
      obtain ⟨p0, p1⟩ := wid_pos hn
      rw [hv.1] at ha
      rw [hv'.1] at hb
      exact narrow_same ((bd_log hl.2.1 (logOf_e hl p0 p1)).mono (by omega)) ha hb
    · exact absurd hn hn'
  · rcases h2 with ⟨hn', _⟩ | ⟨_, hb⟩
    · exact absurd hn' hn
    · rw [ha, hb]
theorem math_Inf_neg (w : World) : Calls Try.prog 43 #[.int .i64 (-1)] w fun e w' => e = .returned (.float .f64 18442240474082181120) ∧ w = w' := by
  go_enter Try.func43, Try.ntmps43
  go_wp2
  go_ret
  exact ⟨rfl, rfl⟩
theorem ninf_narrow {r : Nat} (h : FC .f64 .f32 (fl .f64 18442240474082181120) r) : fl .f32 r = some 4286578688 := by
  have e : fl .f64 18442240474082181120 = some 18442240474082181120 := by decide +kernel
  rw [e] at h
  rw [h.1 (by decide +kernel)]; decide +kernel
theorem pinf_narrow {r : Nat} (h : FC .f64 .f32 (fl .f64 (wid 2139095040)) r) : fl .f32 r = some 2139095040 := by
  have e : fl .f64 (wid 2139095040) = some 9218868437227405312 := by decide +kernel
  rw [e] at h
  rw [h.1 (by decide +kernel)]; decide +kernel
theorem not_nan {x : Nat} (h : rung Ieee.single x ≤ Ieee.single.infRung) : (FloatKind.f32.format.order x x != some .eq) = false := by
  rw [order_self, (num_iff .f32 x).2 h]; rfl
theorem is_nan {k : FloatKind} {x : Nat} (h : fl k x = none) (c : Nat) : (k.format.order x x != some .eq) = true ∧ (k.format.order x c == some .eq) = false ∧ (k.format.order x c == some .lt) = false := by
  refine ⟨by rw [order_self, fl_none h]; rfl, ?_, ?_⟩ <;> rw [order_fl, h] <;> rfl
/-- The classes of words. -/
theorem classes (x : Nat) (hx : x < 4294967296) : Normal x ∨ (fl .f32 x = none ∧ ¬ Normal x ∧ logC x = none) ∨ ((x = 0 ∨ x = 2147483648) ∧ ¬ Normal x ∧ logC x = some 4286578688) ∨ (x = 2139095040 ∧ ¬ Normal x ∧ logC x = some 2139095040) ∨ (sgn Ieee.single x = true ∧ 0 < rung Ieee.single x ∧ rung Ieee.single x ≤ Ieee.single.infRung ∧ ¬ Normal x ∧ logC x = none) := by
  have hi : Ieee.single.infRung = 2139095040 := by decide
  have hsw : Ieee.single.signWeight = 2147483648 := by decide
  have hr : rung Ieee.single x = x % 2147483648 := rfl
  have hs : sgn Ieee.single x = decide (2147483648 ≤ x) := by have := sgn_lt (k := .f32) hx; rw [show FloatKind.f32.format.signWeight = 2147483648 from hsw] at this; exact this
  by_cases hn : Normal x
  · exact .inl hn
  right
  by_cases h1 : rung Ieee.single x ≤ Ieee.single.infRung
  · right
    by_cases h0 : rung Ieee.single x = 0
    · left; exact ⟨by omega, hn, by unfold logC; rw [if_pos h0]⟩
    · right
      by_cases h2 : x = 2139095040
      · left; exact ⟨h2, hn, by unfold logC; rw [if_neg h0, if_pos h2]⟩
      · right
        have hsx : sgn Ieee.single x = true := by
          cases hc : sgn Ieee.single x
          · exfalso
            rw [hs] at hc
            have hc' := of_decide_eq_false hc
            exact hn ⟨by rw [hs]; exact hc, by omega, by omega⟩
          · rfl
        exact ⟨hsx, by omega, h1, hn, by unfold logC; rw [if_neg h0, if_neg h2]⟩
  · left
    refine ⟨fl_gt (k := .f32) h1, hn, ?_⟩
    unfold logC
    rw [if_neg (by omega), if_neg (by omega)]

set_option maxHeartbeats 1000000 in
theorem impl_LogNumber (x : Nat) (hx : x < 4294967296) (w : World) : Calls Try.prog 21 #[.float .f32 x] w (RetF .f32 (LogRes x) w) := by
  rcases classes x hx with hn | ⟨hf, hn, hc⟩ | ⟨hz, hn, hc⟩ | ⟨hz, hn, hc⟩ | ⟨hs, hr0, hr1, hn, hc⟩
  · have hle := Nat.le_of_lt hn.2.2
    have ho := order0 hle
    rw [if_neg (by have := hn.2.1; omega), hn.1, if_neg (by simp)] at ho
    have h1 : (FloatKind.f32.format.order x 0 == some .eq) = false := by rw [ho]; rfl
    have h2 : (FloatKind.f32.format.order x 0 == some .lt) = false := by rw [ho]; rfl
    have h3 := not_nan hle
    have hfb := finB_yes hn.2.2
    obtain ⟨p0, p1⟩ := wid_pos hn
    have HX := Lib.hid hle
    have HN := Lib.hid hn
    clear ho hle hn
    go_enter Try.func21, Try.ntmps21
    go_wp2_with (first | (refine wpList_fconv _ _ _ rfl rfl .f32 .f64 (by decide) _ rfl (by rw [Try.underlying22]; rfl) Try.underlying25 ?_; intro r n hr; obtain rfl := wid_eq' HX.out hr; clear hr) | (refine wpList_fconv _ _ _ rfl rfl .f64 .f32 (by decide) _ rfl (by rw [Try.underlying25]; rfl) Try.underlying22 ?_; intro r n hr) | (go_at_call 45; refine (impl_IsFinite _ _).mono ?_; rintro e w' ⟨rfl, n, rfl⟩) | (go_at_call 46; refine (impl_naturalLog _ p0 p1 _).mono ?_; rintro e w' ⟨r, n, hv, rfl, rfl⟩))
    go_ret
    exact ⟨_, _, .inl ⟨HN.out, _, by assumption, by assumption⟩, rfl, rfl⟩
  · obtain ⟨h1, h2, h3⟩ := is_nan hf 0
    have HN := Lib.hid hn; have HC := Lib.hid hc
    clear hf hn hc
    go_enter Try.func21, Try.ntmps21
    go_wp2_with (first | (refine wpList_fconv _ _ _ rfl rfl .f64 .f32 (by decide) _ rfl (by rw [Try.underlying25]; rfl) Try.underlying22 ?_; intro r n hr) | (go_at_call 44; refine (math_NaN _).mono ?_; rintro e w' ⟨rfl, rfl⟩))
    go_ret
    exact ⟨_, _, .inr ⟨HN.out, (nan_narrow (by assumption)).trans HC.out.symm⟩, rfl, rfl⟩
  · have HN := Lib.hid hn; have HC := Lib.hid hc
    have h1 : (FloatKind.f32.format.order x 0 == some .eq) = true := by rcases hz with rfl | rfl <;> decide +kernel
    clear hn hc hz
    go_enter Try.func21, Try.ntmps21
    go_wp2_with (first | (refine wpList_fconv _ _ _ rfl rfl .f64 .f32 (by decide) _ rfl (by rw [Try.underlying25]; rfl) Try.underlying22 ?_; intro r n hr) | (go_at_call 43; refine (math_Inf_neg _).mono ?_; rintro e w' ⟨rfl, rfl⟩))
    go_ret
    exact ⟨_, _, .inr ⟨HN.out, (ninf_narrow (by assumption)).trans HC.out.symm⟩, rfl, rfl⟩
  · have HN := Lib.hid hn; have HC := Lib.hid hc
    have h1 : (FloatKind.f32.format.order x 0 == some .eq) = false := by subst hz; decide +kernel
    have h2 : (FloatKind.f32.format.order x 0 == some .lt) = false := by subst hz; decide +kernel
    have h3 : (FloatKind.f32.format.order x x != some .eq) = false := by subst hz; decide +kernel
    have hfb : finB x = false := by subst hz; decide +kernel
    have HE := Lib.hid (show fl .f32 x = some 2139095040 by subst hz; decide +kernel)
    clear hn hc hz
    go_enter Try.func21, Try.ntmps21
    go_wp2_with (first | (refine wpList_fconv _ _ _ rfl rfl .f64 .f32 (by decide) _ rfl (by rw [Try.underlying25]; rfl) Try.underlying22 ?_; intro r n hr) | (go_at_call 45; refine (impl_IsFinite _ _).mono ?_; rintro e w' ⟨rfl, n, rfl⟩))
    go_ret
    exact ⟨_, _, .inr ⟨HN.out, HE.out.trans HC.out.symm⟩, rfl, rfl⟩
  · have ho := order0 hr1
    rw [if_neg (by omega), hs, if_pos rfl] at ho
    have h1 : (FloatKind.f32.format.order x 0 == some .eq) = false := by rw [ho]; rfl
    have h2 : (FloatKind.f32.format.order x 0 == some .lt) = true := by rw [ho]; rfl
    have HN := Lib.hid hn; have HC := Lib.hid hc
    clear ho hn hc hs hr0 hr1
    go_enter Try.func21, Try.ntmps21
    go_wp2_with (first | (refine wpList_fconv _ _ _ rfl rfl .f64 .f32 (by decide) _ rfl (by rw [Try.underlying25]; rfl) Try.underlying22 ?_; intro r n hr) | (go_at_call 44; refine (math_NaN _).mono ?_; rintro e w' ⟨rfl, rfl⟩))
    go_ret
    exact ⟨_, _, .inr ⟨HN.out, (nan_narrow (by assumption)).trans HC.out.symm⟩, rfl, rfl⟩

theorem logwide_nan (y : Nat) (h1 : (FloatKind.f64.format.order y y != some .eq) = true) (w : World) : Calls Try.prog 72 #[.float .f64 y] w (RetF .f64 (fun r => r = 9221120237041090561) w) := by
  go_enter Try.func72, Try.ntmps72
  go_wp2_with (go_at_call 44; refine (math_NaN _).mono ?_; rintro e w' ⟨rfl, rfl⟩)
  go_ret
  exact ⟨_, 0, rfl, rfl, rfl⟩
theorem logwide_neg (y : Nat) (h1 : (FloatKind.f64.format.order y y != some .eq) = false) (h2 : (FloatKind.f64.format.order y 0 == some .lt) = true) (w : World) : Calls Try.prog 72 #[.float .f64 y] w (RetF .f64 (fun r => r = 9221120237041090561) w) := by
  go_enter Try.func72, Try.ntmps72
  go_wp2_with (go_at_call 44; refine (math_NaN _).mono ?_; rintro e w' ⟨rfl, rfl⟩)
  go_ret
  exact ⟨_, 0, rfl, rfl, rfl⟩
theorem logwide_zero (y : Nat) (h1 : (FloatKind.f64.format.order y y != some .eq) = false) (h2 : (FloatKind.f64.format.order y 0 == some .lt) = false) (h3 : (FloatKind.f64.format.order y 0 == some .eq) = true) (w : World) : Calls Try.prog 72 #[.float .f64 y] w (RetF .f64 (fun r => r = 18442240474082181120) w) := by
  go_enter Try.func72, Try.ntmps72
  go_wp2_with (go_at_call 43; refine (math_Inf_neg _).mono ?_; rintro e w' ⟨rfl, rfl⟩)
  go_ret
  exact ⟨_, 0, rfl, rfl, rfl⟩
theorem logwide_inf (y : Nat) (h1 : (FloatKind.f64.format.order y y != some .eq) = false) (h2 : (FloatKind.f64.format.order y 0 == some .lt) = false) (h3 : (FloatKind.f64.format.order y 0 == some .eq) = false) (h4 : (FloatKind.f64.format.order y 9218868437227405311 == some .gt) = true) (w : World) : Calls Try.prog 72 #[.float .f64 y] w (RetF .f64 (fun r => r = y) w) := by
  go_enter Try.func72, Try.ntmps72
  go_wp2_with (go_at_call 78; refine (math_IsInf _ _).mono ?_; rintro e w' ⟨rfl, rfl⟩)
  go_ret
  exact ⟨_, 0, rfl, rfl, rfl⟩

set_option maxHeartbeats 1000000 in
theorem spec_l01Log (x : Nat) (hx : x < 4294967296) (w : World) : Calls Try.prog 52 #[.float .f32 x] w (RetF .f32 (LogRes x) w) := by
  rcases classes x hx with hn | ⟨hf, hn, hc⟩ | ⟨hz, hn, hc⟩ | ⟨hz, hn, hc⟩ | ⟨hs, hr0, hr1, hn, hc⟩
  · obtain ⟨p0, p1⟩ := wid_pos hn
    have HX := Lib.hid (Nat.le_of_lt hn.2.2)
    have HN := Lib.hid hn
    clear hn
    go_enter Try.func52, Try.ntmps52
    go_wp2_with (first | (refine wpList_fconv _ _ _ rfl rfl .f32 .f64 (by decide) _ rfl (by rw [Try.underlying22]; rfl) Try.underlying25 ?_; intro r n hr; obtain rfl := wid_eq' HX.out hr; clear hr) | (go_at_call 68; refine (spec_l01Narrow _ _).mono ?_; rintro e w' ⟨r, n, hv, rfl, rfl⟩) | (go_at_call 72; refine (spec_l01LogWide _ p0 p1 _).mono ?_; rintro e w' ⟨r, n, hv, rfl, rfl⟩))
    go_ret
    exact ⟨_, _, .inl ⟨HN.out, _, by assumption, by assumption⟩, rfl, rfl⟩
  · have HF := Lib.hid hf
    have HN := Lib.hid hn; have HC := Lib.hid hc
    clear hf hn hc
    go_enter Try.func52, Try.ntmps52
    go_wp2_with (first | (refine wpList_fconv _ _ _ rfl rfl .f32 .f64 (by decide) _ rfl (by rw [Try.underlying22]; rfl) Try.underlying25 ?_; intro r n hr) | (go_at_call 68; refine (spec_l01Narrow _ _).mono ?_; rintro e w' ⟨r, n, hv, rfl, rfl⟩) | (go_at_call 72; refine (logwide_nan _ (is_nan (k := .f64) ((FC_widen (by assumption)).trans (by rw [HF.out]; rfl)) 0).1 _).mono ?_; rintro e w' ⟨r, n, rfl, rfl, rfl⟩))
    go_ret
    exact ⟨_, _, .inr ⟨HN.out, (nan_narrow (by assumption)).trans HC.out.symm⟩, rfl, rfl⟩
  · have HN := Lib.hid hn; have HC := Lib.hid hc
    have HX := Lib.hid (show rung Ieee.single x ≤ Ieee.single.infRung by rcases hz with rfl | rfl <;> decide +kernel)
    have H1 := Lib.hid (show (FloatKind.f64.format.order (wid x) (wid x) != some .eq) = false by rcases hz with rfl | rfl <;> decide +kernel)
    have H2 := Lib.hid (show (FloatKind.f64.format.order (wid x) 0 == some .lt) = false by rcases hz with rfl | rfl <;> decide +kernel)
    have H3 := Lib.hid (show (FloatKind.f64.format.order (wid x) 0 == some .eq) = true by rcases hz with rfl | rfl <;> decide +kernel)
    clear hn hc hz
    go_enter Try.func52, Try.ntmps52
    go_wp2_with (first | (refine wpList_fconv _ _ _ rfl rfl .f32 .f64 (by decide) _ rfl (by rw [Try.underlying22]; rfl) Try.underlying25 ?_; intro r n hr; obtain rfl := wid_eq' HX.out hr; clear hr) | (go_at_call 68; refine (spec_l01Narrow _ _).mono ?_; rintro e w' ⟨r, n, hv, rfl, rfl⟩) | (go_at_call 72; refine (logwide_zero _ H1.out H2.out H3.out _).mono ?_; rintro e w' ⟨r, n, rfl, rfl, rfl⟩))
    go_ret
    exact ⟨_, _, .inr ⟨HN.out, (ninf_narrow (by assumption)).trans HC.out.symm⟩, rfl, rfl⟩
  · have HN := Lib.hid hn; have HC := Lib.hid hc
    have HX := Lib.hid (show rung Ieee.single x ≤ Ieee.single.infRung by subst hz; decide +kernel)
    have H1 := Lib.hid (show (FloatKind.f64.format.order (wid x) (wid x) != some .eq) = false by subst hz; decide +kernel)
    have H2 := Lib.hid (show (FloatKind.f64.format.order (wid x) 0 == some .lt) = false by subst hz; decide +kernel)
    have H3 := Lib.hid (show (FloatKind.f64.format.order (wid x) 0 == some .eq) = false by subst hz; decide +kernel)
    have H4 := Lib.hid (show (FloatKind.f64.format.order (wid x) 9218868437227405311 == some .gt) = true by subst hz; decide +kernel)
    have HZ := Lib.hid hz
    clear hn hc hz
    go_enter Try.func52, Try.ntmps52
    go_wp2_with (first | (refine wpList_fconv _ _ _ rfl rfl .f32 .f64 (by decide) _ rfl (by rw [Try.underlying22]; rfl) Try.underlying25 ?_; intro r n hr; obtain rfl := wid_eq' HX.out hr; clear hr) | (go_at_call 68; refine (spec_l01Narrow _ _).mono ?_; rintro e w' ⟨r, n, hv, rfl, rfl⟩) | (go_at_call 72; refine (logwide_inf _ H1.out H2.out H3.out H4.out _).mono ?_; rintro e w' ⟨r, n, rfl, rfl, rfl⟩))
    go_ret
    exact ⟨_, _, .inr ⟨HN.out, Eq.trans (pinf_narrow (by rw [← HZ.out]; assumption)) HC.out.symm⟩, rfl, rfl⟩
  · obtain ⟨k1, k2⟩ := order0_wid hr1 hr0
    rw [hs, if_pos rfl] at k1
    have H1 := Lib.hid (show (FloatKind.f64.format.order (wid x) (wid x) != some .eq) = false by rw [k2]; rfl)
    have H2 := Lib.hid (show (FloatKind.f64.format.order (wid x) 0 == some .lt) = true by rw [k1]; rfl)
    have HX := Lib.hid hr1
    have HN := Lib.hid hn; have HC := Lib.hid hc
    clear k1 k2 hn hc hs hr0 hr1
    go_enter Try.func52, Try.ntmps52
    go_wp2_with (first | (refine wpList_fconv _ _ _ rfl rfl .f32 .f64 (by decide) _ rfl (by rw [Try.underlying22]; rfl) Try.underlying25 ?_; intro r n hr; obtain rfl := wid_eq' HX.out hr; clear hr) | (go_at_call 68; refine (spec_l01Narrow _ _).mono ?_; rintro e w' ⟨r, n, hv, rfl, rfl⟩) | (go_at_call 72; refine (logwide_neg _ H1.out H2.out _).mono ?_; rintro e w' ⟨r, n, rfl, rfl, rfl⟩))
    go_ret
    exact ⟨_, _, .inr ⟨HN.out, (nan_narrow (by assumption)).trans HC.out.symm⟩, rfl, rfl⟩
theorem spec_LogNumber (x : Nat) (hx : x < 4294967296) (w : World) : Calls Try.prog 26 #[.float .f32 x] w (RetF .f32 (LogRes x) w) := by
  go_enter Try.func26, Try.ntmps26
  go_wp2_with (go_at_call 52; refine (spec_l01Log _ hx _).mono ?_; rintro e w' ⟨r, n, hv, rfl, rfl⟩)
  go_ret
  exact ⟨_, _, by assumption, rfl, rfl⟩

end Go.Proofs.Ytfnplomgicgenaa.WM