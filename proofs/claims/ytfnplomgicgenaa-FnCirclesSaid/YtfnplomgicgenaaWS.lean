/- The walks: PhasorOf. -/
import Derived.Test.YtfnplomgicgenaaWR
namespace Go.Proofs.Ytfnplomgicgenaa.WS
open Go.RowKit Fl Fs Fo Fw Fb Fm Ff Fz Fy Fx Fa Fc WA WB WH WI WJ WK WL WM WN WP WQ WR

theorem self_is {x d : Nat} (h : rung Ieee.double x < Ieee.double.infRung) (hd : FV .f64 (fop .sub .f64 (fl .f64 x) (fl .f64 x)) d) : (FloatKind.f64.format.order d 0 == some .eq) = true := by
  have := self_ok h hd
  simpa [bne] using this
theorem self_not {x d : Nat} (h : ¬ rung Ieee.double x < Ieee.double.infRung) (hd : FV .f64 (fop .sub .f64 (fl .f64 x) (fl .f64 x)) d) : (FloatKind.f64.format.order d 0 == some .eq) = false := by
  rw [sub_inf (k := .f64) (x := x) h] at hd
  rw [order_fl, hd.1]; rfl
theorem self_nq {x d : Nat} (h : ¬ rung Ieee.double x < Ieee.double.infRung) (hd : FV .f64 (fop .sub .f64 (fl .f64 x) (fl .f64 x)) d) : (FloatKind.f64.format.order d 0 != some .eq) = true := by
  have := self_not h hd
  simpa [bne] using this
theorem q_sub {s r : Nat} (h : FV .f64 (fop .sub .f64 (fl .f64 0) (fl .f64 s)) r) : fl .f64 r = fop .sub .f64 (some 0) (fl .f64 s) := by
  rw [h.1, fl_zero]
theorem Ph_mk {x f g c s r t a b j : Nat} (hq : Quarters (fracV x (tru x)) j) (hf : hV (fracV x (tru x)) j = some f) (hg : fop .sub .f64 (some quarter) (hV (fracV x (tru x)) j) = some g)
    (hc : FV .f64 (sinV (fracV g (tru g))) c) (hs : FV .f64 (sinV (fracV f (tru f))) s) (hr : fl .f64 r = reV (fl .f64 c) (fl .f64 s) j) (ht : fl .f64 t = imV (fl .f64 c) (fl .f64 s) j)
    (ha : FC .f64 .f32 (fl .f64 r) a) (hb : FC .f64 .f32 (fl .f64 t) b) : Ph x a b := by
  refine ⟨j, r, t, hq, ?_, ?_, ha, hb⟩
  · rw [hr, hg, hf, sinW_some rfl, sinW_some rfl, hc.1, hs.1]
  · rw [ht, hg, hf, sinW_some rfl, sinW_some rfl, hc.1, hs.1]
def PhT (x a b : Nat) : Prop := (¬ rung Ieee.double x < Ieee.double.infRung ∧ fl .f32 a = none ∧ fl .f32 b = none) ∨ (rung Ieee.double x < Ieee.double.infRung ∧ P2 52 ≤ rung Ieee.double x ∧ a = 1065353216 ∧ b = 0)
  ∨ (rung Ieee.double x < Ieee.double.infRung ∧ ¬ P2 52 ≤ rung Ieee.double x ∧ Ph x a b)
theorem PhT.same {x a b c d : Nat} (h : PhT x a b) (g : PhT x c d) : fl .f32 a = fl .f32 c ∧ fl .f32 b = fl .f32 d := by
  rcases h with ⟨h1, h2, h3⟩ | ⟨h1, h2, h3, h4⟩ | ⟨h1, h2, h3⟩
  · rcases g with ⟨g1, g2, g3⟩ | ⟨g1, _⟩ | ⟨g1, _⟩
    · exact ⟨h2.trans g2.symm, h3.trans g3.symm⟩
    · exact absurd g1 h1
    · exact absurd g1 h1
  · rcases g with ⟨g1, _⟩ | ⟨g1, g2, g3, g4⟩ | ⟨g1, g2, _⟩
    · exact absurd h1 g1
    · rw [h3, h4, g3, g4]; exact ⟨rfl, rfl⟩
    · exact absurd h2 g2
  · rcases g with ⟨g1, _⟩ | ⟨g1, g2, _⟩ | ⟨g1, g2, g3⟩
    · exact absurd h1 g1
    · exact absurd g2 h2
    · exact h3.same (by omega) g3
theorem j_cases {j : Nat} (h : j ≤ 4) : j = 0 ∨ j = 1 ∨ j = 2 ∨ j = 3 ∨ j = 4 := by omega

theorem impl_isFinite64_yes (x : Nat) (h : rung Ieee.double x < Ieee.double.infRung) (w : World) : Calls Try.prog 54 #[.float .f64 x] w fun e w' => e = .returned (.bool true) ∧ ∃ n, w' = w.drewN n := by
  have H := Lib.hid h
  clear h
  go_enter Try.func54, Try.ntmps54
  go_wp2_with (refine wpList_farith _ _ _ _ _ rfl rfl rfl _ _ _ rfl rfl ?_); intro d nd hd
  have h1 := self_is H.out hd
  clear hd
  go_wp2
  go_ret
  exact ⟨rfl, _, rfl⟩
theorem impl_isFinite64_no (x : Nat) (h : ¬ rung Ieee.double x < Ieee.double.infRung) (w : World) : Calls Try.prog 54 #[.float .f64 x] w fun e w' => e = .returned (.bool false) ∧ ∃ n, w' = w.drewN n := by
  have H := Lib.hid h
  clear h
  go_enter Try.func54, Try.ntmps54
  go_wp2_with (refine wpList_farith _ _ _ _ _ rfl rfl rfl _ _ _ rfl rfl ?_); intro d nd hd
  have h1 := self_not H.out hd
  clear hd
  go_wp2
  go_ret
  exact ⟨rfl, _, rfl⟩

set_option maxHeartbeats 3000000 in
theorem impl_PhasorOf (x : Nat) (hx : x < 18446744073709551616) (w : World) : Calls Try.prog 28 #[.float .f64 x] w (RetC (PhT x) w) := by
  by_cases hf : rung Ieee.double x < Ieee.double.infRung
  · have HX := Lib.hid hf
    have hba := big_abs hf
    by_cases hb : P2 52 ≤ rung Ieee.double x
    · rw [decide_eq_true hb] at hba
      have HB := Lib.hid hb
      clear hf hb
      go_enter Try.func28, Try.ntmps28
      go_wp2_with (first | (go_at_call 54; refine (impl_isFinite64_yes _ HX.out _).mono ?_; rintro e w' ⟨rfl, n, rfl⟩) | (go_at_call 48; refine (math_Abs _ hx _).mono ?_; rintro e w' ⟨rfl, rfl⟩))
      go_ret
      exact ⟨_, _, _, .inr (.inl ⟨HX.out, HB.out, rfl, rfl⟩), rfl, rfl⟩
    · rw [decide_eq_false hb] at hba
      have HNB := Lib.hid hb
      have HB := Lib.hid (show rung Ieee.double x ≤ P2 52 by omega)
      have HN := Lib.hid (tru_eq (show rung Ieee.double x ≤ P2 52 by omega))
      clear hf hb
      go_enter Try.func28, Try.ntmps28
      go_wp2_with (first | (go_at_call 54; refine (impl_isFinite64_yes _ HX.out _).mono ?_; rintro e w' ⟨rfl, n, rfl⟩) | (go_at_call 48; refine (math_Abs _ hx _).mono ?_; rintro e w' ⟨rfl, rfl⟩) | (go_at_call 55; refine (impl_fraction _ _ HN.out _).mono ?_; rintro e w' ⟨f0, n0, hf0, rfl, rfl⟩))
      go_loopw [4, 5] (fun a b wr => ∃ (j f N : Nat) (kk : Int), j ≤ 4 ∧ Hid (kk = (j : Int)) ∧ Hid (∀ i : Nat, i < j → geO (hV (fracV x (tru x)) i) quarter = true) ∧ FV .f64 (hV (fracV x (tru x)) j) f ∧ a = .float .f64 f ∧ b = .int .i64 kk ∧ wr = w.drewN N) (fun _ b _ => (4 - intOf b).toNat)
      case atStart => exact ⟨0, _, _, 0, by omega, Lib.hid rfl, Lib.hid (fun i h => absurd h (Nat.not_lt_zero i)), hf0, rfl, rfl, rfl⟩
      case round =>
        obtain ⟨j, f, N, kk, hj, HK, hall, hf, rfl, rfl, rfl⟩ := hrel
        have hge := ge_quarter hf
        have hkk := HK.out
        cases hgo : geO (hV (fracV x (tru x)) j) quarter
        · rw [hgo] at hge
          have QQ := Lib.hid (show Quarters (fracV x (tru x)) j from ⟨hj, hall.out, hgo⟩)
          obtain ⟨HF40, HFV⟩ := h_ok HB.out hj hf
          have HHF := Lib.hid hf
          obtain ⟨n1, n2, n3, n4⟩ := fin40 HF40
          have NF1 := Lib.hid n1
          have NF2 := Lib.hid n2
          have NF3 := Lib.hid n3
          have NF4 := Lib.hid n4
          clear n1 n2 n3 n4
          have VF := Lib.hid HFV
          clear hgo hall HF40 HFV hf
          rcases j_cases hj with rfl | rfl | rfl | rfl | rfl
          all_goals
            obtain rfl := hkk
            clear HK hj
            go_wp2_with (refine wpList_farith _ _ _ _ _ rfl rfl rfl _ _ _ rfl rfl ?_); intro g ng hg
            obtain ⟨HG40, HGV⟩ := g_ok HB.out (by decide) HHF.out hg
            obtain ⟨n1, n2, n3, n4⟩ := fin40 HG40
            have NG1 := Lib.hid n1
            have NG2 := Lib.hid n2
            have NG3 := Lib.hid n3
            have NG4 := Lib.hid n4
            clear n1 n2 n3 n4
            have VG := Lib.hid HGV
            clear hg HG40 HGV
            go_wp2_with fail
            refine (impl_sine g _ NG2.out _).mono ?_; rintro e w2 ⟨c, nc, hc, rfl, rfl⟩
            go_wp2_with fail
            refine (impl_sine f _ NF2.out _).mono ?_; rintro e w2 ⟨s, ns, hs, rfl, rfl⟩
            go_wp2_with (first | (refine wpList_fconv _ _ _ rfl rfl .f64 .f32 (by decide) _ rfl (by rw [Try.underlying25]; rfl) Try.underlying22 ?_; intro r n hr) | (refine wpList_farith _ _ _ _ _ rfl rfl rfl _ _ _ rfl rfl ?_; intro r n hr))
            go_ret
            exact ⟨_, _, _, .inr (.inr ⟨HX.out, HNB.out, Ph_mk QQ.out VF.out VG.out (by assumption) (by assumption) (by (first | rfl | exact q_sub (by assumption))) (by (first | rfl | exact q_sub (by assumption))) (by assumption) (by assumption)⟩), rfl, rfl⟩
        · rw [hgo] at hge
          have hj4 := j_lt HB.out hj hall.out hgo
          have hall2 := Lib.hid (all_succ hall.out hgo)
          clear hall hgo
          go_wp2_with (refine wpList_farith _ _ _ _ _ rfl rfl rfl _ _ _ rfl rfl ?_; intro r n hr)
          go_roundw
          case rel =>
            exact ⟨j + 1, _, _, (j : Int) + 1, by omega, Lib.hid (by omega), hall2, h_step hf (by assumption), rfl, rfl, rfl⟩
          case measure => simp [intOf]; omega
  · have HX := Lib.hid hf
    clear hf
    go_enter Try.func28, Try.ntmps28
    go_wp2_with (first | (go_at_call 54; refine (impl_isFinite64_no _ HX.out _).mono ?_; rintro e w' ⟨rfl, n, rfl⟩) | (refine wpList_fconv _ _ _ rfl rfl .f64 .f32 (by decide) _ rfl (by rw [Try.underlying25]; rfl) Try.underlying22 ?_; intro r n hr) | (go_at_call 44; refine (math_NaN _).mono ?_; rintro e w' ⟨rfl, rfl⟩))
    go_ret
    exact ⟨_, _, _, .inl ⟨HX.out, nan_narrow (by assumption), nan_narrow (by assumption)⟩, rfl, rfl⟩

theorem qn : fl .f32 2143289344 = none := by decide +kernel
set_option maxHeartbeats 3000000 in
theorem spec_l01Phasor (x : Nat) (w : World) : Calls Try.prog 53 #[.float .f64 x] w (RetC (PhT x) w) := by
  by_cases hf : rung Ieee.double x < Ieee.double.infRung
  · have HX := Lib.hid hf
    have h1 := big_pos hf
    have h2 := big_neg hf
    by_cases hb : P2 52 ≤ rung Ieee.double x
    · rw [decide_eq_true hb] at h1 h2
      have HB := Lib.hid hb
      clear hf hb
      cases hs : sgn Ieee.double x <;> rw [hs] at h1 h2 <;> clear hs
      all_goals
        simp only [Bool.not_false, Bool.not_true, Bool.true_and, Bool.false_and] at h1 h2
        go_enter Try.func53, Try.ntmps53
        go_wp2_with (refine wpList_farith _ _ _ _ _ rfl rfl rfl _ _ _ rfl rfl ?_); intro d0 nd0 hd0
        have hs0 := self_ok HX.out hd0
        clear hd0
        go_wp2_with fail
        go_ret
        exact ⟨_, _, _, .inr (.inl ⟨HX.out, HB.out, rfl, rfl⟩), rfl, rfl⟩
    · rw [decide_eq_false hb, Bool.and_false] at h1 h2
      have HNB := Lib.hid hb
      have HB := Lib.hid (show rung Ieee.double x ≤ P2 52 by omega)
      obtain ⟨n, hn0⟩ : ∃ n, n = tru x := ⟨_, rfl⟩
      have hn := tru_eq (show rung Ieee.double x ≤ P2 52 by omega)
      rw [← hn0] at hn
      have hc : ∀ w, (convert 25 2 (.float .f64 x)).run Try.prog w = .ok (.int .i64 n) w := fun w => run_convert_float_int w 25 2 .f64 .i64 x n (by rw [Try.underlying25]; rfl) Try.underlying2 hn
      have HN0 := Lib.hid hn0
      clear hf hb hn hn0
      go_enter Try.func53, Try.ntmps53
      go_wp2_with (refine wpList_farith _ _ _ _ _ rfl rfl rfl _ _ _ rfl rfl ?_); intro d0 nd0 hd0
      have hs0 := self_ok HX.out hd0
      clear hd0
      go_wp2_with (refine wpList_farith _ _ _ _ _ rfl rfl rfl _ _ _ rfl rfl ?_); intro d nd hd
      cases hlt : (FloatKind.f64.format.order d 0 == some .lt)
      · have hf0 := frac_no hd hlt
        rw [HN0.out] at hf0
        clear hd
        go_wp2_with fail
        go_loopw [3, 4] (fun a b wr => ∃ (j f N : Nat) (kk : Int), j ≤ 4 ∧ Hid (kk = (j : Int)) ∧ Hid (∀ i : Nat, i < j → geO (hV (fracV x (tru x)) i) quarter = true) ∧ FV .f64 (hV (fracV x (tru x)) j) f ∧ a = .float .f64 f ∧ b = .int .i64 kk ∧ wr = w.drewN N) (fun _ b _ => (4 - intOf b).toNat)
        case atStart => exact ⟨0, _, _, 0, by omega, Lib.hid rfl, Lib.hid (fun i h => absurd h (Nat.not_lt_zero i)), hf0, rfl, rfl, rfl⟩
        case round =>
          obtain ⟨j, f, N, kk, hj, HK, hall, hf, rfl, rfl, rfl⟩ := hrel
          have hge := ge_quarter hf
          have hkk := HK.out
          cases hgo : geO (hV (fracV x (tru x)) j) quarter
          · rw [hgo] at hge
            have QQ := Lib.hid (show Quarters (fracV x (tru x)) j from ⟨hj, hall.out, hgo⟩)
            obtain ⟨HF40, HFV⟩ := h_ok HB.out hj hf
            have HHF := Lib.hid hf
            obtain ⟨n1, n2, n3, n4⟩ := fin40 HF40
            have NF1 := Lib.hid n1
            have NF2 := Lib.hid n2
            have NF3 := Lib.hid n3
            have NF4 := Lib.hid n4
            clear n1 n2 n3 n4
            have VF := Lib.hid HFV
            clear hgo hall HF40 HFV hf
            rcases j_cases hj with rfl | rfl | rfl | rfl | rfl
            all_goals
              obtain rfl := hkk
              clear HK hj
              go_wp2_with (refine wpList_farith _ _ _ _ _ rfl rfl rfl _ _ _ rfl rfl ?_); intro g ng hg
              obtain ⟨HG40, HGV⟩ := g_ok HB.out (by decide) HHF.out hg
              obtain ⟨n1, n2, n3, n4⟩ := fin40 HG40
              have NG1 := Lib.hid n1
              have NG2 := Lib.hid n2
              have NG3 := Lib.hid n3
              have NG4 := Lib.hid n4
              clear n1 n2 n3 n4
              have VG := Lib.hid HGV
              clear hg HG40 HGV
              go_wp2_with fail
              refine (spec_l01SineWide g _ NG1.out NG3.out NG4.out NG2.out _).mono ?_; rintro e w2 ⟨c, nc, hc, rfl, rfl⟩
              go_wp2_with fail
              refine (spec_l01SineWide f _ NF1.out NF3.out NF4.out NF2.out _).mono ?_; rintro e w2 ⟨s, ns, hs, rfl, rfl⟩
              go_wp2_with (first | (go_at_call 68; refine (spec_l01Narrow _ _).mono ?_; rintro e w' ⟨r, n, hv, rfl, rfl⟩) | (refine wpList_farith _ _ _ _ _ rfl rfl rfl _ _ _ rfl rfl ?_; intro r n hr))
              go_ret
              exact ⟨_, _, _, .inr (.inr ⟨HX.out, HNB.out, Ph_mk QQ.out VF.out VG.out (by assumption) (by assumption) (by (first | rfl | exact q_sub (by assumption))) (by (first | rfl | exact q_sub (by assumption))) (by assumption) (by assumption)⟩), rfl, rfl⟩
          · rw [hgo] at hge
            have hj4 := j_lt HB.out hj hall.out hgo
            have hall2 := Lib.hid (all_succ hall.out hgo)
            clear hall hgo
            go_wp2_with (refine wpList_farith _ _ _ _ _ rfl rfl rfl _ _ _ rfl rfl ?_; intro r n hr)
            go_roundw
            case rel =>
              exact ⟨j + 1, _, _, (j : Int) + 1, by omega, Lib.hid (by omega), hall2, h_step hf (by assumption), rfl, rfl, rfl⟩
            case measure => simp [intOf]; omega
      · go_wp2_with (refine wpList_farith _ _ _ _ _ rfl rfl rfl _ _ _ rfl rfl ?_); intro r1 nr1 hr1
        have hf0 := frac_yes hd hlt hr1
        rw [HN0.out] at hf0
        clear hd hr1
        go_wp2_with fail
        go_loopw [3, 4] (fun a b wr => ∃ (j f N : Nat) (kk : Int), j ≤ 4 ∧ Hid (kk = (j : Int)) ∧ Hid (∀ i : Nat, i < j → geO (hV (fracV x (tru x)) i) quarter = true) ∧ FV .f64 (hV (fracV x (tru x)) j) f ∧ a = .float .f64 f ∧ b = .int .i64 kk ∧ wr = w.drewN N) (fun _ b _ => (4 - intOf b).toNat)
        case atStart => exact ⟨0, _, _, 0, by omega, Lib.hid rfl, Lib.hid (fun i h => absurd h (Nat.not_lt_zero i)), hf0, rfl, rfl, rfl⟩
        case round =>
          obtain ⟨j, f, N, kk, hj, HK, hall, hf, rfl, rfl, rfl⟩ := hrel
          have hge := ge_quarter hf
          have hkk := HK.out
          cases hgo : geO (hV (fracV x (tru x)) j) quarter
          · rw [hgo] at hge
            have QQ := Lib.hid (show Quarters (fracV x (tru x)) j from ⟨hj, hall.out, hgo⟩)
            obtain ⟨HF40, HFV⟩ := h_ok HB.out hj hf
            have HHF := Lib.hid hf
            obtain ⟨n1, n2, n3, n4⟩ := fin40 HF40
            have NF1 := Lib.hid n1
            have NF2 := Lib.hid n2
            have NF3 := Lib.hid n3
            have NF4 := Lib.hid n4
            clear n1 n2 n3 n4
            have VF := Lib.hid HFV
            clear hgo hall HF40 HFV hf
            rcases j_cases hj with rfl | rfl | rfl | rfl | rfl
            all_goals
              obtain rfl := hkk
              clear HK hj
              go_wp2_with (refine wpList_farith _ _ _ _ _ rfl rfl rfl _ _ _ rfl rfl ?_); intro g ng hg
              obtain ⟨HG40, HGV⟩ := g_ok HB.out (by decide) HHF.out hg
              obtain ⟨n1, n2, n3, n4⟩ := fin40 HG40
              have NG1 := Lib.hid n1
              have NG2 := Lib.hid n2
              have NG3 := Lib.hid n3
              have NG4 := Lib.hid n4
              clear n1 n2 n3 n4
              have VG := Lib.hid HGV
              clear hg HG40 HGV
              go_wp2_with fail
              refine (spec_l01SineWide g _ NG1.out NG3.out NG4.out NG2.out _).mono ?_; rintro e w2 ⟨c, nc, hc, rfl, rfl⟩
              go_wp2_with fail
              refine (spec_l01SineWide f _ NF1.out NF3.out NF4.out NF2.out _).mono ?_; rintro e w2 ⟨s, ns, hs, rfl, rfl⟩
              go_wp2_with (first | (go_at_call 68; refine (spec_l01Narrow _ _).mono ?_; rintro e w' ⟨r, n, hv, rfl, rfl⟩) | (refine wpList_farith _ _ _ _ _ rfl rfl rfl _ _ _ rfl rfl ?_; intro r n hr))
              go_ret
              exact ⟨_, _, _, .inr (.inr ⟨HX.out, HNB.out, Ph_mk QQ.out VF.out VG.out (by assumption) (by assumption) (by (first | rfl | exact q_sub (by assumption))) (by (first | rfl | exact q_sub (by assumption))) (by assumption) (by assumption)⟩), rfl, rfl⟩
          · rw [hgo] at hge
            have hj4 := j_lt HB.out hj hall.out hgo
            have hall2 := Lib.hid (all_succ hall.out hgo)
            clear hall hgo
            go_wp2_with (refine wpList_farith _ _ _ _ _ rfl rfl rfl _ _ _ rfl rfl ?_; intro r n hr)
            go_roundw
            case rel =>
              exact ⟨j + 1, _, _, (j : Int) + 1, by omega, Lib.hid (by omega), hall2, h_step hf (by assumption), rfl, rfl, rfl⟩
            case measure => simp [intOf]; omega
  · have HX := Lib.hid hf
    clear hf
    go_enter Try.func53, Try.ntmps53
    go_wp2_with (refine wpList_farith _ _ _ _ _ rfl rfl rfl _ _ _ rfl rfl ?_); intro d0 nd0 hd0
    have hs0 := self_nq HX.out hd0
    clear hd0
    go_wp2_with (go_at_call 65; refine (spec_l01From 2143289344 (by decide) _).mono ?_; rintro e w' ⟨rfl, rfl⟩)
    go_ret
    exact ⟨_, _, _, .inl ⟨HX.out, qn, qn⟩, rfl, rfl⟩
theorem spec_PhasorOf (x : Nat) (w : World) : Calls Try.prog 27 #[.float .f64 x] w (RetC (PhT x) w) := by
  go_enter Try.func27, Try.ntmps27
  go_wp2_with (go_at_call 53; refine (spec_l01Phasor _ _).mono ?_; rintro e w' ⟨a, b, n, hv, rfl, rfl⟩)
  go_ret
  exact ⟨_, _, _, by assumption, rfl, rfl⟩

end Go.Proofs.Ytfnplomgicgenaa.WS