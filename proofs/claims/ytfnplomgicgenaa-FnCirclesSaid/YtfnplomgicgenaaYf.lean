/- Circles: the plain facts. -/
import Derived.Test.YtfnplomgicgenaaYa
import Derived.Test.YtfnplomgicgenaaYb0
import Derived.Test.YtfnplomgicgenaaYb1
import Derived.Test.YtfnplomgicgenaaYb2
import Derived.Test.YtfnplomgicgenaaYb3
import Derived.Test.YtfnplomgicgenaaYd0
import Derived.Test.YtfnplomgicgenaaYd1
import Derived.Test.YtfnplomgicgenaaYd2
import Derived.Test.YtfnplomgicgenaaYd3
import Derived.Test.YtfnplomgicgenaaYd4
import Derived.Test.YtfnplomgicgenaaYd5
import Derived.Test.YtfnplomgicgenaaYd6
import Derived.Test.YtfnplomgicgenaaYd7
import Derived.Test.YtfnplomgicgenaaYd8
import Derived.Test.YtfnplomgicgenaaYd9
import Derived.Test.YtfnplomgicgenaaYd10
import Derived.Test.YtfnplomgicgenaaYd11
import Derived.Test.YtfnplomgicgenaaYd12
import Derived.Test.YtfnplomgicgenaaYe
namespace Go.Proofs.Ytfnplomgicgenaa.Yf
open Go Go.RowKit Fl Fs Fo Fw Fb Fm Ff Fz Fy Fx Fa Fc WA WB WH WI WJ WK WL WM WN WP WQ WR WS Ye
open Ya (tT reT imT wreT wimT cT sT rT iT pT qT wqT agT wagT awT tuT whT wiT)
open Yc (pw)
set_option linter.unusedVariables false
theorem fl_int (n : Int) : fl .f64 (floatOfInt .f64 n) = some (floatOfInt .f64 n) := fl_num (write_not_nan _ (binade_le .f64) (.number _ _ _) rfl)
theorem fl_int32 (n : Int) : fl .f32 (floatOfInt .f32 n) = some (floatOfInt .f32 n) := fl_num (write_not_nan _ (binade_le .f32) (.number _ _ _) rfl)
theorem x_turn {k x : Nat} {n : Int} (hk : k < 511) (hn : n = (k : Int) - 256) (hx : FV .f64 (fop .quo .f64 (fl .f64 (floatOfInt .f64 n)) (fl .f64 4634204016564240384)) x) : x = tT k := by
  subst hn
  have h := Ya.t_at hk
  simp only [Ya.okT, Bool.and_eq_true, beq_iff_eq, decide_eq_true_eq, Bool.not_eq_true'] at h
  have e := hx.1
  rw [fl_int, show fl .f64 4634204016564240384 = some Ya.c64 from rfl, h.1.1.1.1] at e
  exact (fl_some e).1.symm
theorem x_lt {k x : Nat} (hk : k < 511) (hx : x = tT k) (h : ∃ o, FV .f64 o x) : x < 18446744073709551616 := h.choose_spec.2
theorem q_is {F : Option Nat} {q : Nat} (h : Ya.qOk F q = true) (hq : q ≤ 4) : Quarters F q := by
  unfold Ya.qOk at h
  simp only [Bool.and_eq_true, Bool.not_eq_true', List.all_eq_true] at h
  exact ⟨hq, fun i hi => h.1 i (List.mem_range.2 hi), h.2⟩
theorem nar {o : Option Nat} {v r : Nat} (h0 : over .f64 .f32 o = false) (h1 : fconv .f64 .f32 o = some v) (h : FC .f64 .f32 o r) : r = v := by
  have e := h.1 h0
  rw [h1] at e
  exact (fl_some e).1.symm
theorem ph {k x a b : Nat} (hk : k < 511) (hx : x = tT k) (h : PhT x a b) : a = reT (k % 64) ∧ b = imT (k % 64) := by
  subst hx
  have t := Ya.t_at hk
  simp only [Ya.okT, Bool.and_eq_true, beq_iff_eq, decide_eq_true_eq, Bool.not_eq_true', decide_eq_false_iff_not] at t
  obtain ⟨⟨⟨_, hfin⟩, hsm⟩, hfr⟩ := t
  have hm : k % 64 < 64 := Nat.mod_lt _ (by omega)
  generalize k % 64 = m at hfr hm ⊢
  have u := Ya.m_at hm
  simp only [Ya.okM, Bool.and_eq_true, beq_iff_eq] at u
  obtain ⟨⟨⟨⟨⟨⟨⟨⟨hQ, hC⟩, hS⟩, hR⟩, hI⟩, oR⟩, oI⟩, nR⟩, nI⟩ := u
  rcases h with ⟨h1, _⟩ | ⟨_, h2, _⟩ | ⟨_, _, q, r, s, hq, hr, hs, ha, hb⟩
  · exact absurd hfin h1
  · exact absurd h2 hsm
  · rw [hfr] at hq hr hs
    obtain rfl := hq.one (q_is hQ (by omega))
    rw [hC, hS, hR] at hr
    rw [hC, hS, hI] at hs
    rw [hr] at ha
    rw [hs] at hb
    exact ⟨nar oR nR ha, nar oI nI hb⟩
/-- What is known of m 64ths. -/
structure Pm (m : Nat) : Prop where
  fr : fl .f32 (reT m) = some (reT m)
  fi : fl .f32 (imT m) = some (imT m)
  wr : wv (reT m) = some (wreT m)
  wi : wv (imT m) = some (wimT m)
  pv : pV (wv (reT m)) (wv (imT m)) = some (pT m)
  ov : over .f64 .f32 (some (pT m)) = false
  nv : fconv .f64 .f32 (some (pT m)) = some (qT m)
  wq : fconv .f32 .f64 (some (qT m)) = some (wqT m)
  gp : (fcmp .f64 (Xc.gapV (some (wqT m)) (some one)) (some Ya.tiny) == some .gt) = false
  an : angT (imT m) (reT m) = some (agT m)
  wa : fconv .f32 .f64 (some (agT m)) = some (wagT m)
  am : fop .mul .f64 (some (wagT m)) (some Ya.c64) = some (awT m)
  sx : m % 16 = 0 → ((fcmp .f64 (Xc.gapV (some (wreT m)) (some 0)) (some 0) == some .eq) = true ∨ (fcmp .f64 (Xc.gapV (some (wreT m)) (some 0)) (some one) == some .eq) = true)
theorem pm {m : Nat} (hm : m < 64) : Pm m := by
  have h := Ya.p_at hm
  simp only [Ya.okP, Bool.and_eq_true, beq_iff_eq, Bool.or_eq_true, decide_eq_true_eq] at h
  obtain ⟨⟨⟨⟨⟨⟨⟨⟨⟨⟨⟨⟨h1, h2⟩, h3⟩, h4⟩, h5⟩, h6⟩, h7⟩, h8⟩, h9⟩, h10⟩, h11⟩, h12⟩, h13⟩ := h
  have w1 : wv (reT m) = some (wreT m) := by unfold wv; rw [h1]; exact h3
  have w2 : wv (imT m) = some (wimT m) := by unfold wv; rw [h2]; exact h4
  refine ⟨h1, h2, w1, w2, by rw [w1, w2]; exact h5, h6, h7, h8, h9, h10, h11, h12, fun e => ?_⟩
  rcases h13 with h | h | h
  · exact absurd e h
  · exact .inl (beq_iff_eq.2 h)
  · exact .inr (beq_iff_eq.2 h)
theorem pow_ok {m a b r y g : Nat} (hm : m < 64) (ha : a = reT m) (hb : b = imT m) (hr : FC .f64 .f32 (pV (wv a) (wv b)) r) (hy : FC .f32 .f64 (fl .f32 r) y) (hg : FV .f64 (Xc.gapV (fl .f64 y) (fl .f64 4607182418800017408)) g) :
    (FloatKind.f64.format.order g 4547007122018943789 == some .gt) = false := by
  have P := pm hm
  rw [ha, hb, P.pv] at hr
  have e := hr.1 P.ov
  rw [P.nv] at e
  have e2 := FC_widen hy
  rw [e, P.wq] at e2
  rw [order_fl, hg.1, e2]
  exact P.gp
theorem ang_ok {m a b r y v : Nat} (hm : m < 64) (ha : a = reT m) (hb : b = imT m) (hr : fl .f32 r = angT b a) (hy : FC .f32 .f64 (fl .f32 r) y) (hv : FV .f64 (fop .mul .f64 (fl .f64 y) (fl .f64 4634204016564240384)) v) : fl .f64 v = some (awT m) := by
  have P := pm hm
  rw [ha, hb, P.an] at hr
  have e2 := FC_widen hy
  rw [hr, P.wa] at e2
  rw [hv.1, e2]
  exact P.am
structure Am (i : Nat) : Prop where
  t : fop .sub .f64 (some (awT (i % 64))) (some (floatOfInt .f64 ((i : Int) - 128))) = some (tuT i)
  z : fop .add .f64 (some (tuT i)) (some Ya.big) = some (whT i)
  c : floatToIntVal .f64 (whT i) .i64 = some (wiT i)
  g : (fcmp .f64 (Xc.gapV (some (tuT i)) (some (floatOfInt .f64 (wiT i - 10000)))) (some Ya.mil) == some .gt) = false
  r : (wiT i - 10000).tmod 64 = 0
  lo : -1000 ≤ wiT i
  hi : wiT i ≤ 100000
theorem am {i : Nat} (hi : i < 256) : Am i := by
  have h := Ya.a_at hi
  simp only [Ya.okA, Bool.and_eq_true, beq_iff_eq, decide_eq_true_eq] at h
  obtain ⟨⟨⟨⟨⟨⟨⟨⟨h1, h2⟩, h3⟩, h4⟩, h5⟩, h6⟩, h7⟩, h8⟩, h9⟩ := h
  exact ⟨h1, h3, h4, h5, h7, h8, h9⟩
theorem turn_ok {i v t : Nat} {n : Int} (hi : i < 256) (hn : n = (i : Int) - 128) (hv : fl .f64 v = some (awT (i % 64))) (ht : FV .f64 (fop .sub .f64 (fl .f64 v) (fl .f64 (floatOfInt .f64 n))) t) : fl .f64 t = some (tuT i) := by
  subst hn
  rw [ht.1, hv, fl_int]; exact (am hi).t
theorem whole_ok {i t z : Nat} (hi : i < 256) (ht : fl .f64 t = some (tuT i)) (hz : FV .f64 (fop .add .f64 (fl .f64 t) (fl .f64 4666723447345250304)) z) : floatToIntVal .f64 z .i64 = some (wiT i) := by
  have e := hz.1
  rw [ht, show fl .f64 4666723447345250304 = some Ya.big from rfl, (am hi).z] at e
  obtain ⟨h, _⟩ := fl_some e
  rw [← h]; exact (am hi).c
theorem gap_ok {i t g : Nat} {n : Int} (hi : i < 256) (hn : n = wiT i - 10000) (ht : fl .f64 t = some (tuT i)) (hg : FV .f64 (Xc.gapV (fl .f64 t) (fl .f64 (floatOfInt .f64 n))) g) : (FloatKind.f64.format.order g 4562254508917369340 == some .gt) = false := by
  subst hn
  rw [order_fl, hg.1, ht, fl_int]
  exact (am hi).g
theorem n_at {m n : Nat} (hm : m < 64) (hn : n < 64) : Ya.okN m n = true := by
  by_cases h1 : m < 16
  · exact List.all_eq_true.1 (Yb0.all m (by omega) h1) n (List.mem_range.2 hn)
  by_cases h2 : m < 32
  · exact List.all_eq_true.1 (Yb1.all m (by omega) h2) n (List.mem_range.2 hn)
  by_cases h3 : m < 48
  · exact List.all_eq_true.1 (Yb2.all m (by omega) h3) n (List.mem_range.2 hn)
  · exact List.all_eq_true.1 (Yb3.all m (by omega) hm) n (List.mem_range.2 hn)
theorem near_ok {m n a b c d e f r s : Nat} (hm : m < 64) (hn : n < 64) (ha : a = reT m) (hb : b = imT m) (hc : c = reT n) (hd : d = imT n) (he : e = reT ((m + n) % 64)) (hf : f = imT ((m + n) % 64))
    (hr : FC .f64 .f32 (mRe (wv a) (wv b) (wv c) (wv d)) r) (hs : FC .f64 .f32 (mIm (wv a) (wv b) (wv c) (wv d)) s) :
    leC (Xc.gapV (wv r) (wv e)) (fl .f64 4547007122018943789) = true ∧ leC (Xc.gapV (wv s) (wv f)) (fl .f64 4547007122018943789) = true := by
  have P := pm hm
  have Q := pm hn
  have R := pm (m := (m + n) % 64) (Nat.mod_lt _ (by omega))
  have h := n_at hm hn
  simp only [Ya.okN, Bool.and_eq_true, beq_iff_eq] at h
  obtain ⟨⟨⟨h1, h2⟩, h3⟩, h4⟩ := h
  rw [ha, hb, hc, hd, P.wr, P.wi, Q.wr, Q.wi] at hr hs
  have e1 := hr.1 h1
  have e2 := hs.1 h2
  unfold wv
  rw [e1, e2]
  have w1 := R.wr
  have w2 := R.wi
  unfold wv at w1 w2
  rw [he, hf, w1, w2]
  exact ⟨h3, h4⟩
theorem side {m a : Nat} (hm : m < 64) (h16 : m % 16 = 0) (ha : a = reT m) :
    (∀ y g, FC .f32 .f64 (fl .f32 a) y → FV .f64 (Xc.gapV (fl .f64 y) (fl .f64 0)) g → (FloatKind.f64.format.order g 0 != some .eq) = false) ∨ (∀ y g, FC .f32 .f64 (fl .f32 a) y → FV .f64 (Xc.gapV (fl .f64 y) (fl .f64 0)) g → (FloatKind.f64.format.order g 4607182418800017408 != some .eq) = false) := by
  have P := pm hm
  have e : ∀ y, FC .f32 .f64 (fl .f32 a) y → fl .f64 y = some (wreT m) := by
    intro y hy
    rw [FC_widen hy, ha]; exact P.wr
  rcases P.sx h16 with h | h
  · left; intro y g hy hg
    rw [order_fl, hg.1, e y hy, show fl .f64 0 = some 0 from rfl]
    simpa using h
  · right; intro y g hy hg
    rw [order_fl, hg.1, e y hy, show fl .f64 0 = some 0 from rfl, show fl .f64 4607182418800017408 = some one from rfl]
    simpa using h
/-- Tenths. -/
theorem row_at {a : Nat} (h : a < 400) : Yc.Row a := by
  by_cases h0 : a < 4
  · exact Yd0.all _ (by omega) h0
  by_cases h1 : a < 9
  · exact Yd1.all _ (by omega) h1
  by_cases h2 : a < 15
  · exact Yd2.all _ (by omega) h2
  by_cases h3 : a < 22
  · exact Yd3.all _ (by omega) h3
  by_cases h4 : a < 31
  · exact Yd4.all _ (by omega) h4
  by_cases h5 : a < 42
  · exact Yd5.all _ (by omega) h5
  by_cases h6 : a < 56
  · exact Yd6.all _ (by omega) h6
  by_cases h7 : a < 74
  · exact Yd7.all _ (by omega) h7
  by_cases h8 : a < 98
  · exact Yd8.all _ (by omega) h8
  by_cases h9 : a < 130
  · exact Yd9.all _ (by omega) h9
  by_cases h10 : a < 180
  · exact Yd10.all _ (by omega) h10
  by_cases h11 : a < 260
  · exact Yd11.all _ (by omega) h11
  exact Yd12.all _ (by omega) h
theorem odd_at {c : Nat} (h : c < 20000) : ∃ e, Yc.okEnt (2 * c + 1) e = true := by
  have := (row_at (a := c / 50) (by omega)).at_ (d := c % 50) (Nat.mod_lt _ (by omega))
  rwa [show 100 * (c / 50) + 1 + 2 * (c % 50) = 2 * c + 1 by omega] at this
theorem oo_at {a : Nat} (ha : a < 100) : Yc.okO a = true := by
  by_cases h0 : a < 7
  · exact Yd0.allO _ (by omega) h0
  by_cases h1 : a < 15
  · exact Yd1.allO _ (by omega) h1
  by_cases h2 : a < 23
  · exact Yd2.allO _ (by omega) h2
  by_cases h3 : a < 30
  · exact Yd3.allO _ (by omega) h3
  by_cases h4 : a < 38
  · exact Yd4.allO _ (by omega) h4
  by_cases h5 : a < 46
  · exact Yd5.allO _ (by omega) h5
  by_cases h6 : a < 53
  · exact Yd6.allO _ (by omega) h6
  by_cases h7 : a < 61
  · exact Yd7.allO _ (by omega) h7
  by_cases h8 : a < 69
  · exact Yd8.allO _ (by omega) h8
  by_cases h9 : a < 76
  · exact Yd9.allO _ (by omega) h9
  by_cases h10 : a < 84
  · exact Yd10.allO _ (by omega) h10
  by_cases h11 : a < 92
  · exact Yd11.allO _ (by omega) h11
  exact Yd12.allO _ (by omega) ha
theorem o_at {a b : Nat} (ha : a < 100) (hb : b < 100) : Yc.bits.testBit ((2 * a + 1) * (2 * b + 1)) = true := List.all_eq_true.1 (oo_at ha) b (List.mem_range.2 hb)
/-- Products of two numbers from 1 to 200. -/
def InS (p : Nat) : Prop := ∃ i j, i < 200 ∧ j < 200 ∧ p = (i + 1) * (j + 1)
theorem InS.le {p : Nat} (h : InS p) : 0 < p ∧ p ≤ 40000 := by
  obtain ⟨i, j, hi, hj, rfl⟩ := h
  exact ⟨Nat.mul_pos (by omega) (by omega), Nat.le_trans (Nat.mul_le_mul (show i + 1 ≤ 200 by omega) (show j + 1 ≤ 200 by omega)) (by omega)⟩
theorem odd_lt {n a s : Nat} (h : n = (2 * a + 1) * 2 ^ s) (hn : n ≤ 200) : a < 100 := by
  have h3 : (2 * a + 1) * 1 ≤ (2 * a + 1) * 2 ^ s := Nat.mul_le_mul_left _ (Nat.two_pow_pos s)
  omega
theorem ten_at {p : Nat} (h : InS p) : ∃ z, Yc.okTen p z (Yc.hp z) = true := by
  obtain ⟨h0, h1⟩ := h.le
  obtain ⟨i, j, hi, hj, hp⟩ := h
  obtain ⟨a, s, ea⟩ := Yc.odd_part (i + 1) (by omega)
  obtain ⟨b, t, eb⟩ := Yc.odd_part (j + 1) (by omega)
  have hob := o_at (odd_lt ea (by omega)) (odd_lt eb (by omega))
  have e : p = (2 * a + 1) * (2 * b + 1) * 2 ^ (s + t) := by rw [hp, ea, eb, Nat.pow_add, Nat.mul_mul_mul_comm]
  obtain ⟨c, hc⟩ : ∃ c, (2 * a + 1) * (2 * b + 1) = 2 * c + 1 := by
    refine ⟨2 * (a * b) + a + b, ?_⟩
    rw [Nat.add_mul, Nat.mul_add, Nat.one_mul, Nat.mul_one]
    have : 2 * a * (2 * b) = 4 * (a * b) := by rw [Nat.mul_mul_mul_comm]
    omega
  generalize s + t = k at e
  rw [hc] at e hob
  have hpk := Nat.two_pow_pos k
  have hk : k < 16 := by
    by_cases hk : k < 16
    · exact hk
    · exfalso
      have h2 : 2 ^ 16 ≤ 2 ^ k := Nat.pow_le_pow_right (by omega) (by omega)
      have h3 : 1 * 2 ^ k ≤ (2 * c + 1) * 2 ^ k := Nat.mul_le_mul_right _ (by omega)
      rw [← e] at h3
      omega
  have hcl : c < 20000 := by
    have h3 : (2 * c + 1) * 1 ≤ (2 * c + 1) * 2 ^ k := Nat.mul_le_mul_left _ hpk
    rw [← e] at h3
    omega
  obtain ⟨en, h⟩ := odd_at hcl
  rw [e] at h1 ⊢
  exact Yc.ent_ten h hk hob h1
theorem xx_at {i : Nat} (hi : i < 200) : Yc.okX i = true := by
  by_cases h0 : i < 15
  · exact Yd0.allX _ (by omega) h0
  by_cases h1 : i < 30
  · exact Yd1.allX _ (by omega) h1
  by_cases h2 : i < 46
  · exact Yd2.allX _ (by omega) h2
  by_cases h3 : i < 61
  · exact Yd3.allX _ (by omega) h3
  by_cases h4 : i < 76
  · exact Yd4.allX _ (by omega) h4
  by_cases h5 : i < 92
  · exact Yd5.allX _ (by omega) h5
  by_cases h6 : i < 107
  · exact Yd6.allX _ (by omega) h6
  by_cases h7 : i < 123
  · exact Yd7.allX _ (by omega) h7
  by_cases h8 : i < 138
  · exact Yd8.allX _ (by omega) h8
  by_cases h9 : i < 153
  · exact Yd9.allX _ (by omega) h9
  by_cases h10 : i < 169
  · exact Yd10.allX _ (by omega) h10
  by_cases h11 : i < 184
  · exact Yd11.allX _ (by omega) h11
  exact Yd12.allX _ (by omega) hi
theorem mul_at {i j : Nat} (hi : i < 200) (hj : j < 200) : fop .mul .f32 (some (pw (8 * (i + 1)))) (some (pw (8 * (j + 1)))) = some (pw ((i + 1) * (j + 1))) := by
  have := List.all_eq_true.1 (xx_at hi) j (List.mem_range.2 hj)
  simpa using this
theorem i_at {i : Nat} (hi : i < 200) : fop .quo .f32 (some (floatOfInt .f32 (1 + (i : Int)))) (some 1090519040) = some (pw (8 * (i + 1))) := by
  have := List.all_eq_true.1 Yc.all_okI i (List.mem_range.2 hi)
  simp only [Yc.okI, Bool.and_eq_true, beq_iff_eq] at this
  exact this.1
theorem inS8 {i : Nat} (hi : i < 200) : InS (8 * (i + 1)) := ⟨7, i, by omega, hi, rfl⟩
theorem inSm {i j : Nat} (hi : i < 200) (hj : j < 200) : InS ((i + 1) * (j + 1)) := ⟨i, j, hi, hj, rfl⟩
/-- What is known of p 64ths. -/
theorem pw_ok {p : Nat} (h : InS p) : Normal (pw p) ∧ fl .f32 (pw p) = some (pw p) ∧ ∀ n, TenOf (pw p) n → Yc.rOk p n = true := by
  obtain ⟨z, hz⟩ := ten_at h
  refine ⟨?_, ?_, fun n hn => (Yc.ten_val (L0 := 0) hz hn).1⟩
  · rw [Yc.okTen_eq] at hz
    unfold Yc.nOk at hz
    simp only [Bool.and_eq_true, beq_iff_eq, decide_eq_true_eq, Bool.not_eq_true'] at hz
    exact hz.2.1.2
  · rw [Yc.okTen_eq] at hz
    unfold Yc.nOk at hz
    simp only [Bool.and_eq_true, beq_iff_eq] at hz
    exact hz.2.1.1
theorem x_eighth {i x : Nat} {n : Int} (hi : i < 200) (hn : n = 1 + (i : Int)) (hx : FV .f32 (fop .quo .f32 (fl .f32 (floatOfInt .f32 n)) (fl .f32 1090519040)) x) : x = pw (8 * (i + 1)) := by
  subst hn
  have e := hx.1
  rw [fl_int32, show fl .f32 1090519040 = some 1090519040 from rfl, i_at hi] at e
  exact (fl_some e).1.symm
theorem x_prod {i j x y z : Nat} (hi : i < 200) (hj : j < 200) (hx : x = pw (8 * (i + 1))) (hy : y = pw (8 * (j + 1))) (hz : FV .f32 (fop .mul .f32 (fl .f32 x) (fl .f32 y)) z) : z = pw ((i + 1) * (j + 1)) := by
  have e := hz.1
  rw [hx, hy, (pw_ok (inS8 hi)).2.1, (pw_ok (inS8 hj)).2.1, mul_at hi hj] at e
  exact (fl_some e).1.symm
theorem r_lo {p : Nat} {n : Int} (h : Yc.rOk p n = true) : -199 ≤ n ∧ 10 ^ (2 * n + 399).toNat * 64 ^ 200 ≤ p ^ 200 * 10 ^ 400 ∧ p ^ 200 * 10 ^ 400 < 10 ^ (2 * n + 401).toNat * 64 ^ 200 := by
  unfold Yc.rOk at h
  simp only [Bool.and_eq_true, decide_eq_true_eq] at h
  exact ⟨h.1, h.2.1, h.2.2⟩
theorem pow_lt_pow {a b : Nat} (h : 10 ^ a < 10 ^ b) : a < b := (Nat.pow_lt_pow_iff_right (by omega)).1 h
theorem r_hi {p : Nat} {n : Int} (h1 : p ≤ 100000) (h : Yc.rOk p n = true) : n ≤ 1000 := by
  obtain ⟨h0, h2, _⟩ := r_lo h
  obtain ⟨H, hH⟩ : ∃ H, H = 200 := ⟨_, rfl⟩
  obtain ⟨D, hD⟩ : ∃ D, D = 400 := ⟨_, rfl⟩
  rw [← hH, ← hD] at h2
  have a1 : p ^ H ≤ 100000 ^ H := Nat.pow_le_pow_left h1 H
  have a2 : (100000 : Nat) ^ H = 10 ^ (5 * H) := by rw [show (100000 : Nat) = 10 ^ 5 by decide, ← Nat.pow_mul]
  have a3 : 1 ≤ 64 ^ H := Nat.one_le_pow _ _ (by omega)
  have a4 : 10 ^ (2 * n + 399).toNat * 1 ≤ 10 ^ (2 * n + 399).toNat * 64 ^ H := Nat.mul_le_mul_left _ a3
  have a5 : p ^ H * 10 ^ D ≤ 10 ^ (5 * H) * 10 ^ D := Nat.mul_le_mul_right _ (by rw [← a2]; exact a1)
  rw [← Nat.pow_add] at a5
  have a6 : 10 ^ (2 * n + 399).toNat < 10 ^ (5 * H + D + 1) := by
    rw [Nat.pow_succ 10 (5 * H + D)]
    have := Nat.pow_pos (n := 5 * H + D) (show 0 < 10 by omega)
    omega
  have := pow_lt_pow a6
  omega
theorem r_sum {i j : Nat} {m n q : Int} (hi : 0 < i) (hj : 0 < j) (h1 : Yc.rOk (8 * i) m = true) (h2 : Yc.rOk (8 * j) n = true) (h3 : Yc.rOk (i * j) q = true) : m + n - q ≤ 1 ∧ q - m - n ≤ 1 := by
  obtain ⟨m0, m1, m2⟩ := r_lo h1
  obtain ⟨n0, n1, n2⟩ := r_lo h2
  obtain ⟨q0, q1, q2⟩ := r_lo h3
  obtain ⟨H, hH⟩ : ∃ H, H = 200 := ⟨_, rfl⟩
  obtain ⟨D, hD⟩ : ∃ D, D = 400 := ⟨_, rfl⟩
  rw [← hH, ← hD] at m1 m2 n1 n2 q1 q2
  have hp : (8 * i) ^ H * (8 * j) ^ H = 64 ^ H * (i * j) ^ H := by
    rw [← Nat.mul_pow, ← Nat.mul_pow]
    congr 1
    rw [Nat.mul_mul_mul_comm]
  have hA : 0 < 64 ^ H := Nat.pow_pos (by omega)
  have hT : 0 < 10 ^ D := Nat.pow_pos (by omega)
  have l1 := Nat.mul_le_mul m1 n1
  have l2 := Nat.mul_lt_mul'' m2 n2
  have e1 : (8 * i) ^ H * 10 ^ D * ((8 * j) ^ H * 10 ^ D) = 64 ^ H * ((i * j) ^ H * 10 ^ D * 10 ^ D) := by
    rw [Nat.mul_mul_mul_comm, hp, Nat.mul_assoc, ← Nat.mul_assoc ((i * j) ^ H)]
  have e2 : ∀ a b : Nat, 10 ^ a * 64 ^ H * (10 ^ b * 64 ^ H) = 64 ^ H * (10 ^ (a + b) * 64 ^ H) := by
    intro a b
    rw [Nat.mul_mul_mul_comm, ← Nat.pow_add, ← Nat.mul_assoc, Nat.mul_comm (64 ^ H)]
  rw [e1, e2] at l1 l2
  have l3 := Nat.le_of_mul_le_mul_left l1 hA
  have l4 := Nat.lt_of_mul_lt_mul_left l2
  have g1 := Nat.mul_le_mul_right (10 ^ D) q1
  have g2 := Nat.mul_lt_mul_of_pos_right q2 hT
  have e3 : ∀ a : Nat, 10 ^ a * 64 ^ H * 10 ^ D = 10 ^ (a + D) * 64 ^ H := by
    intro a
    rw [Nat.pow_add, Nat.mul_right_comm]
  rw [e3] at g1 g2
  have f1 := pow_lt_pow (Nat.lt_of_mul_lt_mul_right (Nat.lt_of_le_of_lt l3 g2))
  have f2 := pow_lt_pow (Nat.lt_of_mul_lt_mul_right (Nat.lt_of_le_of_lt g1 l4))
  omega
theorem one_norm : Normal 1065353216 := by
  refine ⟨?_, ?_, ?_⟩ <;> decide +kernel
theorem r_one {n : Int} (h : TenOf 1065353216 n) : n = 0 := by
  have h1 := (pw_ok (p := 64) ⟨7, 7, by omega, by omega, rfl⟩).2.2 n (by rw [Yc.one_pw]; exact h)
  obtain ⟨n0, n1, n2⟩ := r_lo h1
  obtain ⟨H, hH⟩ : ∃ H, H = 200 := ⟨_, rfl⟩
  obtain ⟨D, hD⟩ : ∃ D, D = 400 := ⟨_, rfl⟩
  rw [← hH, ← hD, Nat.mul_comm (64 ^ H)] at n1 n2
  have hA : 0 < 64 ^ H := Nat.pow_pos (by omega)
  have f1 := Nat.le_of_mul_le_mul_right n1 hA
  have f2 := pow_lt_pow (Nat.lt_of_mul_lt_mul_right n2)
  have f3 := (Nat.pow_le_pow_iff_right (show 1 < 10 by omega)).1 f1
  omega
theorem quarter_ang : angT 1065353216 0 = some 1048576000 := by decide +kernel
theorem not_zero {r : Nat} (h : fl .f32 r = angT 1065353216 0) : r = 1048576000 := by
  rw [quarter_ang] at h
  exact (fl_some h).1.symm
end Go.Proofs.Ytfnplomgicgenaa.Yf