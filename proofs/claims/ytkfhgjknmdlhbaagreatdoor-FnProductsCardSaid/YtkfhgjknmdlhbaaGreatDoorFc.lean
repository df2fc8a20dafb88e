/- Conversions of complex numbers in the walk; the phasor as a function of what words read as. -/
import Derived.Test.YtkfhgjknmdlhbaaGreatDoorFl
import Derived.Test.YtkfhgjknmdlhbaaGreatDoorFx
namespace Go.Proofs.YtkfhgjknmdlhbaaGreatDoor.Fc
open Go Ieee Ft Fl Fs Fo Fw Fb Fm Ff Fz Fy Fx
section run
variable {P : Program} (w : World)
theorem run_f2f (s k : FloatKind) (hsk : s ≠ k) (b : Nat) : ∃ r n, (Conv.floatToFloat s b k).run P w = .ok (.float k r) (w.drewN n) ∧ FC s k (fl s b) r := by
  cases he : s.format.read b with
  | nan sg t =>
    have hn : fl s b = none := fl_nan (by simp [he, Ieee.Datum.isNaN])
    refine ⟨(Question.nanConv k b).cut (w.tape w.drawn (.nanConv k b)), 1, ?_, ?_, (cut_nan' k b _).2⟩
    · simp [Conv.floatToFloat, hsk, FloatKind.decode, he, Question.forced]; rfl
    · intro _; rw [hn]; exact (cut_nan' k b _).1
  | infinity sg =>
    have hn : fl s b = some b := fl_num (by simp [he, Ieee.Datum.isNaN])
    refine ⟨k.format.write (.infinity sg), 0, ?_, ?_, k.format.write_lt _⟩
    · simp [Conv.floatToFloat, hsk, FloatKind.decode, he, FloatKind.encode]; rfl
    · intro _; rw [hn]; simp only [fconv, Option.map_some, he]; exact fl_num (write_not_nan _ (binade_le k) _ rfl)
  | number sg m e =>
    have hn : fl s b = some b := fl_num (by simp [he, Ieee.Datum.isNaN])
    by_cases ho : (k.format.read (k.format.write (.number sg m e))).isInfinity = true
    · refine ⟨(Question.floatToFloat b).cut (w.tape w.drawn (.floatToFloat b)), 1, ?_, ?_, ?_⟩
      · simp [Conv.floatToFloat, hsk, FloatKind.decode, he, FloatKind.encode, ho, Question.forced]; rfl
      · intro hov; simp [over, hn, he, ho] at hov
      · have : (Question.floatToFloat b).cut (w.tape w.drawn (.floatToFloat b)) < 2 ^ 32 := Nat.mod_lt _ (by decide)
        cases k
        · exact this
        · exact Nat.lt_trans this (by decide)
    · refine ⟨k.format.write (.number sg m e), 0, ?_, ?_, k.format.write_lt _⟩
      · simp [Conv.floatToFloat, hsk, FloatKind.decode, he, FloatKind.encode, ho]; rfl
      · intro _; rw [hn]; simp only [fconv, Option.map_some, he]; exact fl_num (write_not_nan _ (binade_le k) _ rfl)
theorem run_cconv (src dst : TypeId) (s k : FloatKind) (hsk : s ≠ k) (a b : Nat) (hs : (P.underlying src).isSome = true) (hd : P.underlying dst = some (.complex k)) :
    ∃ r1 r2 n, (convert src dst (.complex s a b)).run P w = .ok (.complex k r1 r2) (w.drewN n) ∧ FC s k (fl s a) r1 ∧ FC s k (fl s b) r2 := by
  obtain ⟨u, hs'⟩ := Option.isSome_iff_exists.1 hs
  have hrun : (convert src dst (.complex s a b)).run P w = (Conv.complexToComplex s a b k).run P w := by
    cases u <;> simp [convert, run_underlying hs', run_underlying hd]
  obtain ⟨r1, n1, h1, v1⟩ := run_f2f (P := P) w s k hsk a
  obtain ⟨r2, n2, h2, v2⟩ := run_f2f (P := P) (w.drewN n1) s k hsk b
  refine ⟨r1, r2, n1 + n2, ?_, v1, v2⟩
  rw [hrun]
  simp [Conv.complexToComplex, h1, h2]
end run
section walk
variable {P : Program} {ops : Array Oper} {rest : List Oper} {o : Oper} {a : Act} {w : World} {Q : Exit → Act → World → Prop}
theorem wpList_cconv (src dst : TypeId) (x : Operand) (ho : o.op = .convert src dst x) (hg : Region.wanted o (yielded ops a.tmps) = true)
    (s k : FloatKind) (hsk : s ≠ k) (u v : Nat) (hx : a.eval x = .complex s u v) (hs : (P.underlying src).isSome = true) (hd : P.underlying dst = some (.complex k))
    (h : ∀ r1 r2 n, FC s k (fl s u) r1 → FC s k (fl s v) r2 → wpList P ops Q rest (a.put o.dst (.complex k r1 r2)) (w.drewN n)) : wpList P ops Q (o :: rest) a w := by
  obtain ⟨r1, r2, n, hr, h1, h2⟩ := run_cconv (P := P) w src dst s k hsk u v hs hd
  refine wpList_of_run hg ?_ (h r1 r2 n h1 h2)
  simp only [execOp, ho, hx]
  simp [hr]
end walk

theorem bd_sin110 {f : Option Nat} (h : Bd 1 f) : Bd 110 (sinV f) := by
  have hz : Bd (3 + 3) (zV f) := bd_mul (bd_fold h) bd_tau (by omega)
  have hu := bd_mul hz hz (by omega)
  have hp := bd_p hu 8 (by omega)
  have hs := bd_mul hz hp (by omega)
  have hs' := hs.mono (show 3 + 3 + 13 * 8 ≤ 110 by omega)
  unfold sinV
  split
  · exact bd_neg hs' fun b hb => fop_lt hb
  · exact hs'
/-- 0.25 taken away j times. -/
def hV (F : Option Nat) : Nat → Option Nat
  | 0 => F
  | j + 1 => fop .sub .f64 (hV F j) (some quarter)
theorem bd_h {F : Option Nat} (h : Bd 1 F) : ∀ j : Nat, j ≤ 10 → Bd (1 + j) (hV F j) := by
  intro j
  induction j with
  | zero => intro _; exact h
  | succ j ih =>
    intro hj
    have h1 := bd_sub (i := 1 + j) (ih (by omega)) (bd_c (Nat.le_trans (show rung double quarter ≤ P2 0 by decide +kernel) (P2_mono (by omega))) (by decide +kernel)) (by omega)
    exact h1.mono (by omega)

theorem quarter_sv : ∃ C, C = 1072 ∧ sv double quarter = 2 ^ C := by
  obtain ⟨C, hC⟩ : ∃ C, C = 1072 := ⟨_, rfl⟩
  obtain ⟨q, hq⟩ : ∃ q, q = 1021 := ⟨_, rfl⟩
  refine ⟨C, hC, ?_⟩
  have h1 : rung double quarter = quarter := by decide +kernel
  have h2 : sgn double quarter = false := by decide +kernel
  have hm : mag double quarter = 2 ^ C := by
    unfold mag
    rw [if_neg (by decide)]
    have a1 : quarter / double.binade = 1021 := by decide
    have a2 : quarter % double.binade = 0 := by decide
    have a3 : double.binade = 2 ^ 52 := rfl
    rw [a1, a2, a3, ← hq, Nat.add_zero, ← Nat.pow_add]
    congr 1; omega
  unfold sv
  rw [h2, h1, hm]
  simp only [Bool.false_eq_true, if_false]
  push_cast; rfl
/-- The bound that ends the taking away. -/
theorem h_le {F : Option Nat} (hb : Bd 1 F) (h0 : ∀ b, F = some b → sv double b ≤ 4 * 2 ^ 1072) : ∀ j : Nat, j ≤ 4 → (∀ i : Nat, i < j → geO (hV F i) quarter = true) → ∀ b, hV F j = some b → sv double b ≤ (4 - (j : Int)) * 2 ^ 1072 := by
  obtain ⟨C, hC, hq⟩ := quarter_sv
  rw [← hC] at h0 ⊢
  intro j
  induction j with
  | zero => intro _ _ b hbb; have := h0 b hbb; simpa using this
  | succ j ih =>
    intro hj hall b hbb
    have hge := hall j (by omega)
    have hbj := bd_h hb j (by omega)
    obtain ⟨x, hx, hxr, hxf⟩ := hbj
    have ih' := ih (by omega) (fun i hi => hall i (by omega)) x hx
    have hfx := Bd.fin (show 1 + j ≤ 1000 by omega) hxr
    rw [hx] at hge
    unfold geO fcmp at hge
    simp only [Option.bind_some] at hge
    have ho : FloatKind.f64.format.order x quarter = some (compare (sv double x) (sv double quarter)) := order_sv double (by decide) (Nat.le_of_lt hfx) (by decide +kernel)
    rw [ho, hq] at hge
    have hxge : (2 : Int) ^ C ≤ sv double x := by
      by_cases hc : (2 : Int) ^ C ≤ sv double x
      · exact hc
      · rw [compare_lt (by omega)] at hge; cases hge
    have hst : hV F (j + 1) = fop .sub .f64 (some x) (some quarter) := by show fop .sub .f64 (hV F j) (some quarter) = _; rw [hx]
    rw [hst] at hbb
    have e : fop .sub .f64 (some x) (some quarter) = double.sub x quarter := rfl
    rw [e, sub_fin double (by decide) hfx (by decide +kernel), hq] at hbb
    have hb2 := (Option.some.inj hbb).symm
    obtain ⟨r, hr⟩ := rung_exists double (3 - j) C (by rw [dB]; omega)
    have hp : (2 : Int) ^ C = ((2 ^ C : Nat) : Int) := by push_cast; rfl
    have hcast : ((4 : Int) - ((j + 1 : Nat) : Int)) * 2 ^ C = (((3 - j) * 2 ^ C : Nat) : Int) := by
      push_cast
      congr 1
      omega
    have hcast2 : ((4 : Int) - (j : Int)) * 2 ^ C = (((3 - j) * 2 ^ C : Nat) : Int) + ((2 ^ C : Nat) : Int) := by
      rw [← hp, ← hcast, show ((4 : Int) - (j : Int)) = (4 - ((j + 1 : Nat) : Int)) + 1 by omega, Int.add_mul, Int.one_mul]
    have hrl : rr double (sv double x - 2 ^ C).natAbs 0 ≤ r := by
      have hrinf : r ≤ double.infRung := by
        by_cases hle : r ≤ double.infRung
        · exact hle
        · exfalso
          have h1 := mag_lt double (show P2 2 < r by have := P2_lt (show 2 ≤ 1000 by omega); omega)
          rw [mag_P2, hr] at h1
          have h2 : (3 - j) * 2 ^ C ≤ 4 * 2 ^ C := Nat.mul_le_mul_right _ (by omega)
          rw [show 2 + 1074 = C + 4 by omega, Nat.pow_add] at h1
          omega
      refine rr_le double hrinf ?_
      rw [hr, Nat.pow_zero, Nat.mul_one]
      rw [hp] at hxge ⊢
      rw [hcast2] at ih'
      omega
    have hm := mag_le double hrl
    rw [hr] at hm
    rw [hb2, sv_word double _ (rr_le_inf double _ _), hcast]
    split <;> omega
end Go.Proofs.YtkfhgjknmdlhbaaGreatDoor.Fc
