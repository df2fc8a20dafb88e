/- The walk's laws for floating-point operations whose result may be a NaN: a NaN's bits are drawn, so a result is told by what it reads as ('none': a NaN). -/
import Derived.WalkKit
import Derived.WalkSpells
import Derived.WalkLawsBesides
import Derived.Deep.Draws
namespace Go.Proofs.Ytfnplomgicgenaa.Fl
open Go

/-- What a word reads as: 'none' is a NaN. -/
def fl (k : FloatKind) (r : Nat) : Option Nat := if (k.format.read r).isNaN then none else some r
/-- An operation on what words read as. -/
def fop (op : BinOp) (k : FloatKind) (a b : Option Nat) : Option Nat := a.bind fun x => b.bind fun y => floatBits op k x y
def fcmp (k : FloatKind) (a b : Option Nat) : Option Ordering := a.bind fun x => b.bind fun y => k.format.order x y
/-- 'The word r, of kind k, reads as o.' -/
def FV (k : FloatKind) (o : Option Nat) (r : Nat) : Prop := fl k r = o ∧ r < 2 ^ k.format.width
/-- A conversion between kinds: 'none' stays 'none'; the nearest word else. -/
def fconv (s k : FloatKind) (o : Option Nat) : Option Nat := o.map fun b => k.format.write (s.format.read b)
/-- The conversion gives an infinity of a number: Go leaves the result open. -/
def over (s k : FloatKind) (o : Option Nat) : Bool := match o with
  | none => false
  | some b => match s.format.read b with
    | .number sg m e => (k.format.read (k.format.write (.number sg m e))).isInfinity
    | _ => false
/-- What a conversion leaves. -/
def FC (s k : FloatKind) (o : Option Nat) (r : Nat) : Prop := (over s k o = false → fl k r = fconv s k o) ∧ r < 2 ^ k.format.width
theorem FC.lt {s k : FloatKind} {o : Option Nat} {r : Nat} (h : FC s k o r) : r < 2 ^ k.format.width := h.2
theorem FV.lt {k : FloatKind} {o : Option Nat} {r : Nat} (h : FV k o r) : r < 2 ^ k.format.width := h.2
def arith : BinOp → Bool
  | .add | .sub | .mul | .quo => true
  | _ => false

section read
variable (f : Ieee.Format)
theorem sw_pos : 0 < f.signWeight := Nat.two_pow_pos _

theorem rung_word (neg : Bool) {r : Nat} (h : r < f.signWeight) : f.word neg r % f.signWeight = r := by
  unfold Ieee.Format.word
  split
  · rw [Nat.add_mod_left, Nat.mod_eq_of_lt h]
  · exact Nat.mod_eq_of_lt h

theorem neg_word (neg : Bool) {r : Nat} (h : r < f.signWeight) : (f.word neg r / f.signWeight % 2 == 1) = neg := by
  unfold Ieee.Format.word
  cases neg
  · simp [Nat.div_eq_of_lt h]
  · simp [Nat.add_div_left _ (sw_pos f), Nat.div_eq_of_lt h]

theorem isNaN_read (hb : f.binade ≤ f.infRung) (w : Nat) : (f.read w).isNaN = decide (f.infRung < w % f.signWeight) := by
  unfold Ieee.Format.read
  dsimp only
  split
  · simp only [Ieee.Datum.isNaN]; symm; rw [decide_eq_false_iff_not]; omega
  · split
    · simp only [Ieee.Datum.isNaN]; symm; rw [decide_eq_false_iff_not]; omega
    · split
      · simp only [Ieee.Datum.isNaN]; symm; rw [decide_eq_false_iff_not]; omega
      · simp only [Ieee.Datum.isNaN]; symm; rw [decide_eq_true_iff]; omega

theorem write_not_nan (hb : f.binade ≤ f.infRung) (d : Ieee.Datum) (h : d.isNaN = false) : (f.read (f.write d)).isNaN = false := by
  rw [isNaN_read f hb, decide_eq_false_iff_not]
  cases d with
  | nan s t => simp [Ieee.Datum.isNaN] at h
  | infinity s => simp only [Ieee.Format.write]; rw [rung_word f s f.infRung_lt]; omega
  | number s m e =>
    simp only [Ieee.Format.write, Ieee.Format.nearest]
    split
    · rw [rung_word f s (sw_pos f)]; omega
    · rw [rung_word f s (Nat.lt_of_le_of_lt (Nat.min_le_right ..) f.infRung_lt)]
      have := Nat.min_le_right ((max (e + m.log2 - f.fractionBits) f.leastPlace - f.leastPlace).toNat * f.binade + Ieee.Toward.even.cut s (m <<< (e - max (e + m.log2 - f.fractionBits) f.leastPlace).toNat) (max (e + m.log2 - f.fractionBits) f.leastPlace - e).toNat) f.infRung
      omega
end read

theorem binade_le (k : FloatKind) : k.format.binade ≤ k.format.infRung := by cases k <;> decide

theorem sum_nan (a b : Ieee.Datum) (h : a.isNaN = true ∨ b.isNaN = true) : a.sum b = none := by
  cases a <;> cases b <;> simp [Ieee.Datum.isNaN, Ieee.Datum.sum] at *
theorem product_nan (a b : Ieee.Datum) (h : a.isNaN = true ∨ b.isNaN = true) : a.product b = none := by
  cases a <;> cases b <;> simp [Ieee.Datum.isNaN, Ieee.Datum.product] at *
theorem quotient_nan (n : Nat) (a b : Ieee.Datum) (h : a.isNaN = true ∨ b.isNaN = true) : a.quotient n b = none := by
  cases a <;> cases b <;> simp [Ieee.Datum.isNaN, Ieee.Datum.quotient] at *
theorem order_nan (a b : Ieee.Datum) (h : a.isNaN = true ∨ b.isNaN = true) : a.order b = none := by
  cases a <;> cases b <;> simp [Ieee.Datum.isNaN, Ieee.Datum.order] at *
theorem opposite_nan (a : Ieee.Datum) : a.opposite.isNaN = a.isNaN := by cases a <;> rfl

theorem sum_num (a b c : Ieee.Datum) (h : a.sum b = some c) : c.isNaN = false := by
  cases a <;> cases b <;> simp [Ieee.Datum.sum] at h <;> first | (subst h; rfl) | (obtain ⟨_, h⟩ := h; subst h; rfl)
theorem product_num (a b c : Ieee.Datum) (h : a.product b = some c) : c.isNaN = false := by
  cases a <;> cases b <;> simp only [Ieee.Datum.product] at h
  all_goals (try (split at h))
  all_goals simp only [Option.some.injEq, reduceCtorEq] at h
  all_goals (subst h; rfl)
theorem quotient_num (n : Nat) (a b c : Ieee.Datum) (h : a.quotient n b = some c) : c.isNaN = false := by
  cases a <;> cases b <;> simp only [Ieee.Datum.quotient] at h
  all_goals (try (split at h))
  all_goals (try (split at h))
  all_goals simp only [Option.some.injEq, reduceCtorEq] at h
  all_goals (subst h; rfl)
theorem root_num (n : Nat) (a c : Ieee.Datum) (h : a.root n = some c) : c.isNaN = false := by
  cases a with
  | nan => simp [Ieee.Datum.root] at h
  | infinity s => cases s <;> simp [Ieee.Datum.root] at h; subst h; rfl
  | number s m i =>
    simp only [Ieee.Datum.root] at h
    split at h
    · cases h; rfl
    · split at h
      · cases h
      · cases h; rfl

theorem fl_nan {k : FloatKind} {r : Nat} (h : (k.format.read r).isNaN = true) : fl k r = none := by simp [fl, h]
theorem fl_num {k : FloatKind} {r : Nat} (h : (k.format.read r).isNaN = false) : fl k r = some r := by simp [fl, h]
theorem fl_some {k : FloatKind} {r v : Nat} (h : fl k r = some v) : v = r ∧ (k.format.read r).isNaN = false := by
  unfold fl at h
  cases hn : (k.format.read r).isNaN <;> simp [hn] at h ⊢
  exact h.symm
theorem fl_none {k : FloatKind} {r : Nat} (h : fl k r = none) : (k.format.read r).isNaN = true := by
  unfold fl at h
  cases hn : (k.format.read r).isNaN <;> simp [hn] at h ⊢

/-- The bits of a valid operation are no NaN. -/
theorem floatBits_num {op : BinOp} {k : FloatKind} {x y r : Nat} (h : floatBits op k x y = some r) : fl k r = some r := by
  have key : ∀ d : Option Ieee.Datum, (∀ c, d = some c → c.isNaN = false) → d.map k.format.write = some r → fl k r = some r := by
    intro d hd h
    cases d with
    | none => cases h
    | some c => cases h; exact fl_num (write_not_nan _ (binade_le k) c (hd c rfl))
  unfold floatBits at h
  split at h
  · exact key _ (fun c => sum_num _ _ c) h
  · exact key _ (fun c => sum_num _ _ c) h
  · exact key _ (fun c => product_num _ _ c) h
  · exact key _ (fun c => quotient_num _ _ _ c) h
  · cases h

theorem floatBits_nan {op : BinOp} {k : FloatKind} {x y : Nat} (h : fl k x = none ∨ fl k y = none) : floatBits op k x y = none := by
  have h' : (k.format.read x).isNaN = true ∨ (k.format.read y).isNaN = true := by
    rcases h with h | h
    · exact .inl (fl_none h)
    · exact .inr (fl_none h)
  unfold floatBits
  split
  · simp [Ieee.Format.add, sum_nan _ _ h']
  · simp [Ieee.Format.sub, sum_nan _ _ (show (k.format.read x).isNaN = true ∨ (k.format.read y).opposite.isNaN = true by rwa [opposite_nan])]
  · simp [Ieee.Format.mul, product_nan _ _ h']
  · simp [Ieee.Format.div, quotient_nan _ _ _ h']
  · rfl

theorem fop_fl (op : BinOp) (k : FloatKind) (x y : Nat) : fop op k (fl k x) (fl k y) = floatBits op k x y := by
  unfold fop
  cases hx : fl k x with
  | none => simp [floatBits_nan (.inl hx)]
  | some a =>
    cases hy : fl k y with
    | none => simp [floatBits_nan (.inr hy)]
    | some b => rw [(fl_some hx).1, (fl_some hy).1]; rfl

/-- A comparison of words is one of what they read as. -/
theorem order_fl (k : FloatKind) (x y : Nat) : k.format.order x y = fcmp k (fl k x) (fl k y) := by
  unfold fcmp
  cases hx : fl k x with
  | none => simp [Ieee.Format.order, order_nan _ _ (.inl (fl_none hx))]
  | some a =>
    cases hy : fl k y with
    | none => simp [Ieee.Format.order, order_nan _ _ (.inr (fl_none hy))]
    | some b => rw [(fl_some hx).1, (fl_some hy).1]; rfl

theorem nan32 (u v : Nat) (hu : u < 2) (hv : v < 8388607) : 2139095040 < (u * 2147483648 + 2139095040 + 1 + v) % 2147483648 ∧ u * 2147483648 + 2139095040 + 1 + v < 4294967296 := by
  have : u = 0 ∨ u = 1 := by omega
  rcases this with rfl | rfl <;> omega
theorem nan64 (u v : Nat) (hu : u < 2) (hv : v < 4503599627370495) : 9218868437227405312 < (u * 9223372036854775808 + 9218868437227405312 + 1 + v) % 9223372036854775808 ∧ u * 9223372036854775808 + 9218868437227405312 + 1 + v < 18446744073709551616 := by
  have : u = 0 ∨ u = 1 := by omega
  rcases this with rfl | rfl <;> omega
/-- A drawn NaN is one. -/
theorem cut_nan (k : FloatKind) (x y t : Nat) : fl k ((Question.nanBits k x y).cut t) = none ∧ (Question.nanBits k x y).cut t < 2 ^ k.format.width := by
  cases k
  · have h := nan32 (t % 2) (t / 2 % 8388607) (Nat.mod_lt _ (by decide)) (Nat.mod_lt _ (by decide))
    exact ⟨fl_nan (by rw [isNaN_read _ (binade_le _), decide_eq_true_iff]; exact h.1), h.2⟩
  · have h := nan64 (t % 2) (t / 2 % 4503599627370495) (Nat.mod_lt _ (by decide)) (Nat.mod_lt _ (by decide))
    exact ⟨fl_nan (by rw [isNaN_read _ (binade_le _), decide_eq_true_iff]; exact h.1), h.2⟩
theorem cut_nan' (k : FloatKind) (x t : Nat) : fl k ((Question.nanConv k x).cut t) = none ∧ (Question.nanConv k x).cut t < 2 ^ k.format.width := by
  cases k
  · exact cut_nan .f32 0 0 t
  · exact cut_nan .f64 0 0 t

section run
variable {P : Program} (w : World)
/-- '+', '-', '*', '/' ON WHATEVER FLOATS. -/
theorem run_farith (op : BinOp) (hop : arith op = true) (t : TypeId) (k : FloatKind) (x y : Nat) :
    ∃ r n, (binOp op t (.float k x) (.float k y)).run P w = .ok (.float k r) (w.drewN n) ∧ FV k (fop op k (fl k x) (fl k y)) r := by
  rw [fop_fl]
  cases h : floatBits op k x y with
  | some r => exact ⟨r, 0, run_float_arith w op t k x y r h, floatBits_num h, by
      have := floatBits_wf h
      cases k
      · exact of_decide_eq_true this
      · exact of_decide_eq_true this⟩
  | none =>
    refine ⟨(Question.nanBits k x y).cut (w.tape w.drawn (.nanBits k x y)), 1, ?_, cut_nan k x y _⟩
    unfold floatBits at h
    cases op <;> simp [arith] at hop <;> simp only at h <;>
      simp [binOp, Op.floatArith, h, Question.forced] <;> rfl

theorem run_floatArith' (op : BinOp) (hop : arith op = true) (k : FloatKind) (x y : Nat) :
    ∃ r n, (Op.floatArith op k x y).run P w = .ok (.float k r) (w.drewN n) ∧ FV k (fop op k (fl k x) (fl k y)) r := by
  obtain ⟨r, n, h, hv⟩ := run_farith (P := P) w op hop 0 k x y
  refine ⟨r, n, ?_, hv⟩
  cases op <;> simp [arith] at hop <;> simpa [binOp] using h

/-- A conversion between kinds of floats. -/
theorem run_fconv (src dst : TypeId) (s k : FloatKind) (hsk : s ≠ k) (b : Nat) (hs : (P.underlying src).isSome = true) (hd : P.underlying dst = some (.float k)) :
    ∃ r n, (convert src dst (.float s b)).run P w = .ok (.float k r) (w.drewN n) ∧ FC s k (fl s b) r := by
  obtain ⟨u, hs'⟩ := Option.isSome_iff_exists.1 hs
  have hrun : (convert src dst (.float s b)).run P w = (Conv.floatToFloat s b k).run P w := by
    cases u <;> simp [convert, run_underlying hs', run_underlying hd]
  rw [hrun]
  cases he : s.format.read b with
  | nan sg t =>
    have hn : fl s b = none := fl_nan (by simp [he, Ieee.Datum.isNaN])
    refine ⟨(Question.nanConv k b).cut (w.tape w.drawn (.nanConv k b)), 1, ?_, ?_, (cut_nan' k b _).2⟩
    · simp [Conv.floatToFloat, hsk, FloatKind.decode, he, Question.forced]; rfl
    · intro _; rw [hn]; exact (cut_nan' k b _).1
  | infinity sg =>
    have hn : fl s b = some b := fl_num (by simp [he, Ieee.Datum.isNaN])
    refine ⟨k.format.write (.infinity sg), 0, ?_, ?_, k.format.write_lt _⟩
    · simp [Conv.floatToFloat, hsk, FloatKind.decode, he, FloatKind.encode]; rfl
    · intro _; rw [hn]; simp only [fconv, Option.map_some, he]; exact fl_num (write_not_nan _ (binade_le k) _ rfl)
  | number sg m e =>
    have hn : fl s b = some b := fl_num (by simp [he, Ieee.Datum.isNaN])
    by_cases ho : (k.format.read (k.format.write (.number sg m e))).isInfinity = true
    · refine ⟨(Question.floatToFloat b).cut (w.tape w.drawn (.floatToFloat b)), 1, ?_, ?_, ?_⟩
      · simp [Conv.floatToFloat, hsk, FloatKind.decode, he, FloatKind.encode, ho, Question.forced]; rfl
      · intro hov; simp [over, hn, he, ho] at hov
      · have : (Question.floatToFloat b).cut (w.tape w.drawn (.floatToFloat b)) < 2 ^ 32 := Nat.mod_lt _ (by decide)
        cases k
        · exact this
        · exact Nat.lt_trans this (by decide)
    · refine ⟨k.format.write (.number sg m e), 0, ?_, ?_, k.format.write_lt _⟩
      · simp [Conv.floatToFloat, hsk, FloatKind.decode, he, FloatKind.encode, ho]; rfl
      · intro _; rw [hn]; simp only [fconv, Option.map_some, he]; exact fl_num (write_not_nan _ (binade_le k) _ rfl)
end run

section walk
variable {P : Program} {ops : Array Oper} {rest : List Oper} {o : Oper} {a : Act} {w : World} {Q : Exit → Act → World → Prop}
theorem wpList_of_run (hg : Region.wanted o (yielded ops a.tmps) = true) {v : Value} {w' : World} (hr : (execOp a.eval o).run P w = .ok (.value v) w')
    (h : wpList P ops Q rest (a.put o.dst v) w') : wpList P ops Q (o :: rest) a w := by
  refine wpList_step fun K hK => ?_
  rw [if_pos hg]
  unfold Oper.wp
  rw [hr]
  exact hK _ _ h

/-- '+', '-', '*', '/' on floats, in the walk. -/
theorem wpList_farith (bop : BinOp) (t : TypeId) (x y : Operand) (yt : TypeId) (ho : o.op = .binOp bop t x y yt) (hb : arith bop = true) (hg : Region.wanted o (yielded ops a.tmps) = true)
    (k : FloatKind) (u v : Nat) (hx : a.eval x = .float k u) (hy : a.eval y = .float k v)
    (h : ∀ r n, FV k (fop bop k (fl k u) (fl k v)) r → wpList P ops Q rest (a.put o.dst (.float k r)) (w.drewN n)) : wpList P ops Q (o :: rest) a w := by
  obtain ⟨r, n, hr, hv⟩ := run_farith (P := P) w bop hb t k u v
  refine wpList_of_run hg ?_ (h r n hv)
  simp only [execOp, ho, hx, hy]
  have he : eqGuard bop t x y (.float k u) (.float k v) = pure () := by
    cases bop <;> simp [arith] at hb <;> rfl
  simp [he, hr]

/-- '-x' on a float. -/
theorem wpList_fneg (t : TypeId) (x : Operand) (ho : o.op = .unOp .neg t x) (hg : Region.wanted o (yielded ops a.tmps) = true)
    (k : FloatKind) (u : Nat) (hx : a.eval x = .float k u) (h : wpList P ops Q rest (a.put o.dst (.float k (Op.negFloat k u))) w) : wpList P ops Q (o :: rest) a w := by
  refine wpList_of_run hg ?_ h
  simp only [execOp, ho, hx]
  simp [Op.unary]

theorem wpList_fconv (src dst : TypeId) (x : Operand) (ho : o.op = .convert src dst x) (hg : Region.wanted o (yielded ops a.tmps) = true)
    (s k : FloatKind) (hsk : s ≠ k) (u : Nat) (hx : a.eval x = .float s u) (hs : (P.underlying src).isSome = true) (hd : P.underlying dst = some (.float k))
    (h : ∀ r n, FC s k (fl s u) r → wpList P ops Q rest (a.put o.dst (.float k r)) (w.drewN n)) : wpList P ops Q (o :: rest) a w := by
  obtain ⟨r, n, hr, hv⟩ := run_fconv (P := P) w src dst s k hsk u hs hd
  refine wpList_of_run hg ?_ (h r n hv)
  simp only [execOp, ho, hx]
  simp [hr]
end walk
end Go.Proofs.Ytfnplomgicgenaa.Fl
