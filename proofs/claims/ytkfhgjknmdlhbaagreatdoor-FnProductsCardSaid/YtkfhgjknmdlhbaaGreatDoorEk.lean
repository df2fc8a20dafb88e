/- The walks: ReadComplex: the reference's side; the text of complex numbers. -/
import Derived.Test.YtkfhgjknmdlhbaaGreatDoorEh
import Derived.Test.YtkfhgjknmdlhbaaGreatDoorEj
namespace Go.Proofs.YtkfhgjknmdlhbaaGreatDoor.Ek
open Go Go.RowKit Go.Lib Fb WA Da Dd De Dm Dn Ea Eb Ec Ee Ef Ej
open Eh (HexK spec_l01From)
set_option linter.unusedVariables false
def hexC (x : Nat × Nat) : List UInt8 := hexT x.1 ++ hexT x.2
def readC (l : List UInt8) : Nat × Nat := (readX (l.take 8), readX (l.drop 8))
def okC (l : List UInt8) : Bool := decide (l.length = 16) && (okX (l.take 8) && okX (l.drop 8))
theorem okC_len {l : List UInt8} (h : ¬ l.length = 16) : okC l = false := by unfold okC; rw [decide_eq_false h]; rfl
theorem okC_is {l : List UInt8} (h : l.length = 16) : okC l = decide (hexC (readC l) = l) := by
  unfold okC okX hexC readC
  rw [decide_eq_true h, Bool.true_and, decide_eq_true (show (l.take 8).length = 8 by rw [List.length_take]; omega), decide_eq_true (show (l.drop 8).length = 8 by rw [List.length_drop]; omega), Bool.true_and, Bool.true_and]
  by_cases a : hexT (readX (l.take 8)) = l.take 8
  · by_cases b : hexT (readX (l.drop 8)) = l.drop 8
    · rw [decide_eq_true a, decide_eq_true b, decide_eq_true (by rw [a, b]; exact List.take_append_drop 8 l)]; rfl
    · rw [decide_eq_false b, Bool.and_false, decide_eq_false]
      intro e
      have e2 : hexT (readX (l.take 8)) ++ hexT (readX (l.drop 8)) = l.take 8 ++ l.drop 8 := e.trans (List.take_append_drop 8 l).symm
      exact b (List.append_inj_right e2 (by rw [hexT_len, List.length_take]; omega))
  · rw [decide_eq_false a, Bool.false_and, decide_eq_false]
    intro e
    have e2 : hexT (readX (l.take 8)) ++ hexT (readX (l.drop 8)) = l.take 8 ++ l.drop 8 := e.trans (List.take_append_drop 8 l).symm
    exact a (List.append_inj_left e2 (by rw [hexT_len, List.length_take]; omega))
def xcV (l : List UInt8) : List (Nat × Nat) := (piecesV l).map readC
def xcB (l : List UInt8) : Bool := decide ((piecesV l).length ≤ 256) && (piecesV l).all okC
def textC (xs : List (Nat × Nat)) : List UInt8 := joinedV (xs.map hexC)
theorem hexC_no (x : Nat × Nat) : ∀ c ∈ hexC x, c ≠ 44 := by
  intro c hc
  unfold hexC at hc
  rw [List.mem_append] at hc
  rcases hc with hc | hc
  · exact hexT_no _ c hc
  · exact hexT_no _ c hc
theorem hexC_len (x : Nat × Nat) : (hexC x).length = 16 := by unfold hexC; rw [List.length_append, hexT_len, hexT_len]
theorem all_okC {P : List (List UInt8)} (hl : ∀ p ∈ P, p.length = 16) : P.all okC = decide (P.map (fun p => hexC (readC p)) = P) := by
  induction P with
  | nil => rfl
  | cons p P ih =>
    have h1 := hl p (by simp)
    have h2 := ih (fun q hq => hl q (by simp [hq]))
    rw [List.all_cons, h2, List.map_cons, okC_is h1]
    by_cases a : hexC (readC p) = p
    · by_cases b : P.map (fun p => hexC (readC p)) = P
      · rw [decide_eq_true a, decide_eq_true b, decide_eq_true (by rw [a, b])]; rfl
      · rw [decide_eq_false b, Bool.and_false, decide_eq_false (by intro e; exact b (List.cons.inj e).2)]
    · rw [decide_eq_false a, Bool.false_and, decide_eq_false (by intro e; exact a (List.cons.inj e).1)]
/-- The text of the numbers that were read is the text, or not. -/
theorem finalC {s : ByteArray} {P : List (List UInt8)} (hP : P = piecesV s.data.toList) (hl : ∀ p ∈ P, p.length = 16) (h : P.length ≤ 256) : xcB s.data.toList = decide (textC (P.map readC) = s.data.toList) := by
  unfold xcB
  rw [← hP, decide_eq_true h, Bool.true_and, all_okC hl]
  unfold piecesV at hP
  split at hP
  · subst hP
    rename_i hn
    rw [hn]
    rfl
  · rename_i hn
    have hne : P ≠ [] := by rw [hP]; unfold cutF; simp
    have e1 : textC (P.map readC) = join (P.map fun p => hexC (readC p)) [44] := by
      unfold textC joinedV
      rw [if_neg (by simpa using hne), List.map_map]
      rfl
    by_cases e : P.map (fun p => hexC (readC p)) = P
    · rw [decide_eq_true e, decide_eq_true]
      rw [e1, e, hP, join_cut]
    · rw [decide_eq_false e, decide_eq_false]
      intro h
      apply e
      rw [e1] at h
      have := cutF_join (P.map fun p => hexC (readC p)) (by simpa using hne) (fun q hq => by obtain ⟨x, _, rfl⟩ := List.mem_map.1 hq; exact hexC_no _)
      rw [h, ← hP] at this
      exact this.symm
theorem xcB_long {l : List UInt8} (h : ¬ (piecesV l).length ≤ 256) : xcB l = false := by unfold xcB; rw [decide_eq_false h]; rfl
theorem xcB_no {P : List (List UInt8)} {l : List UInt8} {j : Nat} (hP : P = piecesV l) (hj : j < P.length) (h : okC P[j] = false) : xcB l = false := by
  unfold xcB
  rw [← hP, Bool.and_eq_false_iff]; right
  rw [List.all_eq_false]
  exact ⟨P[j], List.getElem_mem hj, by simp [h]⟩
theorem xc_fail {l : List UInt8} {w w' : World} (h : xcB l = false) (hb : Below w.heap.size w w') : RetLC (xcV l) (xcB l) w (.returned (.tuple #[.slice none 0 0, .bool false])) w' := by
  rw [h]; exact RetLC.no hb
theorem xc_ok {P : List (List UInt8)} {l : List UInt8} {zs : List (Nat × Nat)} {w w' : World} {v : Value} (h1 : zs = P.map readC) (h2 : P.all okC = true) (hP : P = piecesV l) (h256 : P.length ≤ 256) (hg : Gath w w' v zs) :
    RetLC (xcV l) (xcB l) w (.returned (.tuple #[v, .bool true])) w' := by
  have e : xcB l = true := by unfold xcB; rw [← hP, h2, decide_eq_true h256]; rfl
  have e2 : zs = xcV l := by unfold xcV; rw [h1, hP]
  rw [e]; exact hg.retLC e2
theorem take_mapC {P : List (List UInt8)} {j : Nat} (hj : j < P.length) : (P.take j).map readC ++ [readC P[j]] = (P.take (j + 1)).map readC := by
  rw [List.take_succ_eq_append_getElem hj, List.map_append]; rfl
theorem all_stepC {P : List (List UInt8)} {j : Nat} (hj : j < P.length) (h : (P.take j).all okC = true) (hr : okC P[j] = true) : (P.take (j + 1)).all okC = true := by
  rw [List.take_succ_eq_append_getElem hj, List.all_append, h]; simp [hr]
/-- The number with eight digits, and whether. -/
def RetD (l : List UInt8) (w : World) (e : Ending) (w' : World) : Prop := ∃ x, (okX l = true → x = readX l) ∧ e = .returned (.tuple #[.float .f32 x, .bool (okX l)]) ∧ w' = w
theorem RetD.no {l : List UInt8} {w : World} (h : okX l = false) : RetD l w (.returned (.tuple #[.float .f32 0, .bool false])) w := by
  refine ⟨0, ?_, ?_, rfl⟩
  · intro e
    rw [h] at e
    cases e
  · rw [h]
theorem half_1 {t : ByteArray} (h : t.size = 16) : (t.extract 0 8).data.toList = t.data.toList.take 8 ∧ (t.extract 0 8).size = 8 := by
  have e : (t.extract 0 8).data.toList = t.data.toList.take 8 := extract_from_zero t 8
  refine ⟨e, ?_⟩
  have : (t.extract 0 8).data.toList.length = 8 := by rw [e, List.length_take]; show min 8 t.size = 8; omega
  exact this
theorem half_2 {t : ByteArray} (h : t.size = 16) : (t.extract 8 16).data.toList = t.data.toList.drop 8 ∧ (t.extract 8 16).size = 8 := by
  have e : (t.extract 8 16).data.toList = t.data.toList.drop 8 := by rw [← h]; exact extract_to_end t 8
  refine ⟨e, ?_⟩
  have : (t.extract 8 16).data.toList.length = 8 := by rw [e, List.length_drop]; show t.size - 8 = 8; omega
  exact this
theorem okC_parts {t : ByteArray} (h : t.size = 16) : okC t.data.toList = (okX (t.extract 0 8).data.toList && okX (t.extract 8 16).data.toList) := by
  unfold okC
  rw [decide_eq_true (show t.data.toList.length = 16 from h), Bool.true_and, (half_1 h).1, (half_2 h).1]
theorem readC_parts {t : ByteArray} (h : t.size = 16) : readC t.data.toList = (readX (t.extract 0 8).data.toList, readX (t.extract 8 16).data.toList) := by
  unfold readC
  rw [(half_1 h).1, (half_2 h).1]
end Go.Proofs.YtkfhgjknmdlhbaaGreatDoor.Ek