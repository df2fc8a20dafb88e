/- The walks: the reference's l01Cut. -/
import Derived.Test.YtkfhgjknmdlhbaaGreatDoorDm
namespace Go.Proofs.YtkfhgjknmdlhbaaGreatDoor.Dn
open Go Go.RowKit Go.Lib Da Dc Dd De Dm
set_option linter.unusedVariables false
/-- The loop at place i: the pieces ls are done, the next began at f. -/
def CutR (s : ByteArray) (i f : Nat) (ls : List (List UInt8)) : Prop :=
  (i ≤ s.size → f ≤ i ∧ cutS (s.data.toList.take i) = (ls, (s.data.toList.take i).drop f)) ∧ (i = s.size + 1 → ls = cutF s.data.toList)
theorem CutR.zero (s : ByteArray) : CutR s 0 0 [] := ⟨fun _ => ⟨Nat.le_refl _, rfl⟩, fun h => by omega⟩
theorem cut_piece (s : ByteArray) {f i : Nat} (h : f ≤ i) : (s.extract f i).data.toList = (s.data.toList.take i).drop f := by
  rw [extract_data]
  simp [List.take_drop]
  rw [show f + (i - f) = i by omega]
theorem CutR.len {s : ByteArray} {i f : Nat} {ls : List (List UInt8)} (h : CutR s i f ls) (hi : i ≤ s.size + 1) : ls.length ≤ s.size + 1 := by
  by_cases hle : i ≤ s.size
  · have h1 := (h.1 hle).2
    have h2 := cutF_len (s.data.toList.take i)
    unfold cutF at h2
    rw [h1] at h2
    dsimp only at h2
    rw [List.length_append, List.length_cons, List.length_nil, List.length_take] at h2
    have e : s.data.toList.length = s.size := rfl
    omega
  · rw [h.2 (by omega)]
    exact cutF_len _
theorem CutR.hit {s : ByteArray} {i f : Nat} {ls : List (List UInt8)} (h : CutR s i f ls) (hi : i < s.size) (hc : s[i].toNat = 44) : CutR s (i + 1) (i + 1) (ls ++ [(s.extract f i).data.toList]) := by
  obtain ⟨hf, hs⟩ := h.1 (by omega)
  refine ⟨fun _ => ⟨Nat.le_refl _, ?_⟩, fun e => by omega⟩
  have h44 : s[i] = 44 := UInt8.toNat_inj.1 hc
  rw [Dj.take_snoc s i hi, cutS_snoc, hs, h44, cut_piece s hf]
  show (_, _) = (_, _)
  congr 1
  rw [List.drop_eq_nil_of_le]
  rw [List.length_append, List.length_take, List.length_cons, List.length_nil]
  omega
theorem CutR.skip {s : ByteArray} {i f : Nat} {ls : List (List UInt8)} (h : CutR s i f ls) (hi : i < s.size) (hc : ¬ s[i].toNat = 44) : CutR s (i + 1) f ls := by
  obtain ⟨hf, hs⟩ := h.1 (by omega)
  refine ⟨fun _ => ⟨by omega, ?_⟩, fun e => by omega⟩
  have h44 : ¬ s[i] = 44 := fun e => hc (by rw [e]; rfl)
  rw [Dj.take_snoc s i hi, cutS_snoc, hs]
  unfold cstep
  rw [if_neg h44, List.drop_append_of_le_length (by rw [List.length_take]; have e : s.data.toList.length = s.size := rfl; omega)]
theorem CutR.last {s : ByteArray} {i f : Nat} {ls : List (List UInt8)} (h : CutR s i f ls) (hi : i = s.size) : CutR s (i + 1) (i + 1) (ls ++ [(s.extract f i).data.toList]) := by
  obtain ⟨hf, hs⟩ := h.1 (by omega)
  refine ⟨fun h => by omega, fun _ => ?_⟩
  subst hi
  rw [cut_piece s hf]
  have e : s.data.toList.take s.size = s.data.toList := List.take_of_length_le (Nat.le_refl _)
  rw [e] at hs ⊢
  unfold cutF
  rw [hs]
end Go.Proofs.YtkfhgjknmdlhbaaGreatDoor.Dn