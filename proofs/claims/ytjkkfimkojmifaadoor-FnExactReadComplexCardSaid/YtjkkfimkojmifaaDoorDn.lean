/- The walks: the reference's l01Cut. -/
import Derived.Test.YtjkkfimkojmifaaDoorDm
namespace Go.Proofs.YtjkkfimkojmifaaDoor.Dn
open Go Go.RowKit Go.Lib Da Dc Dd De Dm
set_option linter.unusedVariables false
/-- The loop at place i: the pieces ls are done, the next began at f. -/
def CutR (s : ByteArray) (i f : Nat) (ls : List (List UInt8)) : Prop :=
  (i ≤ s.size → f ≤ i ∧ cutS (s.data.toList.take i) = (ls, (s.data.toList.take i).drop f)) ∧ (i = s.size + 1 → ls = cutF s.data.toList)
theorem CutR.zero (s : ByteArray) : CutR s 0 0 [] := ⟨fun _ => ⟨Nat.le_refl _, rfl⟩, fun h => by omega⟩
theorem cut_piece (s : ByteArray) {f i : Nat} (h : f ≤ i) : (s.extract f i).data.toList = (s.data.toList.take i).drop f := by
  rw [extract_data]
  simp [List.take_drop]
  rw [show f + (i - f) = i by omega]
theorem CutR.len {s : ByteArray} {i f : Nat} {ls : List (List UInt8)} (h : CutR s i f ls) (hi : i ≤ s.size + 1) : ls.length ≤ s.size + 1 := by
  by_cases hle : i ≤ s.size
  · have h1 := (h.1 hle).2
    have h2 := cutF_len (s.data.toList.take i)
    unfold cutF at h2
    rw [h1] at h2
    dsimp only at h2
    rw [List.length_append, List.length_cons, List.length_nil, List.length_take] at h2
    have e : s.data.toList.length = s.size := rfl
    omega
  · rw [h.2 (by omega)]
    exact cutF_len _
theorem CutR.hit {s : ByteArray} {i f : Nat} {ls : List (List UInt8)} (h : CutR s i f ls) (hi : i < s.size) (hc : s[i].toNat = 44) : CutR s (i + 1) (i + 1) (ls ++ [(s.extract f i).data.toList]) := by
  obtain ⟨hf, hs⟩ := h.1 (by omega)
  refine ⟨fun _ => ⟨Nat.le_refl _, ?_⟩, fun e => by omega⟩
  have h44 : s[i] = 44 := UInt8.toNat_inj.1 hc
  rw [Dj.take_snoc s i hi, cutS_snoc, hs, h44, cut_piece s hf]
  show (_, _) = (_, _)
  congr 1
  rw [List.drop_eq_nil_of_le]
  rw [List.length_append, List.length_take, List.length_cons, List.length_nil]
  omega
theorem CutR.skip {s : ByteArray} {i f : Nat} {ls : List (List UInt8)} (h : CutR s i f ls) (hi : i < s.size) (hc : ¬ s[i].toNat = 44) : CutR s (i + 1) f ls := by
  obtain ⟨hf, hs⟩ := h.1 (by omega)
  refine ⟨fun _ => ⟨by omega, ?_⟩, fun e => by omega⟩
  have h44 : ¬ s[i] = 44 := fun e => hc (by rw [e]; rfl)
  rw [Dj.take_snoc s i hi, cutS_snoc, hs]
  unfold cstep
  rw [if_neg h44, List.drop_append_of_le_length (by rw [List.length_take]; have e : s.data.toList.length = s.size := rfl; omega)]
theorem CutR.last {s : ByteArray} {i f : Nat} {ls : List (List UInt8)} (h : CutR s i f ls) (hi : i = s.size) : CutR s (i + 1) (i + 1) (ls ++ [(s.extract f i).data.toList]) := by
  obtain ⟨hf, hs⟩ := h.1 (by omega)
  refine ⟨fun h => by omega, fun _ => ?_⟩
  subst hi
  rw [cut_piece s hf]
  have e : s.data.toList.take s.size = s.data.toList := List.take_of_length_le (Nat.le_refl _)
  rw [e] at hs ⊢
  unfold cutF
  rw [hs]
set_option maxRecDepth 8000 in
set_option maxHeartbeats 4000000 in
theorem spec_l01Cut (s : ByteArray) (hs : s.size ≤ 1048576) (w : World) : Calls Tryd.prog 66 #[.string s, .int .u8 44] w (RetT (cutF s.data.toList) w) := by
  go_enter Tryd.func66, Tryd.ntmps66
  go_wp2
  go_loopw [5, 6, 7] (fun v f i wr => ∃ (i0 f0 : Nat) (ls : List (List UInt8)), i0 ≤ s.size + 1 ∧ f0 ≤ s.size + 1 ∧ f = .int .i64 f0 ∧ i = .int .i64 i0 ∧ Hid (CutR s i0 f0 ls) ∧ Hid (GathT w wr v ls)) (fun _ _ i _ => s.size + 1 - (RowKit.intOf i).toNat)
  case atStart => exact ⟨0, 0, [], by omega, by omega, rfl, rfl, Lib.hid (CutR.zero s), Lib.hid (GathT.empty w)⟩
  case round =>
    obtain ⟨i, f, ls, hi, hf, rfl, rfl, HC, HG⟩ := hrel
    have HLN := Lib.hid (show ls.length ≤ 1099511627776 by have := HC.out.len hi; omega)
    by_cases hle : i ≤ s.size
    · have hfi : f ≤ i := (HC.out.1 hle).1
      by_cases hlt : i < s.size
      · have hne : ((i : Int) == (s.size : Int)) = false := by simp; omega
        by_cases hc : s[i].toNat = 44
        · have HN := Lib.hid (HC.out.hit hlt hc)
          have hc' : ((s[i].toNat : Int) == 44) = true := by simp; omega
          clear hc
          go_wp2_with (at_builtin; refine wpList_pushX w _ _ (s.extract f i) _ HG HLN.out (by rfl) _ _ (by rfl) (by rfl) (by rfl) ?_; intro v' w' HG')
          go_roundw
          case rel => exact ⟨i + 1, i + 1, _, by omega, by omega, by go_num, by go_num, HN, HG'⟩
          case measure => simp [RowKit.intOf]; omega
        · have HN := Lib.hid (HC.out.skip hlt hc)
          have hc' : ((s[i].toNat : Int) == 44) = false := by simp; omega
          clear hc
          go_wp2
          go_roundw
          case rel => exact ⟨i + 1, f, _, by omega, by omega, rfl, by go_num, HN, HG⟩
          case measure => simp [RowKit.intOf]; omega
      · have he : i = s.size := by omega
        have HN := Lib.hid (HC.out.last he)
        have hie : ((i : Int) == (s.size : Int)) = true := by simp; omega
        clear he
        go_wp2_with (at_builtin; refine wpList_pushX w _ _ (s.extract f i) _ HG HLN.out (by rfl) _ _ (by rfl) (by rfl) (by rfl) ?_; intro v' w' HG')
        go_roundw
        case rel => exact ⟨i + 1, i + 1, _, by omega, by omega, by go_num, by go_num, HN, HG'⟩
        case measure => simp [RowKit.intOf]; omega
    · have HE := Lib.hid (HC.out.2 (by omega))
      obtain ⟨A, c, rfl, hg⟩ := gathT_shape HG.out
      have HG3 := Lib.hid hg
      clear hg HG HC
      go_wp2
      go_ret
      rw [← HE.out]
      exact ⟨A, c, rfl, Dm.GathT.rdT HG3.out, HG3.out.below⟩

end Go.Proofs.YtjkkfimkojmifaaDoor.Dn