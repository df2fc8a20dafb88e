/- The walks: pieces of a text between commas. -/
import Derived.Lib.SplitLaws
import Derived.Test.YtkfhgjknmdlhbaaGreatDoorSq
import Derived.Test.YtkfhgjknmdlhbaaGreatDoorDl
import Derived.Test.YtkfhgjknmdlhbaaGreatDoorDj
namespace Go.Proofs.YtkfhgjknmdlhbaaGreatDoor.Dm
open Go Go.RowKit Go.Lib Da Dc Dd De
set_option linter.unusedVariables false
/-- The pieces that are done, and the one that has begun. -/
def cstep (p : List (List UInt8) × List UInt8) (c : UInt8) : List (List UInt8) × List UInt8 := if c = 44 then (p.1 ++ [p.2], []) else (p.1, p.2 ++ [c])
def cutS (l : List UInt8) : List (List UInt8) × List UInt8 := l.foldl cstep ([], [])
/-- The pieces of a text between commas. -/
def cutF (l : List UInt8) : List (List UInt8) := (cutS l).1 ++ [(cutS l).2]
theorem cut_shift : ∀ (l : List UInt8) (D0 D : List (List UInt8)) (c : List UInt8), l.foldl cstep (D0 ++ D, c) = (D0 ++ (l.foldl cstep (D, c)).1, (l.foldl cstep (D, c)).2)
  | [], _, _, _ => rfl
  | x :: l, D0, D, c => by
    rw [List.foldl_cons, List.foldl_cons]
    by_cases h : x = 44
    · rw [show cstep (D0 ++ D, c) x = (D0 ++ (D ++ [c]), []) by unfold cstep; rw [if_pos h, List.append_assoc], show cstep (D, c) x = (D ++ [c], []) by unfold cstep; rw [if_pos h]]
      exact cut_shift l _ _ _
    · rw [show cstep (D0 ++ D, c) x = (D0 ++ D, c ++ [x]) by unfold cstep; rw [if_neg h], show cstep (D, c) x = (D, c ++ [x]) by unfold cstep; rw [if_neg h]]
      exact cut_shift l _ _ _
theorem cut_plain : ∀ (p : List UInt8) (D : List (List UInt8)) (c : List UInt8), (∀ x ∈ p, x ≠ 44) → p.foldl cstep (D, c) = (D, c ++ p)
  | [], D, c, _ => by simp
  | x :: p, D, c, h => by
    rw [List.foldl_cons, show cstep (D, c) x = (D, c ++ [x]) by unfold cstep; rw [if_neg (h x (by simp))], cut_plain p _ _ (fun y hy => h y (by simp [hy]))]
    simp
theorem cutF_miss {p : List UInt8} (h : ∀ x ∈ p, x ≠ 44) : cutF p = [p] := by
  unfold cutF cutS
  rw [cut_plain p [] [] h]; rfl
theorem cutF_hit {p r : List UInt8} (h : ∀ x ∈ p, x ≠ 44) : cutF (p ++ 44 :: r) = p :: cutF r := by
  unfold cutF cutS
  rw [List.foldl_append, cut_plain p [] [] h, List.foldl_cons, show cstep ([], [] ++ p) 44 = ([p] ++ [], []) from rfl, cut_shift]
  rfl
theorem cutS_snoc (l : List UInt8) (c : UInt8) : cutS (l ++ [c]) = cstep (cutS l) c := by unfold cutS; rw [List.foldl_append]; rfl
theorem cutF_len (l : List UInt8) : (cutF l).length ≤ l.length + 1 := by
  have key : ∀ (l : List UInt8) (D : List (List UInt8)) (c : List UInt8), (l.foldl cstep (D, c)).1.length ≤ D.length + l.length := by
    intro l
    induction l with
    | nil => intro D c; simp
    | cons x l ih =>
      intro D c
      rw [List.foldl_cons, List.length_cons]
      by_cases h : x = 44
      · rw [show cstep (D, c) x = (D ++ [c], []) by unfold cstep; rw [if_pos h]]
        have := ih (D ++ [c]) []
        rw [List.length_append, List.length_cons, List.length_nil] at this
        omega
      · rw [show cstep (D, c) x = (D, c ++ [x]) by unfold cstep; rw [if_neg h]]
        have := ih D (c ++ [x])
        omega
  have := key l [] []
  unfold cutF cutS
  simp at this ⊢
  omega
theorem occ_at {s : List UInt8} {j : Nat} : occAt s [44] j = true ↔ s[j]? = some 44 := by
  unfold occAt
  rw [← List.head?_drop]
  cases s.drop j with
  | nil => simp
  | cons a l =>
    simp only [List.isPrefixOf, Bool.and_true, List.head?_cons, Option.some.injEq, beq_iff_eq]
    exact ⟨Eq.symm, Eq.symm⟩
theorem split_cut : ∀ (k : Nat) (s : ByteArray), countB s ⟨#[44]⟩ = k → (splitB ⟨#[44]⟩ 0 k s).map (·.data.toList) = cutF s.data.toList := by
  intro k
  induction k with
  | zero =>
    intro s hk
    rcases index_spec s.data.toList [44] with ⟨h1, h2⟩ | ⟨i, h1, _⟩
    · rw [splitB_zero, cutF_miss]
      · rfl
      · intro x hx e
        subst e
        obtain ⟨j, hj, hx⟩ := List.getElem_of_mem hx
        have := occ_at.2 (show s.data.toList[j]? = some 44 by rw [List.getElem?_eq_getElem hj, hx])
        rw [h2 j (by omega)] at this
        cases this
    · exfalso
      have := countB_hit s ⟨#[44]⟩ i (by decide) h1
      omega
  | succ k ih =>
    intro s hk
    rcases index_spec s.data.toList [44] with ⟨h1, h2⟩ | ⟨i, h1, hi, h3, h4⟩
    · exfalso
      have := countB_miss s ⟨#[44]⟩ h1
      omega
    · have hc := countB_hit s ⟨#[44]⟩ i (by decide) h1
      rw [splitB_hit _ _ _ _ i h1, List.map_cons, ih _ (by omega)]
      have e1 : (s.extract 0 (i + 0)).data.toList = s.data.toList.take i := by rw [Nat.add_zero, extract_from_zero]
      have e2 : (s.extract (i + (⟨#[44]⟩ : ByteArray).size) s.size).data.toList = s.data.toList.drop (i + 1) := by
        rw [extract_to_end]; rfl
      rw [e1, e2]
      have h5 := occ_at.1 h3
      have hlt : i < s.data.toList.length := by
        rcases Nat.lt_or_ge i s.data.toList.length with h | h
        · exact h
        · rw [List.getElem?_eq_none h] at h5; cases h5
      rw [List.getElem?_eq_getElem hlt] at h5
      conv => rhs; rw [← List.take_append_drop i s.data.toList, List.drop_eq_getElem_cons hlt, Option.some.inj h5]
      rw [cutF_hit]
      intro x hx e
      subst e
      obtain ⟨j, hj, hx⟩ := List.getElem_of_mem hx
      rw [List.length_take] at hj
      have h6 : s.data.toList[j]? = some 44 := by
        rw [List.getElem?_eq_getElem (by omega), ← hx, List.getElem_take]
      have := h4 j (by omega)
      rw [occ_at.2 h6] at this
      cases this
/-- The slice at A reads as the texts ls, below block B. -/
def RdT (w : World) (B : Nat) (A : Option Addr) (ls : List (List UInt8)) : Prop := ls ≠ [] → ∃ ad : Addr, A = some ad ∧ ad.block < B ∧ ∀ j l, ls[j]? = some l → w.cell? (ad.add j) = some (.string ⟨l.toArray⟩)
theorem RdT.at_ {w : World} {B : Nat} {A : Option Addr} {ls : List (List UInt8)} (h : RdT w B A ls) {j : Nat} (hj : j < ls.length) : ∃ ad : Addr, A = some ad ∧ ad.block < B ∧ w.cell? (ad.add j) = some (.string ⟨ls[j].toArray⟩) := by
  obtain ⟨ad, e, hb, hc⟩ := h (by intro e; subst e; simp at hj)
  exact ⟨ad, e, hb, hc j _ (List.getElem?_eq_getElem hj)⟩
theorem RdT.below {w w' : World} {B : Nat} {A : Option Addr} {ls : List (List UInt8)} (h : RdT w B A ls) (hb : Below B w w') : RdT w' B A ls := fun hn => by
  obtain ⟨ad, e, hB, hc⟩ := h hn
  exact ⟨ad, e, hB, fun j l hl => (hb.cell (by rw [Dc.add_block]; exact hB)).trans (hc j l hl)⟩
theorem RdT.more {w : World} {B B' : Nat} {A : Option Addr} {ls : List (List UInt8)} (h : RdT w B A ls) (hB : B ≤ B') : RdT w B' A ls := fun hn => by
  obtain ⟨ad, e, hb, hc⟩ := h hn
  exact ⟨ad, e, by omega, hc⟩
theorem GathT.rdT {w0 w : World} {A : Option Addr} {n c : Nat} {ls : List (List UInt8)} (h : GathT w0 w (.slice A n c) ls) : RdT w w.heap.size A ls := fun hn => by
  have hl := h.own.lt
  rcases h.own.2 with ⟨hv, hz⟩ | ⟨g, cap, cur, hv, _⟩
  · exact absurd (List.eq_nil_of_length_eq_zero hz) hn
  · simp at hv
    obtain ⟨rfl, _⟩ := hv
    refine ⟨_, rfl, (hl g rfl).2, fun j l hj => ?_⟩
    exact h.own.cells (g := g) rfl j _ (by unfold strs; rw [List.getElem?_map, hj]; rfl)
/-- Texts, in new memory. -/
def RetT (ls : List (List UInt8)) (w : World) (e : Ending) (w' : World) : Prop := ∃ A c, e = .returned (.slice A ls.length c) ∧ RdT w' w'.heap.size A ls ∧ Below w.heap.size w w'
/-- 'append(texts, s)', s A STRING. -/
theorem wpList_pushX {ops : Array Oper} {rest : List Oper} {o : Oper} {a : Act} {Q : Exit → Act → World → Prop} (w0 wr : World) (ls : List (List UInt8)) (x : ByteArray) (a_v : Value) (hg : Hid (GathT w0 wr a_v ls)) (hlen : ls.length ≤ 1099511627776)
    (hgd : o.guard = none) (s y : Operand) (ho : o.op = .call { callee := .builtin .append, args := #[s, y], argTypes := #[69, 69] })
    (hs : a.eval s = a_v) (hy : a.eval y = .slice (some ⟨wr.heap.size, 0, none⟩) 1 1)
    (h : ∀ v' w', Hid (GathT w0 w' v' (ls ++ [x.data.toList])) → wpList Tryz.prog ops Q rest (a.put o.dst v') w') : wpList Tryz.prog ops Q (o :: rest) a (wr.alloc (.cells #[.string x] 9)) :=
  wpList_pushS w0 wr ls x.data.toList a_v hg hlen hgd s y ho hs hy h
/-- internal/bytealg.MaxLen holds some integer. -/
def MaxL (w : World) : Prop := ∃ m, w.cell? ⟨4, 0, none⟩ = some (.int .i64 m)
theorem MaxL.below {w w' : World} (h : MaxL w) (hb : Below w.heap.size w w') : MaxL w' := by
  obtain ⟨m, hm⟩ := h
  exact ⟨m, (hb.cell (World.block_lt_of_cell? w _ hm)).trans hm⟩
/-- The text 'none'. -/
def noneT : List UInt8 := [110, 111, 110, 101]
def piecesV (l : List UInt8) : List (List UInt8) := if l = noneT then [] else cutF l
theorem none_eq {s : ByteArray} (h : s.data.toList = noneT) : (s.toList == [110, 111, 110, 101]) = true := by
  rw [ByteArray.toList_eq, h]; rfl
theorem none_ne {s : ByteArray} (h : ¬ s.data.toList = noneT) : (s.toList == [110, 111, 110, 101]) = false := by
  rw [ByteArray.toList_eq]; simpa [noneT] using h
set_option maxHeartbeats 1000000 in
theorem impl_pieces (s : ByteArray) (hs : s.size ≤ 1048576) (w : World) (hm : MaxL w) : Calls Tryz.prog 49 #[.string s] w (RetT (piecesV s.data.toList) w) := by
  by_cases hn : s.data.toList = noneT
  · have h1 := none_eq hn
    have HP := Lib.hid (show piecesV s.data.toList = [] by unfold piecesV; rw [if_pos hn])
    clear hn hm
    go_enter Tryz.func49, Tryz.ntmps49
    go_wp2
    go_ret
    rw [HP.out]
    exact ⟨none, 0, rfl, fun h => absurd rfl h, Below.refl _ _⟩
  · have h1 := none_ne hn
    have HP := Lib.hid (show piecesV s.data.toList = cutF s.data.toList by unfold piecesV; rw [if_neg hn])
    clear hn
    obtain ⟨m, hm⟩ := hm
    have HM := Lib.hid hm
    clear hm
    go_enter Tryz.func49, Tryz.ntmps49
    go_wp2_with fail
    refine (Tryz.strings_Split s ⟨#[44]⟩ m _ (by omega) HM.out (by decide)).mono ?_
    rintro e w' ⟨rfl, rfl⟩
    go_wp2
    go_ret
    rw [HP.out]
    have e1 := split_cut _ s rfl
    have e2 : (splitB ⟨#[44]⟩ 0 (countB s ⟨#[44]⟩) s).length = countB s ⟨#[44]⟩ + 1 := splitB_all _ (by decide) 0 _ s rfl
    have e3 : (cutF s.data.toList).length = countB s ⟨#[44]⟩ + 1 := by rw [← e1, List.length_map, e2]
    refine ⟨some ⟨w.heap.size, 0, none⟩, countB s ⟨#[44]⟩ + 1, by rw [e3]; rfl, fun _ => ⟨_, rfl, by simp, fun j l hj => ?_⟩, (Below.refl _ _).alloc (Nat.le_refl _) _⟩
    rw [← e1, List.getElem?_map] at hj
    cases hx : (splitB ⟨#[44]⟩ 0 (countB s ⟨#[44]⟩) s)[j]? with
    | none => rw [hx] at hj; cases hj
    | some x =>
      rw [hx] at hj
      cases hj
      rw [Dc.add_at]
      simp [hx]

end Go.Proofs.YtkfhgjknmdlhbaaGreatDoor.Dm