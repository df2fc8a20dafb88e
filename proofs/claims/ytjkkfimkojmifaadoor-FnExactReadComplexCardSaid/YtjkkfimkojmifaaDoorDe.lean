/- The walks: ListText: texts gathered and joined. -/
import Derived.Test.YtjkkfimkojmifaaDoorDd
namespace Go.Proofs.YtjkkfimkojmifaaDoor.De
open Go Go.RowKit Go.Lib Da Dc Dd
set_option linter.unusedVariables false
theorem str_info : (Tryd.prog.info? 9).map (fun i => (i.zero, i.size, i.bytes)) = some (some (.string ⟨#[]⟩), 1, 16) := by kernel_rfl
def strs (ls : List (List UInt8)) : List Value := ls.map fun l => Value.string ⟨l.toArray⟩
theorem strs_len (ls : List (List UInt8)) : (strs ls).length = ls.length := by simp [strs]
/-- v holds the texts ls in memory that is new since w0. -/
structure GathT (w0 wr : World) (v : Value) (ls : List (List UInt8)) : Prop where
  own : wr.ownsRow w0.heap.size 9 1 v ls.length (strs ls)
  below : Below w0.heap.size w0 wr
theorem GathT.empty (w : World) : GathT w (w.alloc (.cells #[] 9)) (.slice (some ⟨w.heap.size, 0, none⟩) 0 0) [] :=
  ⟨World.ownsRow_made w #[] 0 (Nat.le_refl _) (by unfold maxLen; omega) rfl, (Below.refl _ _).alloc (Nat.le_refl _) _⟩
/-- 'append(texts, s)'. -/
theorem wpList_pushS {ops : Array Oper} {rest : List Oper} {o : Oper} {a : Act} {Q : Exit → Act → World → Prop} (w0 wr : World) (ls : List (List UInt8)) (l : List UInt8) (a_v : Value) (hg : Hid (GathT w0 wr a_v ls)) (hlen : ls.length ≤ 1099511627776)
    (hgd : o.guard = none) (s y : Operand) (ho : o.op = .call { callee := .builtin .append, args := #[s, y], argTypes := #[53, 53] })
    (hs : a.eval s = a_v) (hy : a.eval y = .slice (some ⟨wr.heap.size, 0, none⟩) 1 1)
    (h : ∀ v' w', Hid (GathT w0 w' v' (ls ++ [l])) → wpList Tryd.prog ops Q rest (a.put o.dst v') w') : wpList Tryd.prog ops Q (o :: rest) a (wr.alloc (.cells #[.string ⟨l.toArray⟩] 9)) := by
  obtain ⟨i0, hi, hz0, hz1, hz2⟩ := info_parts str_info
  have H := hg.out
  refine wpList_append_own _ hgd s y 53 ho w0.heap.size 9 i0 (.string ⟨#[]⟩) 1 16 Tryd.underlying53 hi hz0 hz1 hz2 rfl (by decide) _ _ _ hs (H.own.alloc _) ⟨wr.heap.size, 0, none⟩ 1 1 [.string ⟨l.toArray⟩] hy rfl ?c1 ?c2 ?c3 ?c4 ?c5 ?_
  case c1 =>
    intro j u hj
    match j, hj with
    | 0, hj => simp at hj; subst hj; simp [Addr.add]
  case c2 => intro u hu; simp at hu; subst hu; rfl
  case c3 => unfold maxLen; omega
  case c4 => omega
  case c5 => have := H.below.size; simp; omega
  · intro v' w' hown' hgrow _
    refine h v' w' ⟨?_, ?_⟩
    · have e1 : (ls ++ [l]).length = ls.length + 1 := by simp
      have e2 : strs (ls ++ [l]) = strs ls ++ [.string ⟨l.toArray⟩] := by unfold strs; simp
      rw [e1, e2]; exact hown'
    · refine (H.below.alloc H.below.size _).grown hgrow (by simp; have := H.below.size; omega) ?_
      intro k hk
      exact (H.own.lt k hk).1
theorem gathT_shape {w0 wr : World} {v : Value} {ls : List (List UInt8)} (h : GathT w0 wr v ls) : ∃ A c, v = .slice A ls.length c ∧ GathT w0 wr (.slice A ls.length c) ls := by
  rcases h.own.2 with ⟨rfl, hn⟩ | ⟨g, cap, cur, rfl, _⟩
  · have : ls = [] := List.eq_nil_of_length_eq_zero hn
    subst this
    exact ⟨none, 0, rfl, h⟩
  · exact ⟨_, _, rfl, h⟩
/-- Texts with commas between them. -/
def joinedV (ls : List (List UInt8)) : List UInt8 := if ls = [] then [110, 111, 110, 101] else join ls [44]
theorem map_back (ls : List (List UInt8)) : (ls.map fun l => (⟨l.toArray⟩ : ByteArray)).map (·.data.toList) = ls := by
  rw [List.map_map]
  conv => rhs; rw [← List.map_id ls]
  congr 1
theorem impl_joined (ls : List (List UInt8)) (A : Option Addr) (c : Nat) (w0 w : World) (hg : GathT w0 w (.slice A ls.length c) ls) (hl : ls.length ≤ 1048576) (hlen : (join ls [44]).length ≤ 1099511627776) :
    Calls Tryd.prog 44 #[.slice A ls.length c] w (RetS (joinedV ls) w) := by
  by_cases he : ls = []
  · subst he
    clear hg
    go_enter Tryd.func44, Tryd.ntmps44
    go_wp2
    go_ret
    exact ⟨rfl, Below.refl _ _⟩
  · have hne : 0 < ls.length := List.length_pos_iff.2 he
    have HJ := Lib.hid (show joinedV ls = join ls [44] by unfold joinedV; rw [if_neg he])
    have hl0 : ¬ (ls.length : Int) = 0 := by omega
    have hlb : ((ls.length : Int) == 0) = false := by simpa using hl0
    have HG := Lib.hid hg
    have hlt := hg.own.lt
    obtain ⟨g, rfl, hcap⟩ : ∃ g, A = some ⟨g, 0, none⟩ ∧ ls.length ≤ c := by
      rcases hg.own.2 with ⟨hv, hn⟩ | ⟨g, cap, cur, hv, _, _, hc, _⟩
      · omega
      · simp at hv
        exact ⟨g, hv.1, by omega⟩
    have hgb := (hlt g rfl).2
    have hcells : ∀ (j : Nat) (x : ByteArray), (ls.map fun l => (⟨l.toArray⟩ : ByteArray))[j]? = some x → w.cell? ⟨g, 0 + j, none⟩ = some (.string x) := by
      intro j x hj
      have h1 := hg.own.cells (g := g) rfl j (.string x) (by
        unfold strs
        rw [List.getElem?_map] at hj ⊢
        cases h : ls[j]? with
        | none => rw [h] at hj; cases hj
        | some l => rw [h] at hj; cases hj; rfl)
      have e : (⟨g, 0, none⟩ : Addr).add j = ⟨g, 0 + j, none⟩ := by rw [add_at, Nat.zero_add]
      rw [e] at h1
      exact h1
    have hjoin := Tryd.strings_Join g 0 c (ls.map fun l => (⟨l.toArray⟩ : ByteArray)) ⟨#[44]⟩ w hcells hgb (by rw [List.length_map]; omega) (by rw [List.length_map]; exact hcap) (by rw [map_back]; show (join ls [44]).length ≤ _; omega)
    rw [map_back, List.length_map] at hjoin
    have HC := Lib.hid hjoin
    clear he hg hlt hcells hjoin
    go_enter Tryd.func44, Tryd.ntmps44
    go_wp2_with fail
    refine HC.out.mono ?_
    rintro e w' ⟨rfl, hb⟩
    have HB := Lib.hid hb
    clear hb
    go_wp2
    go_ret
    exact ⟨by rw [HJ.out]; rfl, HB.out⟩
theorem text_joined (zs : List Int) : joinedV (zs.map itoa) = textV zs := by
  unfold joinedV textV joinT
  cases zs <;> simp
def TextR (zs : List Int) (w : World) (j : Nat) (v : Value) (wr : World) : Prop := ∃ ls, ls = (zs.take j).map itoa ∧ GathT w wr v ls
theorem gathT_below {w0 wr w2 : World} {v : Value} {ls : List (List UInt8)} (h : GathT w0 wr v ls) (hb : Below wr.heap.size wr w2) : GathT w0 w2 v ls :=
  ⟨h.own.kept (row := none) ⟨hb.os, hb.tape, hb.output, hb.size, fun k hk _ => hb.block k hk⟩ (by cases hv : v.ownBlock <;> simp), h.below.trans (Below.mono hb h.below.size)⟩
theorem RetS.after {l : List UInt8} {w w1 : World} {e : Ending} {w' : World} (h : RetS l w1 e w') (hb : Below w.heap.size w w1) : RetS l w e w' := ⟨h.1, hb.trans (Below.mono h.2 hb.size)⟩
set_option maxHeartbeats 2000000 in
theorem impl_listText (zs : List Int) (A : Option Addr) (c : Nat) (w : World) (M : Nat) (hx : Rd w M A zs) (hl : zs.length ≤ 1048576) (hr : InR zs) (hM : M ≤ w.heap.size) (ht : Pow10 w) : Calls Tryd.prog 40 #[.slice A zs.length c] w (RetS (textV zs) w) := by
  have HX := Lib.hid hx
  have HR := Lib.hid hr
  have HT := Lib.hid ht
  clear hx hr ht
  go_enter Tryd.func40, Tryd.ntmps40
  go_wp2
  go_loopw [3, 9] (fun v i wr => ∃ j : Nat, j ≤ zs.length ∧ i = .int .i64 j ∧ Hid (TextR zs w j v wr)) (fun _ i _ => zs.length - (RowKit.intOf i).toNat)
  case atStart => exact ⟨0, by omega, rfl, Lib.hid ⟨[], rfl, GathT.empty w⟩⟩
  case round =>
    obtain ⟨j, hj, rfl, HJ⟩ := hrel
    obtain ⟨ls, hls, hg0⟩ := HJ.out
    have hll : ls.length = j := by rw [hls, List.length_map, List.length_take]; omega
    have hlen : ls.length ≤ 1099511627776 := by omega
    have HL := Lib.hid hls
    have HG := Lib.hid hg0
    clear HJ hls hg0 hll
    by_cases hlt : j < zs.length
    · obtain ⟨ad, rfl, hb, hc⟩ := ((HX.out.more hM).below HG.out.below).at_ hlt
      obtain ⟨z, hz⟩ : ∃ z, z = zs[j] := ⟨_, rfl⟩
      rw [← hz] at hc
      have hrz := HR.out z (by rw [hz]; exact List.getElem_mem hlt)
      have HZ := Lib.hid hz
      obtain ⟨D, hD⟩ : ∃ D, D = itoa z := ⟨_, rfl⟩
      have HD := Lib.hid hD
      have HN := Lib.hid (show ls ++ [D] = (zs.take (j + 1)).map itoa by rw [HL.out, List.take_succ_eq_append_getElem hlt, List.map_append, hD, hz]; rfl)
      clear hz hD
      go_wp2_with fail
      refine (impl_Decimal z hrz.1 hrz.2 _ (HT.out.below HG.out.below)).mono ?_
      rw [← HD.out]
      rintro e w2 ⟨rfl, hb2⟩
      have HG2 := Lib.hid (gathT_below HG.out hb2)
      clear hb2
      go_wp2_with (at_builtin; refine wpList_pushS w _ _ D _ HG2 hlen (by rfl) _ _ (by rfl) (by rfl) (by rfl) ?_; intro v' w' HG')
      go_roundw
      case rel => exact ⟨j + 1, by omega, by go_num, Lib.hid ⟨_, HN.out, HG'.out⟩⟩
      case measure => simp [RowKit.intOf]; omega
    · have hjl : j = zs.length := by omega
      have hls2 : ls = zs.map itoa := by rw [HL.out, hjl, List.take_length]
      have hlm : ls.length ≤ 1048576 := by rw [hls2, List.length_map]; exact hl
      have HV := Lib.hid (show joinedV ls = textV zs by rw [hls2]; exact text_joined zs)
      have hjl2 := joinT_len HR.out zs.length (Nat.le_refl _)
      rw [List.take_length] at hjl2
      have hjn : (join ls [44]).length ≤ 1099511627776 := by rw [hls2]; show (joinT zs).length ≤ _; omega
      clear hjl hls2 hjl2
      obtain ⟨A', c', rfl, hg⟩ := gathT_shape HG.out
      have HG3 := Lib.hid hg
      clear hg HG
      go_wp2_with fail
      have HCJ := Lib.hid (impl_joined ls A' c' w wr HG3.out hlm hjn)
      refine HCJ.out.mono ?_
      rw [HV.out]
      rintro e w2 ⟨rfl, hb2⟩
      have HB2 := Lib.hid (HG3.out.below.trans (Below.mono hb2 HG3.out.below.size))
      clear hb2 HCJ
      go_wp2
      go_ret
      exact ⟨rfl, HB2.out⟩
/-- A text and whether. -/
def pickS (b : Bool) (l : List UInt8) : ByteArray := if b then ⟨l.toArray⟩ else ⟨#[]⟩
def RetSB (l : List UInt8) (b : Bool) (w : World) (e : Ending) (w' : World) : Prop := e = .returned (.tuple #[.string (pickS b l), .bool b]) ∧ Below w.heap.size w w'
theorem list_64 {zs : List Int} (h : listB zs = true) : zs.length ≤ 64 := by
  unfold listB at h
  simp only [Bool.and_eq_true, decide_eq_true_eq] at h
  omega
theorem spec_ListText (zs : List Int) (A : Option Addr) (c : Nat) (w : World) (M : Nat) (hx : Rd w M A zs) (hl : zs.length ≤ 1048576) (hr : InR zs) (hM : M ≤ w.heap.size) : Calls Tryd.prog 12 #[.slice A zs.length c] w (RetSB (textV zs) (listB zs) w) := by
  have HX := Lib.hid hx
  clear hx
  cases hb : listB zs
  · have HB := Lib.hid hb
    clear hb
    go_enter Tryd.func12, Tryd.ntmps12
    go_wp2_with fail
    refine (spec_l01List zs A c _ M (by exact HX.out) hl).mono ?_
    unfold RetQ
    rw [HB.out]
    rintro e w ⟨rfl, rfl⟩
    go_wp2
    go_ret2
    exact ⟨rfl, Below.refl _ _⟩
  · have HB := Lib.hid hb
    have h64 := list_64 hb
    clear hb
    go_enter Tryd.func12, Tryd.ntmps12
    go_wp2_with fail
    refine (spec_l01List zs A c _ M (by exact HX.out) hl).mono ?_
    unfold RetQ
    rw [HB.out]
    rintro e w ⟨rfl, rfl⟩
    go_wp2_with fail
    refine (spec_l01Text zs A c _ M (by exact HX.out) hl hr h64 hM).mono ?_
    rintro e w2 ⟨rfl, hb2⟩
    have HB2 := Lib.hid hb2
    clear hb2
    go_wp2
    go_ret2
    exact ⟨rfl, HB2.out⟩
theorem impl_ListText (zs : List Int) (A : Option Addr) (c : Nat) (w : World) (M : Nat) (hx : Rd w M A zs) (hl : zs.length ≤ 1048576) (hr : InR zs) (hM : M ≤ w.heap.size) (ht : Pow10 w) : Calls Tryd.prog 14 #[.slice A zs.length c] w (RetSB (textV zs) (listB zs) w) := by
  have HX := Lib.hid hx
  have HT := Lib.hid ht
  clear hx ht
  cases hb : listB zs
  · have HB := Lib.hid hb
    clear hb
    go_enter Tryd.func14, Tryd.ntmps14
    go_wp2_with fail
    refine (impl_areValues zs A c _ M (by exact HX.out) hl).mono ?_
    unfold RetQ
    rw [HB.out]
    rintro e w ⟨rfl, rfl⟩
    go_wp2
    go_ret2
    exact ⟨rfl, Below.refl _ _⟩
  · have HB := Lib.hid hb
    clear hb
    go_enter Tryd.func14, Tryd.ntmps14
    go_wp2_with fail
    refine (impl_areValues zs A c _ M (by exact HX.out) hl).mono ?_
    unfold RetQ
    rw [HB.out]
    rintro e w ⟨rfl, rfl⟩
    go_wp2_with fail
    refine (impl_listText zs A c _ M (by exact HX.out) hl hr hM HT.out).mono ?_
    rintro e w2 ⟨rfl, hb2⟩
    have HB2 := Lib.hid hb2
    clear hb2
    go_wp2
    go_ret2
    exact ⟨rfl, HB2.out⟩

end Go.Proofs.YtjkkfimkojmifaaDoor.De