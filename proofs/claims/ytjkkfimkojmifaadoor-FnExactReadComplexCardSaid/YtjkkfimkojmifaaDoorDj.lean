/- The walks: ReadDecimal. -/
import Derived.Lib.SmallJoins
import Derived.Test.YtjkkfimkojmifaaDoorSp
import Derived.Test.YtjkkfimkojmifaaDoorDi
namespace Go.Proofs.YtjkkfimkojmifaaDoor.Dj
open Go Go.RowKit Go.Lib Da Dd Di
set_option linter.unusedVariables false
def pickN (b : Bool) (n : Int) : Int := if b then n else 0
/-- The number of a numeral, and whether. -/
def RetNum (l : List UInt8) (w : World) (e : Ending) (w' : World) : Prop := e = .returned (.tuple #[.int .i64 (pickN (readB l) (specN l)), .bool (readB l)]) ∧ Below w.heap.size w w'
theorem RetNum.no {l : List UInt8} {w w' : World} (h : readB l = false) (hb : Below w.heap.size w w') : RetNum l w (.returned (.tuple #[.int .i64 0, .bool false])) w' := by
  refine ⟨?_, hb⟩
  rw [h]; rfl
theorem RetNum.yes {l : List UInt8} {n : Int} {w w' : World} (h : readB l = true) (hn : specN l = n) (hb : Below w.heap.size w w') : RetNum l w (.returned (.tuple #[.int .i64 n, .bool true])) w' := by
  refine ⟨?_, hb⟩
  rw [h, hn]; rfl
theorem take_snoc (s : ByteArray) (k : Nat) (h : k < s.size) : s.data.toList.take (k + 1) = s.data.toList.take k ++ [s[k]] := by
  have hk : k < s.data.toList.length := by simpa using h
  rw [List.take_succ_eq_append_getElem hk]; rfl
theorem size_len (s : ByteArray) : s.data.toList.length = s.size := rfl
theorem sum_bd (l : List UInt8) : sumD l < 10 ^ l.length := by
  have key : ∀ (l : List UInt8) (a : Nat), l.foldl dstep a < (a + 1) * 10 ^ l.length := by
    intro l
    induction l with
    | nil => intro a; simp
    | cons c l ih =>
      intro a
      rw [List.foldl_cons, List.length_cons, Nat.pow_succ]
      have h1 := ih (dstep a c)
      have h2 : dstep a c + 1 ≤ (a + 1) * 10 := by
        unfold dstep
        have := c.toNat_lt
        split <;> omega
      have h3 : (dstep a c + 1) * 10 ^ l.length ≤ (a + 1) * 10 * 10 ^ l.length := Nat.mul_le_mul_right _ h2
      have h4 : (a + 1) * 10 * 10 ^ l.length = (a + 1) * (10 ^ l.length * 10) := by rw [Nat.mul_assoc, Nat.mul_comm 10]
      omega
  have := key l 0
  unfold sumD
  omega
theorem sum_17 {l : List UInt8} (h : l.length ≤ 17) : sumD l < 100000000000000000 := by
  have h1 := sum_bd l
  have h2 : 10 ^ l.length ≤ 10 ^ 17 := Nat.pow_le_pow_right (by omega) h
  have h3 : (10 : Nat) ^ 17 = 100000000000000000 := by decide
  omega
theorem sum_yes {s : ByteArray} {k : Nat} (h : k < s.size) (h0 : 48 ≤ s[k].toNat) (h1 : s[k].toNat ≤ 57) : (sumD (s.data.toList.take (k + 1)) : Int) = 10 * (sumD (s.data.toList.take k) : Int) + ((s[k].toNat : Int) - 48) := by
  rw [take_snoc s k h, sum_snoc]; unfold dstep; rw [if_pos ⟨h0, h1⟩]; omega
theorem sum_no {s : ByteArray} {k : Nat} (h : k < s.size) (h0 : ¬ (48 ≤ s[k].toNat ∧ s[k].toNat ≤ 57)) : sumD (s.data.toList.take (k + 1)) = sumD (s.data.toList.take k) := by
  rw [take_snoc s k h, sum_snoc]; unfold dstep; rw [if_neg h0]
theorem cmp_eq {s : ByteArray} {l : List UInt8} (h : l = s.data.toList) : (l == s.toList) = true := by
  rw [ByteArray.toList_eq]; simpa using h
theorem cmp_ne {s : ByteArray} {l : List UInt8} (h : ¬ l = s.data.toList) : (l == s.toList) = false := by
  rw [ByteArray.toList_eq]; simpa using h
/-- The two error variables hold errors. -/
def Errs (w : World) : Prop := (∃ tp p, w.var? Tryd.prog "strconv.ErrSyntax" = some #[.iface tp p]) ∧ ∃ tp p, w.var? Tryd.prog "strconv.ErrRange" = some #[.iface tp p]
theorem Errs.below {w w' : World} (h : Errs w) (hb : Below w.heap.size w w') : Errs w' := by
  obtain ⟨⟨t1, p1, h1⟩, t2, p2, h2⟩ := h
  exact ⟨⟨t1, p1, Go.Joins.var_stays (g := 2) (by kernel_rfl) h1 hb (Nat.le_refl _)⟩, t2, p2, Go.Joins.var_stays (g := 3) (by kernel_rfl) h2 hb (Nat.le_refl _)⟩

set_option maxHeartbeats 2000000 in
theorem impl_ReadDecimal (s : ByteArray) (hs : s.size ≤ 1048576) (w : World) (ht : Pow10 w) (he : Errs w) : Calls Tryd.prog 21 #[.string s] w (RetNum s.data.toList w) := by
  obtain ⟨⟨t1, p1, h1⟩, t2, p2, h2⟩ := he
  have HT := Lib.hid ht
  have E1 := Lib.hid h1
  have E2 := Lib.hid h2
  clear ht h1 h2
  cases hp : parseIntB 64 s.data.toList
  next v =>
    obtain ⟨hb, hn⟩ := parse_ok hp
    have HP := Lib.hid hp
    have HB := Lib.hid hb
    have HN := Lib.hid hn
    clear hp hb hn
    cases ho : okV v with
    | false =>
      have HF := Lib.hid (show readB s.data.toList = false by rw [HB.out, ho]; rfl)
      have HO := Lib.hid ho
      clear ho
      go_enter Tryd.func21, Tryd.ntmps21
      go_wp2_with fail
      refine (Tryd.strconv_ParseInt_10_at64_ok s (by omega) v HP.out _).mono ?_
      rintro e w2 ⟨rfl, hw⟩
      have B2 := Lib.hid (show Below w.heap.size w w2 by
        rcases hw with rfl | ⟨t, rfl⟩
        · exact Below.refl _ _
        · exact Go.Joins.below_bytesWorld w.heap.size w 5 t (Nat.le_refl _))
      clear hw
      go_wp2_with fail
      refine (impl_isValue v _).mono ?_
      unfold RetQ
      rw [HO.out]
      rintro e w2 ⟨rfl, rfl⟩
      go_wp2
      go_ret2
      exact RetNum.no HF.out B2.out
    | true =>
      have hr := okV_range ho
      have HO := Lib.hid ho
      clear ho
      by_cases hi : itoa v = s.data.toList
      · have HT' := Lib.hid (show readB s.data.toList = true by rw [HB.out, HO.out, decide_eq_true hi]; rfl)
        have hc := cmp_eq hi
        clear hi
        go_enter Tryd.func21, Tryd.ntmps21
        go_wp2_with fail
        refine (Tryd.strconv_ParseInt_10_at64_ok s (by omega) v HP.out _).mono ?_
        rintro e w2 ⟨rfl, hw⟩
        have B2 := Lib.hid (show Below w.heap.size w w2 by
          rcases hw with rfl | ⟨t, rfl⟩
          · exact Below.refl _ _
          · exact Go.Joins.below_bytesWorld w.heap.size w 5 t (Nat.le_refl _))
        clear hw
        go_wp2_with fail
        refine (impl_isValue v _).mono ?_
        unfold RetQ
        rw [HO.out]
        rintro e w2 ⟨rfl, rfl⟩
        go_wp2_with fail
        refine (impl_Decimal v (by omega) (by omega) _ (HT.out.below B2.out)).mono ?_
        rintro e w3 ⟨rfl, hb3⟩
        have B3 := Lib.hid (B2.out.trans (Below.mono hb3 B2.out.size))
        clear hb3
        go_wp2
        go_ret2
        exact RetNum.yes HT'.out (HN.out HT'.out) B3.out
      · have HF := Lib.hid (show readB s.data.toList = false by rw [HB.out, HO.out, decide_eq_false hi]; rfl)
        have hc := cmp_ne hi
        clear hi
        go_enter Tryd.func21, Tryd.ntmps21
        go_wp2_with fail
        refine (Tryd.strconv_ParseInt_10_at64_ok s (by omega) v HP.out _).mono ?_
        rintro e w2 ⟨rfl, hw⟩
        have B2 := Lib.hid (show Below w.heap.size w w2 by
          rcases hw with rfl | ⟨t, rfl⟩
          · exact Below.refl _ _
          · exact Go.Joins.below_bytesWorld w.heap.size w 5 t (Nat.le_refl _))
        clear hw
        go_wp2_with fail
        refine (impl_isValue v _).mono ?_
        unfold RetQ
        rw [HO.out]
        rintro e w2 ⟨rfl, rfl⟩
        go_wp2_with fail
        refine (impl_Decimal v (by omega) (by omega) _ (HT.out.below B2.out)).mono ?_
        rintro e w3 ⟨rfl, hb3⟩
        have B3 := Lib.hid (B2.out.trans (Below.mono hb3 B2.out.size))
        clear hb3
        go_wp2
        go_ret2
        exact RetNum.no HF.out B3.out
  next =>
    have HF := Lib.hid (parse_no (l := s.data.toList) (by intro v h; rw [hp] at h; cases h))
    have HP := Lib.hid hp
    clear hp
    go_enter Tryd.func21, Tryd.ntmps21
    go_wp2_with fail
    refine (Tryd.strconv_ParseInt_10_at64_syntax_var s (by omega) (HP.out.trans rfl) t1 p1 _ (by exact E1.out)).mono ?_
    rintro e w2 ⟨N, rfl, _, _, hb2⟩
    have B2 := Lib.hid hb2
    clear hb2
    go_wp2
    go_ret2
    exact RetNum.no HF.out B2.out
  next =>
    have HF := Lib.hid (parse_no (l := s.data.toList) (by intro v h; rw [hp] at h; cases h))
    have HP := Lib.hid hp
    clear hp
    go_enter Tryd.func21, Tryd.ntmps21
    go_wp2_with fail
    refine (Tryd.strconv_ParseInt_10_at64_range_var s (by omega) HP.out t2 p2 _ (by exact E2.out)).mono ?_
    rintro e w2 ⟨N, rfl, _, _, hb2⟩
    have B2 := Lib.hid hb2
    clear hb2
    go_wp2
    go_ret2
    exact RetNum.no HF.out B2.out

theorem read_long {l : List UInt8} (h : ¬ (1 ≤ l.length ∧ l.length ≤ 17)) : readB l = false := by
  unfold readB
  by_cases h1 : 1 ≤ l.length
  · rw [decide_eq_false (p := l.length ≤ 17) (by omega)]; simp
  · rw [decide_eq_false h1]; rfl
theorem head_eq {s : ByteArray} (h : 0 < s.size) : (s.data.toList.head? = some 45) ↔ s[0].toNat = 45 := by
  have e : s.data.toList.head? = some s[0] := by
    rw [List.head?_eq_getElem?, List.getElem?_eq_getElem (by rw [size_len]; exact h)]; rfl
  rw [e]
  constructor
  · intro h; rw [Option.some.inj h]; rfl
  · intro h
    congr 1
    exact UInt8.toNat_inj.1 h
theorem neg_spec {s : ByteArray} (h : 0 < s.size) (h45 : s[0].toNat = 45) : specN s.data.toList = -(sumD s.data.toList : Int) := by
  unfold specN; rw [if_pos ((head_eq h).2 h45)]
theorem pos_spec {s : ByteArray} (h : 0 < s.size) (h45 : ¬ s[0].toNat = 45) : specN s.data.toList = (sumD s.data.toList : Int) := by
  unfold specN; rw [if_neg (fun e => h45 ((head_eq h).1 e))]
theorem read_is {s : ByteArray} {v : Int} (h1 : 1 ≤ s.size) (h2 : s.size ≤ 17) (hv : specN s.data.toList = v) : readB s.data.toList = (okV v && decide (itoa v = s.data.toList)) := by
  unfold readB
  rw [size_len, decide_eq_true h1, decide_eq_true h2, hv]; rfl
set_option maxRecDepth 20000 in
set_option maxHeartbeats 4000000 in
theorem spec_l01Value (s : ByteArray) (hs : s.size ≤ 1048576) (w : World) : Calls Tryd.prog 46 #[.string s] w (RetNum s.data.toList w) := by
  by_cases hl1 : 1 ≤ s.size
  · by_cases hl2 : s.size ≤ 17
    · have q1 : decide ((s.size : Int) < 1) = false := decide_eq_false (by omega)
      have q2 : decide ((17 : Int) < (s.size : Int)) = false := decide_eq_false (by omega)
      go_enter Tryd.func46, Tryd.ntmps46
      go_wp2_with fail
      go_loopw [4, 5] (fun a i wr => ∃ (k : Nat) (n : Int), k ≤ s.size ∧ a = .int .i64 n ∧ i = .int .i64 k ∧ Hid (n = (sumD (s.data.toList.take k) : Int)) ∧ wr = w) (fun _ i _ => s.size - (RowKit.intOf i).toNat)
      case atStart => exact ⟨0, 0, Nat.zero_le _, rfl, rfl, Lib.hid rfl, rfl⟩
      case round =>
        obtain ⟨k, n, hk, rfl, rfl, HN, rfl⟩ := hrel
        have hn17 : 0 ≤ n ∧ n < 100000000000000000 := by
          have := sum_17 (l := s.data.toList.take k) (by rw [List.length_take, size_len]; omega)
          have h2 := HN.out
          omega
        obtain ⟨hn0, hn1⟩ := hn17
        by_cases hlt : k < s.size
        · have hc : (s[k].toNat : Int) < 256 := by have := s[k].toNat_lt; omega
          go_wp2
          all_goals first
            | (go_roundw
               case rel => exact ⟨k + 1, _, by omega, rfl, by go_num, Lib.hid (by have h1 := sum_yes hlt (by omega) (by omega); have h2 := HN.out; omega), by first | trivial | rfl⟩
               case measure => simp [RowKit.intOf]; omega)
            | (go_roundw
               case rel => exact ⟨k + 1, _, by omega, rfl, by go_num, Lib.hid (by have h1 := sum_no hlt (by omega); have h2 := HN.out; rw [h1]; exact h2), by first | trivial | rfl⟩
               case measure => simp [RowKit.intOf]; omega)
        · have hn : n = (sumD s.data.toList : Int) := by
            have h2 := HN.out
            rwa [show k = s.size by omega, List.take_of_length_le (by rw [size_len]; exact Nat.le_refl _)] at h2
          have h0 : 0 < s.size := by omega
          have hd : decide ((k : Int) < (s.size : Int)) = false := decide_eq_false (by omega)
          clear HN
          by_cases h45 : s[0].toNat = 45
          · have HE := Lib.hid (show specN s.data.toList = -n by rw [neg_spec h0 h45, hn])
            have h45' : (s[0].toNat : Int) = 45 := by omega
            clear hn h45
            have hv0 : -100000000000000000 < -n ∧ -n < 100000000000000000 := by omega
            obtain ⟨hv1, hv2⟩ := hv0
            cases ho : okV (-n)
            · have HF := Lib.hid (show readB s.data.toList = false by rw [read_is hl1 hl2 HE.out, ho]; rfl)
              have HO := Lib.hid ho
              clear ho
              go_wp2_with fail
              refine (spec_l00In (-n) (-1000000000000000) 1000000000000000 _).mono ?_
              unfold RetQ
              rw [show (decide (-1000000000000000 ≤ -n) && decide (-n ≤ 1000000000000000)) = false from HO.out]
              rintro e w2 ⟨rfl, rfl⟩
              go_wp2
              go_ret2
              exact RetNum.no HF.out (Below.refl _ _)
            · have HO := Lib.hid ho
              by_cases hi : itoa (-n) = s.data.toList
              · have HT := Lib.hid (show readB s.data.toList = true by rw [read_is hl1 hl2 HE.out, ho, decide_eq_true hi]; rfl)
                have hcm := cmp_eq hi
                clear ho hi
                go_wp2_with fail
                refine (spec_l00In (-n) (-1000000000000000) 1000000000000000 _).mono ?_
                unfold RetQ
                rw [show (decide (-1000000000000000 ≤ -n) && decide (-n ≤ 1000000000000000)) = true from HO.out]
                rintro e w2 ⟨rfl, rfl⟩
                go_wp2_with fail
                refine (spec_l01Dec (-n) (by omega) (by omega) _).mono ?_
                rintro e w3 ⟨rfl, hb3⟩
                have B3 := Lib.hid hb3
                clear hb3
                go_wp2
                go_ret2
                exact RetNum.yes HT.out HE.out B3.out
              · have HF := Lib.hid (show readB s.data.toList = false by rw [read_is hl1 hl2 HE.out, ho, decide_eq_false hi]; rfl)
                have hcm := cmp_ne hi
                clear ho hi
                go_wp2_with fail
                refine (spec_l00In (-n) (-1000000000000000) 1000000000000000 _).mono ?_
                unfold RetQ
                rw [show (decide (-1000000000000000 ≤ -n) && decide (-n ≤ 1000000000000000)) = true from HO.out]
                rintro e w2 ⟨rfl, rfl⟩
                go_wp2_with fail
                refine (spec_l01Dec (-n) (by omega) (by omega) _).mono ?_
                rintro e w3 ⟨rfl, hb3⟩
                have B3 := Lib.hid hb3
                clear hb3
                go_wp2
                go_ret2
                exact RetNum.no HF.out B3.out
          · have HE := Lib.hid (show specN s.data.toList = n by rw [pos_spec h0 h45, hn])
            have h45' : ¬ (s[0].toNat : Int) = 45 := by omega
            clear hn h45
            have hv0 : -100000000000000000 < n ∧ n < 100000000000000000 := by omega
            obtain ⟨hv1, hv2⟩ := hv0
            cases ho : okV (n)
            · have HF := Lib.hid (show readB s.data.toList = false by rw [read_is hl1 hl2 HE.out, ho]; rfl)
              have HO := Lib.hid ho
              clear ho
              go_wp2_with fail
              refine (spec_l00In (n) (-1000000000000000) 1000000000000000 _).mono ?_
              unfold RetQ
              rw [show (decide (-1000000000000000 ≤ n) && decide (n ≤ 1000000000000000)) = false from HO.out]
              rintro e w2 ⟨rfl, rfl⟩
              go_wp2
              go_ret2
              exact RetNum.no HF.out (Below.refl _ _)
            · have HO := Lib.hid ho
              by_cases hi : itoa (n) = s.data.toList
              · have HT := Lib.hid (show readB s.data.toList = true by rw [read_is hl1 hl2 HE.out, ho, decide_eq_true hi]; rfl)
                have hcm := cmp_eq hi
                clear ho hi
                go_wp2_with fail
                refine (spec_l00In (n) (-1000000000000000) 1000000000000000 _).mono ?_
                unfold RetQ
                rw [show (decide (-1000000000000000 ≤ n) && decide (n ≤ 1000000000000000)) = true from HO.out]
                rintro e w2 ⟨rfl, rfl⟩
                go_wp2_with fail
                refine (spec_l01Dec (n) (by omega) (by omega) _).mono ?_
                rintro e w3 ⟨rfl, hb3⟩
                have B3 := Lib.hid hb3
                clear hb3
                go_wp2
                go_ret2
                exact RetNum.yes HT.out HE.out B3.out
              · have HF := Lib.hid (show readB s.data.toList = false by rw [read_is hl1 hl2 HE.out, ho, decide_eq_false hi]; rfl)
                have hcm := cmp_ne hi
                clear ho hi
                go_wp2_with fail
                refine (spec_l00In (n) (-1000000000000000) 1000000000000000 _).mono ?_
                unfold RetQ
                rw [show (decide (-1000000000000000 ≤ n) && decide (n ≤ 1000000000000000)) = true from HO.out]
                rintro e w2 ⟨rfl, rfl⟩
                go_wp2_with fail
                refine (spec_l01Dec (n) (by omega) (by omega) _).mono ?_
                rintro e w3 ⟨rfl, hb3⟩
                have B3 := Lib.hid hb3
                clear hb3
                go_wp2
                go_ret2
                exact RetNum.no HF.out B3.out
    · have q1 : decide ((s.size : Int) < 1) = false := decide_eq_false (by omega)
      have q2 : decide ((17 : Int) < (s.size : Int)) = true := decide_eq_true (by omega)
      have HF := Lib.hid (read_long (l := s.data.toList) (by rw [size_len]; omega))
      go_enter Tryd.func46, Tryd.ntmps46
      go_wp2
      go_ret2
      exact RetNum.no HF.out (Below.refl _ _)
  · have q1 : decide ((s.size : Int) < 1) = true := decide_eq_true (by omega)
    have HF := Lib.hid (read_long (l := s.data.toList) (by rw [size_len]; omega))
    go_enter Tryd.func46, Tryd.ntmps46
    go_wp2
    go_ret2
    exact RetNum.no HF.out (Below.refl _ _)
theorem spec_ReadDecimal (s : ByteArray) (hs : s.size ≤ 1048576) (w : World) : Calls Tryd.prog 20 #[.string s] w (RetNum s.data.toList w) := by
  go_enter Tryd.func20, Tryd.ntmps20
  go_wp2_with fail
  refine (spec_l01Value s hs _).mono ?_
  rintro e w2 ⟨rfl, hb⟩
  have HB := Lib.hid hb
  clear hb
  go_wp2
  go_ret2
  exact ⟨rfl, HB.out⟩

end Go.Proofs.YtjkkfimkojmifaaDoor.Dj