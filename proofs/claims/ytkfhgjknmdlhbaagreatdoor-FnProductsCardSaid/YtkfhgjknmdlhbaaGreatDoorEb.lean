/- The walks: hexadecimal texts of numbers. -/
import Derived.Laws.BitsAllLaws
import Derived.Laws.Concat
import Derived.Laws.BytesArg
import Derived.Test.YtkfhgjknmdlhbaaGreatDoorSr
import Derived.Test.YtkfhgjknmdlhbaaGreatDoorEa
import Derived.Test.YtkfhgjknmdlhbaaGreatDoorMg
namespace Go.Proofs.YtkfhgjknmdlhbaaGreatDoor.Eb
open Go Go.RowKit Go.Lib Da Ea Fb WA
set_option linter.unusedVariables false
def bitsN (x : Nat) : Nat := (bitsB x).toNat
theorem bitsN_eq {x : Nat} (hx : x < 4294967296) : bitsB x = (bitsN x : Int) ∧ bitsN x < 4294967296 := by
  unfold bitsN bitsB
  split <;> omega
/-- The eight digits of a number. -/
def hexT (x : Nat) : List UInt8 := hexPad 8 (bitsN x)
theorem hexT_len (x : Nat) : (hexT x).length = 8 := hexPad_len 8 _
theorem FormatInt16 (n : Nat) (hn : n < 4294967296) (w : World) (hb : Bru w) : Calls Tryz.prog 84 #[.int .i64 n, .int .i64 16] w (RetS (hexMin n) w) := by
  have HB := Lib.hid hb
  clear hb
  go_enter Tryz.func84, Tryz.ntmps84
  go_wp2_with fail
  refine (formatBits16 n hn _ HB.out).mono ?_
  rintro e w' ⟨rfl, hb⟩
  have HC := Lib.hid hb
  clear hb
  go_wp2
  go_ret
  exact ⟨rfl, HC.out⟩
theorem PubFormatInt16 (n : Nat) (hn : n < 4294967296) (w : World) (hb : Bru w) : Calls Tryz.prog 72 #[.int .i64 n, .int .i64 16] w (RetS (hexMin n) w) := by
  have HB := Lib.hid hb
  clear hb
  go_enter Tryz.func72, Tryz.ntmps72
  go_wp2_with fail
  refine (FormatInt16 n hn _ HB.out).mono ?_
  rintro e w' ⟨rfl, hb⟩
  have HC := Lib.hid hb
  clear hb
  go_wp2
  go_ret
  exact ⟨rfl, HC.out⟩
theorem repeat_one (b : UInt8) : ∀ c, repeatL [b] c = List.replicate c b
  | 0 => rfl
  | c + 1 => by rw [repeatL, repeat_one b c]; rfl
theorem impl_hexOf (x : Nat) (hx : x < 4294967296) (w : World) (hb : Bru w) : Calls Tryz.prog 47 #[.float .f32 x] w (RetS (hexT x) w) := by
  have HB := Lib.hid hb
  clear hb
  obtain ⟨h1, h2⟩ := bitsN_eq hx
  have HN := Lib.hid h2
  obtain ⟨p1, p2⟩ := hex_pad 7 (bitsN x) (by simpa using h2)
  have HT := Lib.hid (show List.replicate (8 - (hexMin (bitsN x)).length) 48 ++ hexMin (bitsN x) = hexT x from p2)
  clear p2 h2
  have H1 := Lib.hid h1
  clear h1
  go_enter Tryz.func47, Tryz.ntmps47
  go_wp2_with fail
  refine (impl_BitsOf x hx _).mono ?_
  rw [H1.out]
  rintro e w' ⟨rfl, rfl⟩
  go_wp2_with fail
  refine (PubFormatInt16 (bitsN x) HN.out _ HB.out).mono ?_
  rintro e w1 ⟨rfl, hb1⟩
  have B1 := Lib.hid hb1
  clear hb1
  generalize hM : hexMin (bitsN x) = M at HT p1
  obtain ⟨R, hR⟩ : ∃ R, R = List.replicate (8 - M.length) (48 : UInt8) := ⟨_, rfl⟩
  have hRl : R.length ≤ 8 := by rw [hR, List.length_replicate]; omega
  rw [← hR] at HT
  have hadd : ∀ w, (Op.stringOp .add ⟨R.toArray⟩ ⟨M.toArray⟩).run Tryz.prog w = .ok (.string ⟨(hexT x).toArray⟩) w := fun w => by
    rw [run_string_add_lists w R M (by omega) (by omega), HT.out]
  go_wp2_with fail
  rw [show (8 : Int) - (M.length : Int) = ((8 - M.length : Nat) : Int) by omega]
  refine (Tryz.strings_Repeat ⟨#[48]⟩ (8 - M.length) _ (by omega) (by show 1 * _ ≤ _; omega)).mono ?_
  rintro e w2 ⟨rfl, hb2⟩
  rw [show (⟨#[48]⟩ : ByteArray).data.toList = [48] from rfl, repeat_one, ← hR]
  have B2 := Lib.hid (B1.out.trans (Below.mono hb2 B1.out.size))
  clear hb2 hR
  go_wp2
  go_ret
  exact ⟨rfl, B2.out⟩
theorem gathB_shape {w0 wr : World} {v : Value} {l : List UInt8} (h : GathB w0 wr v l) : (v = .slice none 0 0 ∧ l = []) ∨ ∃ g c, v = .slice (some ⟨g, 0, none⟩) l.length c := by
  rcases h.own.2 with ⟨rfl, hn⟩ | ⟨g, cap, cur, rfl, _⟩
  · exact .inl ⟨rfl, List.eq_nil_of_length_eq_zero hn⟩
  · exact .inr ⟨g, cap, rfl⟩
/-- 'append(out, c)', c A BYTE. -/
theorem wpList_pushB {ops : Array Oper} {rest : List Oper} {o : Oper} {a : Act} {Q : Exit → Act → World → Prop} (w0 wr : World) (l : List UInt8) (c : UInt8) (a_v : Value) (hg : Hid (GathB w0 wr a_v l)) (hlen : l.length ≤ 1099511627776)
    (hgd : o.guard = none) (s y : Operand) (ho : o.op = .call { callee := .builtin .append, args := #[s, y], argTypes := #[22, 22] })
    (hs : a.eval s = a_v) (hy : a.eval y = .slice (some ⟨wr.heap.size, 0, none⟩) 1 1)
    (h : ∀ v' w', Hid (GathB w0 w' v' (l ++ [c])) → wpList Tryz.prog ops Q rest (a.put o.dst v') w') : wpList Tryz.prog ops Q (o :: rest) a (wr.alloc (.cells #[.int .u8 (c.toNat : Int)] 5)) := by
  obtain ⟨i0, hi, hz0, hz1, hz2⟩ := info_parts u8_info
  have H := hg.out
  refine wpList_append_own _ hgd s y 22 ho w0.heap.size 5 i0 (.int .u8 0) 1 1 Tryz.underlying22 hi hz0 hz1 hz2 rfl (by decide) _ _ _ hs (H.own.alloc _) ⟨wr.heap.size, 0, none⟩ 1 1 (byteCells [c]) hy rfl ?c1 (byteCells_one1 [c]) ?c3 ?c4 ?c5 ?_
  case c1 =>
    intro j u hj
    match j, hj with
    | 0, hj => unfold byteCells at hj; simp at hj; subst hj; simp [Addr.add]
  case c3 => unfold maxLen; omega
  case c4 => omega
  case c5 => have := H.below.size; simp; omega
  · intro v' w' hown' hgrow _
    refine h v' w' ⟨?_, ?_⟩
    · have e1 : (l ++ [c]).length = l.length + 1 := by simp
      have e2 : byteCells (l ++ [c]) = byteCells l ++ byteCells [c] := by unfold byteCells; simp
      rw [e1, e2]; exact hown'
    · refine (H.below.alloc H.below.size _).grown hgrow (by simp; have := H.below.size; omega) ?_
      intro k hk
      exact (H.own.lt k hk).1
/-- The digits' constant. -/
def HX : ByteArray := ⟨#[48, 49, 50, 51, 52, 53, 54, 55, 56, 57, 97, 98, 99, 100, 101, 102]⟩
theorem hx_at {i : Nat} (h : i < 16) (h' : i < HX.size) : HX[i] = hd i := by
  have key : ∀ i : Fin 16, HX.data.toList.getD i.val 0 = hd i.val := by decide +kernel
  rw [getD_at HX i h', key ⟨i, h⟩]
theorem pad_at : ∀ (k n j : Nat) (h : j < k), (hexPad k n)[j]'(by rw [hexPad_len]; exact h) = hd (n / 16 ^ (k - 1 - j) % 16)
  | 0, _, _, h => absurd h (Nat.not_lt_zero _)
  | k + 1, n, j, h => by
    by_cases hj : j < k
    · have e : (hexPad (k + 1) n)[j]'(by rw [hexPad_len]; exact h) = (hexPad k (n / 16))[j]'(by rw [hexPad_len]; exact hj) := by
        simp only [hexPad]
        rw [List.getElem_append_left]
      rw [e, pad_at k (n / 16) j hj, Nat.div_div_eq_div_mul, Nat.mul_comm, ← Nat.pow_succ, show (k - 1 - j).succ = k + 1 - 1 - j by omega]
    · have hjk : j = k := by omega
      subst hjk
      have e : (hexPad (j + 1) n)[j]'(by rw [hexPad_len]; exact h) = hd (n % 16) := by
        simp only [hexPad]
        rw [List.getElem_append_right (by rw [hexPad_len]; exact Nat.le_refl _)]
        simp [hexPad_len]
      rw [e, show j + 1 - 1 - j = 0 by omega, Nat.pow_zero, Nat.div_one]
theorem pad_step {n j p : Nat} (h : j < 8) (hp : 16 ^ (8 - 1 - j) = p) : (hexPad 8 n).take j ++ [hd (n / p % 16)] = (hexPad 8 n).take (j + 1) := by
  rw [List.take_succ_eq_append_getElem (by rw [hexPad_len]; exact h), pad_at 8 n j h, hp]
theorem conv_any {w0 wr : World} {v : Value} {l : List UInt8} (h : Hid (GathB w0 wr v l)) : (convert 22 9 v).run Tryz.prog wr = .ok (.string ⟨l.toArray⟩) wr := by
  rcases gathB_shape h.out with ⟨rfl, rfl⟩ | ⟨g, c, rfl⟩
  · exact run_convert_bytes_nil wr 22 5 Tryz.underlying22 Tryz.underlying5 0 0 9 Tryz.underlying9
  · exact conv_back h
theorem take_len {n j : Nat} (h : j ≤ 8) : ((hexPad 8 n).take j).length ≤ 1099511627776 := by rw [List.length_take, hexPad_len]; omega
theorem and15i (a : Nat) (h : a < 4294967296) : bits .and .i64 (a : Int) 15 = ((a % 16 : Nat) : Int) := by
  have := i64_and_nat a 15 h (by omega)
  rw [show ((15 : Nat) : Int) = 15 from rfl] at this
  rw [this, show (15 : Nat) = 2 ^ 4 - 1 from rfl, Nat.and_two_pow_sub_one_eq_mod]
theorem and15p (n P : Nat) (h : n < 4294967296) : bits .and .i64 ((n : Int) / (P : Int)) 15 = (n : Int) / (P : Int) % 16 := by
  have h1 := and15i (n / P) (Nat.lt_of_le_of_lt (Nat.div_le_self _ _) h)
  push_cast at h1
  exact h1
theorem and15q (n : Nat) (h : n < 4294967296) : bits .and .i64 (n : Int) 15 = (n : Int) % 16 := by
  have h1 := and15i n h
  push_cast at h1
  exact h1
end Go.Proofs.YtkfhgjknmdlhbaaGreatDoor.Eb