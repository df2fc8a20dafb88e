/- Hexadecimal digits; the walks: strconv.FormatInt in base 16. -/
import Derived.Lib.ItoaWalk
import Derived.Lib.LaidTab
import Derived.BigCall
import Derived.Laws.Bits64b
import Derived.Laws.NewBlocks
import Derived.Laws.IdiomStrings
import Derived.Test.YtkfhgjknmdlhbaaGreatDoorDa
namespace Go.Proofs.YtkfhgjknmdlhbaaGreatDoor.Ea
open Go Go.RowKit Go.Lib Da
set_option linter.unusedVariables false
/-- The digit of a number below 16. -/
def hd (d : Nat) : UInt8 := UInt8.ofNat (if d < 10 then 48 + d else 87 + d)
def hexMin (n : Nat) : List UInt8 := if h : n < 16 then [hd n] else hexMin (n / 16) ++ [hd (n % 16)]
termination_by n
decreasing_by omega
theorem hexMin_one {n : Nat} (h : n < 16) : hexMin n = [hd n] := by rw [hexMin, dif_pos h]
theorem hexMin_more {n : Nat} (h : ¬ n < 16) : hexMin n = hexMin (n / 16) ++ [hd (n % 16)] := by rw [hexMin, dif_neg h]
/-- The last k digits. -/
def hexPad : Nat → Nat → List UInt8
  | 0, _ => []
  | k + 1, n => hexPad k (n / 16) ++ [hd (n % 16)]
theorem hexPad_len : ∀ k n, (hexPad k n).length = k
  | 0, _ => rfl
  | k + 1, n => by rw [hexPad, List.length_append, hexPad_len k, List.length_cons, List.length_nil]
theorem hexPad_zero : ∀ k, hexPad k 0 = List.replicate k 48
  | 0 => rfl
  | k + 1 => by
    rw [hexPad, Nat.zero_div, hexPad_zero k, List.replicate_succ', show hd (0 % 16) = 48 from rfl]
theorem hex_pad : ∀ (k n : Nat), n < 16 ^ (k + 1) → (hexMin n).length ≤ k + 1 ∧ List.replicate (k + 1 - (hexMin n).length) 48 ++ hexMin n = hexPad (k + 1) n := by
  intro k
  induction k with
  | zero =>
    intro n hn
    rw [hexMin_one (by simpa using hn)]
    refine ⟨by simp, ?_⟩
    have h16 : n < 16 := by simpa using hn
    show [] ++ [hd n] = [] ++ [hd (n % 16)]
    rw [Nat.mod_eq_of_lt h16]
  | succ k ih =>
    intro n hn
    by_cases h : n < 16
    · rw [hexMin_one h]
      refine ⟨by simp, ?_⟩
      rw [hexPad, Nat.div_eq_of_lt h, hexPad_zero, Nat.mod_eq_of_lt h]
      rfl
    · rw [hexMin_more h]
      have hd' : n / 16 < 16 ^ (k + 1) := by
        rw [Nat.div_lt_iff_lt_mul (by omega)]
        rw [Nat.pow_succ] at hn; exact hn
      obtain ⟨i1, i2⟩ := ih (n / 16) hd'
      rw [List.length_append, List.length_cons, List.length_nil]
      refine ⟨by omega, ?_⟩
      rw [hexPad, ← i2, show k + 1 + 1 - ((hexMin (n / 16)).length + (0 + 1)) = k + 1 - (hexMin (n / 16)).length by omega, List.append_assoc]
/-- The table that math/bits reads. -/
def Bru (w : World) : Prop := w.cell? ⟨6, 15, none⟩ = some (.int .u8 4)
theorem Bru.below {w w' : World} (h : Bru w) (hb : Below w.heap.size w w') : Bru w' := (hb.cell (World.block_lt_of_cell? w _ h)).trans h
theorem trailing64 (w : World) (hb : Bru w) : Calls Tryz.prog 127 #[.int .u64 16] w fun e w' => e = .returned (.int .i64 4) ∧ w' = w := by
  have HB := hb
  unfold Bru at HB
  have hix : IntKind.u64.wrap (bits .and .u64 16 (IntKind.u64.wrap (-16)) * 285870213051353865) / 288230376151711744 = 15 := by decide +kernel
  go_enter Tryz.func127, Tryz.ntmps127
  go_wp2
  go_ret
  exact ⟨rfl, rfl⟩
theorem trailing (w : World) (hb : Bru w) : Calls Tryz.prog 116 #[.int .u64 16] w fun e w' => e = .returned (.int .i64 4) ∧ w' = w := by
  have HB := Lib.hid hb
  clear hb
  go_enter Tryz.func116, Tryz.ntmps116
  go_wp2_with fail
  refine (trailing64 _ HB.out).mono ?_
  rintro e w' ⟨rfl, rfl⟩
  go_wp2
  go_ret
  exact ⟨rfl, rfl⟩
theorem pow2 (w : World) : Calls Tryz.prog 115 #[.int .i64 16] w fun e w' => e = .returned (.bool true) ∧ w' = w := by
  go_enter Tryz.func115, Tryz.ntmps115
  go_wp2
  go_ret
  exact ⟨rfl, rfl⟩
/-- The array of 65 bytes, L at its end. -/
def arrOf (L : List UInt8) : Array Value := (List.replicate (65 - L.length) (Value.int .u8 0) ++ L.map fun b => Value.int .u8 (b.toNat : Int)).toArray
theorem arr_zero : Tryz.zeroCells138 = arrOf [] := by kernel_rfl
theorem arr_step {L : List UInt8} (c : UInt8) (h : L.length < 65) : (arrOf L).setIfInBounds (65 - L.length - 1) (.int .u8 (c.toNat : Int)) = arrOf (c :: L) := by
  rw [show 65 - L.length - 1 = 64 - L.length by omega]
  unfold arrOf
  rw [List.setIfInBounds_toArray, show 65 - L.length = (64 - L.length) + 1 by omega, List.replicate_succ', List.append_assoc, List.set_append_right _ _ (by simp), List.length_replicate, Nat.sub_self, List.length_cons, show 65 - (L.length + 1) = 64 - L.length by omega]
  rfl
theorem arr_at {L : List UInt8} (h : L.length < 65) : (arrOf L)[65 - L.length - 1]? = some (.int .u8 0) := by
  rw [show 65 - L.length - 1 = 64 - L.length by omega]
  unfold arrOf
  rw [List.getElem?_toArray, List.getElem?_append_left (by simp; omega), List.getElem?_replicate, if_pos (by omega)]
theorem and15 (v : Nat) (h : v < 18446744073709551616) : bits .and .u64 (v : Int) 15 = ((v % 16 : Nat) : Int) := by
  have := bits_and_u64_nat v 15 h (by omega)
  rw [show ((15 : Nat) : Int) = 15 from rfl] at this
  rw [this, show (15 : Nat) = 2 ^ 4 - 1 from rfl, Nat.and_two_pow_sub_one_eq_mod]
theorem dig_at (i : Nat) (h : i < 16) : digits36.data.toList.getD i 0 = hd i := by
  have key : ∀ i : Fin 16, digits36.data.toList.getD i.val 0 = hd i.val := by decide +kernel
  exact key ⟨i, h⟩
theorem dig_get {i : Nat} (h : i < 16) (h' : i < digits36.size) : digits36[i] = hd i := by rw [getD_at digits36 i h', dig_at i h]
theorem arr_cells {L : List UInt8} (h : L.length ≤ 65) {j : Nat} (hj : j < L.length) : (arrOf L)[65 - L.length + j]? = some (.int .u8 (L[j].toNat : Int)) := by
  unfold arrOf
  rw [List.getElem?_toArray, List.getElem?_append_right (by simp), List.length_replicate, Nat.add_sub_cancel_left, List.getElem?_map, List.getElem?_eq_getElem hj]
  rfl
theorem arr_size {L : List UInt8} (h : L.length ≤ 65) : (arrOf L).size = 65 := by
  unfold arrOf
  simp
  omega
theorem conv_end {L : List UInt8} (w : World) (c : UInt8) (h : L.length < 65) (cap : Nat) : (convert 22 9 (.slice (some ⟨w.heap.size, 65 - L.length - 1, none⟩) (L.length + 1) cap)).run Tryz.prog (w.alloc (.cells (arrOf (c :: L)) 138)) = .ok (.string ⟨(c :: L).toArray⟩) (w.alloc (.cells (arrOf (c :: L)) 138)) := by
  refine run_convert_bytes_back (P := Tryz.prog) _ 22 9 5 ⟨w.heap.size, 65 - L.length - 1, none⟩ cap (c :: L) Tryz.underlying22 Tryz.underlying5 Tryz.underlying9 ?_
  intro j hj
  have hc := arr_cells (L := c :: L) (by rw [List.length_cons]; omega) hj
  rw [Go.WideShapes.add_plain, World.cell?_alloc_new, show 65 - L.length - 1 + j = 65 - (c :: L).length + j by rw [List.length_cons]; omega]
  exact hc
/-- The loop: v is left, L is laid. -/
def HexR (u v : Nat) (L : List UInt8) : Prop := hexMin u = hexMin v ++ L ∧ v * 16 ^ L.length ≤ u
theorem HexR.step {u v : Nat} {L : List UInt8} (h : HexR u v L) (hv : ¬ v < 16) : HexR u (v / 16) (hd (v % 16) :: L) := by
  obtain ⟨h1, h2⟩ := h
  refine ⟨by rw [h1, hexMin_more hv, List.append_assoc]; rfl, ?_⟩
  rw [List.length_cons, Nat.pow_succ, ← Nat.mul_assoc, Nat.mul_right_comm]
  exact Nat.le_trans (Nat.mul_le_mul_right _ (Nat.div_mul_le_self v 16)) h2
theorem HexR.len {u v : Nat} {L : List UInt8} (h : HexR u v L) (hu : u < 4294967296) (hv : 1 ≤ v ∨ L = []) : L.length < 8 := by
  rcases hv with hv | rfl
  · by_cases hl : L.length < 8
    · exact hl
    · exfalso
      have h3 : 16 ^ 8 ≤ 16 ^ L.length := Nat.pow_le_pow_right (by omega) (by omega)
      have h4 : 1 * 16 ^ L.length ≤ v * 16 ^ L.length := Nat.mul_le_mul_right _ hv
      have h5 := h.2
      have e : (16 : Nat) ^ 8 = 4294967296 := by decide
      omega
  · simp
set_option maxHeartbeats 4000000 in
set_option maxRecDepth 100000 in
theorem formatBits16 (u : Nat) (hu : u < 4294967296) (w : World) (hb : Bru w) : Calls Tryz.prog 97 #[.slice none 0 0, .int .u64 u, .int .i64 16, .bool false, .bool false] w fun e w' => e = .returned (.tuple #[.slice none 0 0, .string ⟨(hexMin u).toArray⟩]) ∧ Below w.heap.size w w' := by
  have HB := Lib.hid hb
  have HU := Lib.hid hu
  clear hb hu
  go_enter Tryz.func97, Tryz.ntmps97
  go_name_bytes_deep 38 PM hPM
  clear hPM
  go_name_bytes_deep 30 DG hDG
  have eDG : DG = digits36 := by rw [← hDG]; decide +kernel
  subst eDG
  clear hDG
  go_wp2_with fail
  refine (pow2 _).mono ?_
  rintro e w' ⟨rfl, rfl⟩
  go_wp2_with fail
  refine (trailing _ (HB.out.below ((Below.refl _ w).alloc (Nat.le_refl _) _))).mono ?_
  rintro e w' ⟨rfl, rfl⟩
  rw [arr_zero]
  go_wp2_with fail
  go_loopw [1, 13] (fun a i wr => ∃ (v : Nat) (L : List UInt8), a = .int .u64 v ∧ i = .int .i64 (65 - (L.length : Int)) ∧ Hid (HexR u v L ∧ (1 ≤ v ∨ L = []) ∧ v < 4294967296) ∧ wr = w.alloc (.cells (arrOf L) 138)) (fun a _ _ => (RowKit.intOf a).toNat)
  case atStart => exact ⟨u, [], rfl, rfl, Lib.hid ⟨⟨by simp, by simp⟩, .inr rfl, HU.out⟩, rfl⟩
  case round =>
    obtain ⟨v, L, rfl, rfl, HH, rfl⟩ := hrel
    have hL := HH.out.1.len HU.out HH.out.2.1
    have hv := HH.out.2.2
    have hs := arr_at (L := L) (by omega)
    by_cases hlt : v < 16
    · have hg := dig_get hlt (by rw [digits36_size]; omega)
      have hst := arr_step (L := L) (hd v) (by omega)
      have HE := Lib.hid (show hexMin u = hd v :: L by rw [HH.out.1.1, hexMin_one hlt]; rfl)
      have hb2 : v < digits36.size := by rw [digits36_size]; omega
      rw [← hg] at hst
      have hcv := fun cap => conv_end w (digits36[v]) (L := L) (by omega) cap
      rw [← hg] at HE
      clear hg
      have hal : Tryz.prog.arrayLen 138 = 65 := by kernel_rfl
      have hsl : ∀ W, (Instr.sliceAt 138 (.pointer (some ⟨w.heap.size, 0, none⟩)) (some (.int .i64 (65 - (L.length : Int) - 1))) none none).run Tryz.prog W = .ok (.slice (some ⟨w.heap.size, 65 - L.length - 1, none⟩) (L.length + 1) (L.length + 1)) W := fun W => by
        rw [run_sliceAt_array_l W 138 ⟨w.heap.size, 0, none⟩ (by simp [Program.arrayLen, Program.elem, Tryz.underlying138]) .i64 (65 - (L.length : Int) - 1) (by omega) (by rw [hal]; omega)]
        trace_state
        go_simp
        trace_state
        omega
      go_wp2
      go_ret2
      refine ⟨?_, (Below.refl _ w).alloc (Nat.le_refl _) _⟩
      rw [HE.out]
      rfl
    · have h15 := and15 v (by omega)
      have hm : v % 16 < 16 := Nat.mod_lt _ (by omega)
      have hg := dig_get hm (by rw [digits36_size]; omega)
      have hst := arr_step (L := L) (hd (v % 16)) (by omega)
      have hb2 : 0 ≤ (v : Int) % 16 ∧ (v : Int) % 16 < (digits36.size : Int) := by rw [digits36_size]; omega
      have HN := Lib.hid (show HexR u (v / 16) (hd (v % 16) :: L) ∧ (1 ≤ v / 16 ∨ hd (v % 16) :: L = []) ∧ v / 16 < 4294967296 from ⟨HH.out.1.step hlt, .inl (by omega), by omega⟩)
      rw [← hg] at hst HN
      clear hg
      go_wp2
      go_roundw
      case rel => exact ⟨v / 16, _, by go_num, by go_num, HN, rfl⟩
      case measure => simp [RowKit.intOf]; omega

end Go.Proofs.YtkfhgjknmdlhbaaGreatDoor.Ea