/- The walks: strconv.ParseUint in base 16. -/
import Derived.Lib.Hide
import Derived.Lib.ConvBytes
import Derived.Test.YtkfhgjknmdlhbaaGreatDoorSt
import Derived.Test.YtkfhgjknmdlhbaaGreatDoorDj
import Derived.Test.YtkfhgjknmdlhbaaGreatDoorWB
namespace Go.Proofs.YtkfhgjknmdlhbaaGreatDoor.Ee
open Go Go.RowKit Go.Lib Da Dd Dj
set_option linter.unusedVariables false
/-- The value of a hexadecimal digit; 16: it is none. -/
def hexD (c : UInt8) : Nat := if 48 ≤ c.toNat ∧ c.toNat ≤ 57 then c.toNat - 48 else if 97 ≤ c.toNat ∧ c.toNat ≤ 102 then c.toNat - 87 else if 65 ≤ c.toNat ∧ c.toNat ≤ 70 then c.toNat - 55 else 16
/-- The number that the digits spell, if they are digits. -/
def hexA (acc : Nat) : List UInt8 → Option Nat
  | [] => some acc
  | c :: r => if hexD c < 16 then hexA (acc * 16 + hexD c) r else none
theorem hexA_bd : ∀ (l : List UInt8) (acc n : Nat), hexA acc l = some n → n < (acc + 1) * 16 ^ l.length
  | [], acc, n, h => by cases h; simp
  | c :: r, acc, n, h => by
    unfold hexA at h
    split at h
    · have := hexA_bd r _ n h
      rw [List.length_cons, Nat.pow_succ, Nat.mul_comm (16 ^ r.length), ← Nat.mul_assoc]
      refine Nat.lt_of_lt_of_le this (Nat.mul_le_mul_right _ ?_)
      omega
    · cases h
def parsed (l : List UInt8) : Option Nat := hexA 0 l
/-- What ParseUint hands back. -/
def uintT (o : Option Nat) : Value := match o with
  | some n => .tuple #[.int .u64 n, .nilIface]
  | none => .tuple #[.int .u64 0, .iface 129 (.int .i64 2)]
theorem low_bits : ∀ c : Fin 256, bits .or .u8 (c.val : Int) 32 = if 65 ≤ c.val ∧ c.val ≤ 70 then (c.val : Int) + 32 else if 97 ≤ c.val ∧ c.val ≤ 102 then (c.val : Int) else bits .or .u8 (c.val : Int) 32 := by decide +kernel
theorem low_not : ∀ c : Fin 256, ¬ (65 ≤ c.val ∧ c.val ≤ 70) → ¬ (97 ≤ c.val ∧ c.val ≤ 102) → ¬ (97 ≤ bits .or .u8 (c.val : Int) 32 ∧ bits .or .u8 (c.val : Int) 32 ≤ 102) := by decide +kernel
theorem low_bd : ∀ c : Fin 256, 0 ≤ bits .or .u8 (c.val : Int) 32 ∧ bits .or .u8 (c.val : Int) 32 ≤ 255 := by decide +kernel
set_option maxHeartbeats 32000000 in
set_option maxRecDepth 100000 in
theorem ParseUint16 (t : ByteArray) (h8 : t.size = 8) (w : World) : Calls Tryz.prog 92 #[.string t, .int .i64 16, .int .i64 32] w fun e w' => e = .returned (uintT (parsed t.data.toList)) ∧ w' = Lib.bytesWorld w 5 t := by
  have hemp : t.toList.isEmpty = false := by
    rw [ByteArray.toList_eq]
    cases h : t.data.toList with
    | nil =>
      have e : t.data.toList.length = t.size := rfl
      rw [h, h8] at e
      cases e
    | cons _ _ => rfl
  have hcv := Lib.run_convert_string_bytes (P := Tryz.prog) w 9 22 5 t (u := .string) Tryz.underlying9 Tryz.underlying22 Tryz.underlying5
  have hB : ∀ j, j < t.size → (Lib.bytesWorld w 5 t).cell? ⟨w.heap.size, j, none⟩ = some (.int .u8 (t.data.toList.getD j 0).toNat) := fun j hj => Lib.bytesWorld_cell w 5 t j hj
  obtain ⟨W1, hW1⟩ : ∃ W1, W1 = Lib.bytesWorld w 5 t := ⟨_, rfl⟩
  rw [← hW1] at hcv hB ⊢
  clear hW1
  obtain ⟨bs, hL⟩ : ∃ bs, bs = t.data.toList := ⟨_, rfl⟩
  have hLn : bs.length = t.size := by rw [hL]; rfl
  rw [← hL] at hB ⊢
  clear hL
  have HB := Lib.hid hB
  have HLN := Lib.hid hLn
  clear hB hLn
  have hmv : IntKind.u64.wrap (IntKind.u64.wrap 4294967296 - 1) = 4294967295 := by
    rw [IntKind.wrap_u64, IntKind.wrap_u64]
    decide
  go_enter Tryz.func92, Tryz.ntmps92
  go_wp2_with fail
  go_loop [12, 13, 101] (fun vu vn vi => ∃ (k acc : Nat) (a : Int), vu = .bool false ∧ vn = .int .u64 a ∧ vi = .int .i64 k ∧ k ≤ t.size ∧ Hid (a = (acc : Int) ∧ acc < 16 ^ k ∧ hexA 0 bs = hexA acc (bs.drop k))) (fun _ _ vi => t.size - (RowKit.intOf vi).toNat)
  case atStart => exact ⟨0, 0, 0, rfl, rfl, rfl, by omega, Lib.hid ⟨rfl, by omega, rfl⟩⟩
  case round =>
    obtain ⟨k, acc, a, rfl, rfl, rfl, hk, hh⟩ := hrel
    have HH := Lib.hid hh.out
    clear hh
    by_cases hkn : k < t.size
    · have hacc : acc < 16 ^ 7 := Nat.lt_of_lt_of_le HH.out.2.1 (Nat.pow_le_pow_right (by omega) (by omega))
      have e7 : (16 : Nat) ^ 7 = 268435456 := by decide
      rw [e7] at hacc
      have ha0 : 0 ≤ a := by have := HH.out.1; omega
      have ha1 : a ≤ 268435455 := by have := HH.out.1; omega
      have hac : a = (acc : Int) := HH.out.1
      have hlen := HLN.out
      have hc := HB.out k hkn
      have HDR := Lib.hid (show bs.drop k = bs[k]'(by omega) :: bs.drop (k + 1) from List.drop_eq_getElem_cons (by omega))
      have hget : bs.getD k 0 = bs[k]'(by omega) := by simp [List.getD, List.getElem?_eq_getElem (show k < bs.length by omega)]
      rw [hget] at hc
      clear hget
      generalize bs[k]'(by omega) = c at hc HDR
      have hc256 : c.toNat < 256 := c.toNat_lt
      have hl1 := low_bits ⟨c.toNat, hc256⟩
      have hl2 := low_not ⟨c.toNat, hc256⟩
      have hl3 := low_bd ⟨c.toNat, hc256⟩
      simp only at hl1 hl2 hl3
      clear hlen
      by_cases hdig : 48 ≤ c.toNat ∧ c.toNat ≤ 57
      · obtain ⟨hd0, hd1⟩ := hdig
        have HD := Lib.hid (show hexD c = c.toNat - 48 by unfold hexD; rw [if_pos ⟨hd0, hd1⟩])
        have HF := Lib.hid (show hexA acc (c :: bs.drop (k + 1)) = hexA (acc * 16 + hexD c) (bs.drop (k + 1)) by
          rw [hexA, if_pos (by rw [HD.out]; omega)])
        have HN := Lib.hid (show a * 16 + ((c.toNat : Int) - 48) = ((acc * 16 + hexD c : Nat) : Int) ∧ acc * 16 + hexD c < 16 ^ (k + 1) ∧ hexA 0 bs = hexA (acc * 16 + hexD c) (bs.drop (k + 1)) from
          ⟨by rw [HD.out]; omega, by have e2 := HH.out.2.1; rw [HD.out, Nat.pow_succ]; omega, by rw [HH.out.2.2, HDR.out, HF.out]⟩)
        clear HF HD HDR hl1 hl2 hl3 hacc hac
        go_wp2
        go_round
        case rel => exact ⟨k + 1, _, _, rfl, rfl, by go_num, by omega, Lib.hid HN.out⟩
        case measure => simp [RowKit.intOf]; omega
      · by_cases hlo : 97 ≤ c.toNat ∧ c.toNat ≤ 102
        · obtain ⟨hd0, hd1⟩ := hlo
          have HD := Lib.hid (show hexD c = c.toNat - 87 by unfold hexD; rw [if_neg hdig, if_pos ⟨hd0, hd1⟩])
          have hlow : bits .or .u8 (c.toNat : Int) 32 = (c.toNat : Int) := by rw [hl1, if_neg (by omega), if_pos ⟨hd0, hd1⟩]
          have HF := Lib.hid (show hexA acc (c :: bs.drop (k + 1)) = hexA (acc * 16 + hexD c) (bs.drop (k + 1)) by
            rw [hexA, if_pos (by rw [HD.out]; omega)])
          have HN := Lib.hid (show a * 16 + ((c.toNat : Int) - 87) = ((acc * 16 + hexD c : Nat) : Int) ∧ acc * 16 + hexD c < 16 ^ (k + 1) ∧ hexA 0 bs = hexA (acc * 16 + hexD c) (bs.drop (k + 1)) from
            ⟨by rw [HD.out]; omega, by have e2 := HH.out.2.1; rw [HD.out, Nat.pow_succ]; omega, by rw [HH.out.2.2, HDR.out, HF.out]⟩)
          clear HF HD HDR hl1 hl2 hl3 hacc hac hdig
          go_wp2_with (go_at_call 106; refine (Tryz.internal_strconv_lower _ _).mono ?_; rintro e w' ⟨rfl, rfl⟩)
          go_round
          case rel => exact ⟨k + 1, _, _, rfl, rfl, by go_num, by omega, Lib.hid ⟨by rw [← HN.out.1]; omega, HN.out.2⟩⟩
          case measure => simp [RowKit.intOf]; omega
        · by_cases hup : 65 ≤ c.toNat ∧ c.toNat ≤ 70
          · obtain ⟨hd0, hd1⟩ := hup
            have HD := Lib.hid (show hexD c = c.toNat - 55 by unfold hexD; rw [if_neg hdig, if_neg hlo, if_pos ⟨hd0, hd1⟩])
            have hlow : bits .or .u8 (c.toNat : Int) 32 = (c.toNat : Int) + 32 := by rw [hl1, if_pos ⟨hd0, hd1⟩]
            have HF := Lib.hid (show hexA acc (c :: bs.drop (k + 1)) = hexA (acc * 16 + hexD c) (bs.drop (k + 1)) by
              rw [hexA, if_pos (by rw [HD.out]; omega)])
            have HN := Lib.hid (show a * 16 + ((c.toNat : Int) - 55) = ((acc * 16 + hexD c : Nat) : Int) ∧ acc * 16 + hexD c < 16 ^ (k + 1) ∧ hexA 0 bs = hexA (acc * 16 + hexD c) (bs.drop (k + 1)) from
              ⟨by rw [HD.out]; omega, by have e2 := HH.out.2.1; rw [HD.out, Nat.pow_succ]; omega, by rw [HH.out.2.2, HDR.out, HF.out]⟩)
            clear HF HD HDR hl1 hl2 hl3 hacc hac hdig hlo
            go_wp2_with (go_at_call 106; refine (Tryz.internal_strconv_lower _ _).mono ?_; rintro e w' ⟨rfl, rfl⟩)
            go_round
            case rel => exact ⟨k + 1, _, _, rfl, rfl, by go_num, by omega, Lib.hid ⟨by rw [← HN.out.1]; omega, HN.out.2⟩⟩
            case measure => simp [RowKit.intOf]; omega
          · have HP := Lib.hid (show parsed bs = none by
              unfold parsed
              rw [HH.out.2.2, HDR.out, hexA, if_neg]
              unfold hexD
              rw [if_neg hdig, if_neg hlo, if_neg hup]
              omega)
            have hn := hl2 hup hlo
            obtain ⟨hb0, hb1⟩ := hl3
            clear HDR hl1 hl2 hacc hac hlo hup
            go_wp2_with (go_at_call 106; refine (Tryz.internal_strconv_lower _ _).mono ?_; rintro e w' ⟨rfl, rfl⟩)
            all_goals go_ret2
            all_goals exact ⟨by rw [HP.out]; rfl, rfl⟩
    · have hke : k = t.size := by omega
      have HP := Lib.hid (show parsed bs = some acc by
        unfold parsed
        rw [HH.out.2.2, hke, List.drop_eq_nil_of_le (by rw [HLN.out]; exact Nat.le_refl _), hexA])
      have hac : a = (acc : Int) := HH.out.1
      subst hac
      clear hke
      go_wp2
      go_ret2
      exact ⟨by rw [HP.out]; rfl, rfl⟩
theorem parsed_lt {l : List UInt8} {n : Nat} (h : parsed l = some n) (hl : l.length = 8) : n < 4294967296 := by
  have := hexA_bd l 0 n h
  rw [hl] at this
  have e : (16 : Nat) ^ 8 = 4294967296 := by decide
  omega
/-- The number that a text of eight bytes spells; 0: it spells none. -/
def readX (l : List UInt8) : Nat := (parsed l).getD 0
theorem readX_lt {l : List UInt8} (hl : l.length = 8) : readX l < 4294967296 := by
  unfold readX
  cases h : parsed l with
  | none => simp
  | some n => exact parsed_lt h hl
/-- The variable ErrSyntax holds an error. -/
def ErrS (w : World) : Prop := ∃ tp p, w.cell? ⟨2, 0, none⟩ = some (.iface tp p)
theorem ErrS.below {w w' : World} (h : ErrS w) (hb : Below w.heap.size w w') : ErrS w' := by
  obtain ⟨tp, p, hm⟩ := h
  exact ⟨tp, p, (hb.cell (World.block_lt_of_cell? w _ hm)).trans hm⟩
set_option maxHeartbeats 4000000 in
set_option maxRecDepth 100000 in
theorem PubParseUint16 (t : ByteArray) (h8 : t.size = 8) (w : World) (he : ErrS w) : Calls Tryz.prog 76 #[.string t, .int .i64 16, .int .i64 32] w fun e w' => (∃ v, e = .returned (.tuple #[.int .u64 (readX t.data.toList), v])) ∧ Below w.heap.size w w' := by
  have HE := Lib.hid he
  clear he
  have HI := Lib.hid (ParseUint16 t h8 w)
  have hlen : t.data.toList.length = 8 := h8
  cases hp : parsed t.data.toList with
  | some n =>
    have HN := Lib.hid (show readX t.data.toList = n by unfold readX; rw [hp]; rfl)
    have HP := Lib.hid hp
    clear hp
    go_enter Tryz.func76, Tryz.ntmps76
    go_wp2_with fail
    refine HI.out.mono ?_
    rw [HP.out]
    rintro e W1 ⟨rfl, hW⟩
    have B1 := Lib.hid (show Below w.heap.size w W1 by rw [hW]; exact Go.Joins.below_bytesWorld w.heap.size w 5 t (Nat.le_refl _))
    clear hW
    unfold uintT
    go_wp2
    go_ret2
    exact ⟨⟨_, by rw [HN.out]; rfl⟩, B1.out⟩
  | none =>
    have HN := Lib.hid (show readX t.data.toList = 0 by unfold readX; rw [hp]; rfl)
    have HP := Lib.hid hp
    clear hp
    go_enter Tryz.func76, Tryz.ntmps76
    go_wp2_with fail
    refine HI.out.mono ?_
    rw [HP.out]
    rintro e W1 ⟨rfl, hW⟩
    have B1 := Lib.hid (show Below w.heap.size w W1 by rw [hW]; exact Go.Joins.below_bytesWorld w.heap.size w 5 t (Nat.le_refl _))
    obtain ⟨tp, p, hv⟩ := HE.out.below B1.out
    have HV := Lib.hid hv
    clear hW hv
    unfold uintT
    go_wp2_with fail
    refine (Tryz.strconv_toError_syntax ⟨#[80, 97, 114, 115, 101, 85, 105, 110, 116]⟩ t 16 32 _ _ (by omega) HV.out (.inr ⟨_, _, rfl⟩)).mono ?_
    rintro e W2 ⟨N, rfl, _, _, hb2⟩
    have B2 := Lib.hid (B1.out.trans (Below.mono hb2 B1.out.size))
    clear hb2
    go_wp2
    go_ret2
    exact ⟨⟨_, by rw [HN.out]; rfl⟩, B2.out⟩
theorem impl_readHex (t : ByteArray) (h8 : t.size = 8) (w : World) (he : ErrS w) : Calls Tryz.prog 50 #[.string t] w fun e w' => e = .returned (.float .f32 (readX t.data.toList)) ∧ Below w.heap.size w w' := by
  have HI := Lib.hid (PubParseUint16 t h8 w he)
  have HX := Lib.hid (readX_lt (l := t.data.toList) h8)
  clear he
  go_enter Tryz.func50, Tryz.ntmps50
  go_wp2_with fail
  refine HI.out.mono ?_
  rintro e W1 ⟨⟨v, rfl⟩, hb⟩
  have HB := Lib.hid hb
  clear hb
  obtain ⟨n, hq⟩ : ∃ n, n = readX t.data.toList := ⟨_, rfl⟩
  rw [← hq]
  have HQ := Lib.hid hq
  have hn : n < 4294967296 := by rw [hq]; exact HX.out
  clear hq
  go_wp2
  go_ret
  exact ⟨by rw [← HQ.out]; rfl, HB.out⟩

end Go.Proofs.YtkfhgjknmdlhbaaGreatDoor.Ee