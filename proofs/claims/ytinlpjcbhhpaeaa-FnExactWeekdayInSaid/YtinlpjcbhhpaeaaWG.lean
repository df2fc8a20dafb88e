/- The walks of the calendar: Easter; names and check numbers. -/
import Derived.Test.YtinlpjcbhhpaeaaWF
namespace Go.Proofs.Ytinlpjcbhhpaeaa.WG
open Go.RowKit Cal WC WD WE WF
def eh (y : Int) : Int := (19 * (y % 19) + y / 100 - y / 100 / 4 - (y / 100 - (y / 100 + 8) / 25 + 1) / 3 + 15) % 30
def el (y : Int) : Int := (32 + 2 * (y / 100 % 4) + 2 * (y % 100 / 4) - eh y - y % 4) % 7
def es (y : Int) : Int := eh y + el y - 7 * ((y % 19 + 11 * eh y + 22 * el y) / 451) + 114
theorem es_bd (y : Int) : 93 ≤ es y ∧ es y ≤ 154 := by
  have h1 : 0 ≤ eh y ∧ eh y ≤ 29 := by unfold eh; omega
  have h2 : 0 ≤ el y ∧ el y ≤ 6 := by unfold el; omega
  unfold es; omega

theorem impl_EasterOf_no (y : Int) (h : ¬ (1900 ≤ y ∧ y ≤ 2199)) (w : World) : Calls Try.prog 32 #[.int .i64 y] w fun e w' => e = .returned (.tuple #[.int .i64 0, .bool false]) ∧ w = w' := by
  have hi := inB_no h
  clear h
  go_enter Try.func32, Try.ntmps32
  go_wp2_with (go_at_call 35; refine (impl_isYear _ _).mono ?_; rintro e w ⟨rfl, rfl⟩)
  go_ret2
  exact ⟨rfl, rfl⟩
set_option maxHeartbeats 2000000 in
theorem impl_EasterOf_yes (y : Int) (h0 : 1900 ≤ y) (h1 : y ≤ 2199) (w : World) : Calls Try.prog 32 #[.int .i64 y] w fun e w' => e = .returned (.tuple #[.int .i64 (date y (es y / 31) (es y % 31 + 1)), .bool true]) ∧ Grown w w' := by
  have hi := inB_yes ⟨h0, h1⟩
  go_enter Try.func32, Try.ntmps32
  have hs := es_bd y
  obtain ⟨hs0, hs1⟩ := hs
  go_wp2_with (first | (go_at_call 35; refine (impl_isYear _ _).mono ?_; rintro e w ⟨rfl, rfl⟩) | (go_at_call 48; refine (impl_dayOf y (es y / 31) (es y % 31 + 1) h0 h1 (by omega) (by omega) (by omega) (by omega) _).mono ?_; rintro e w' ⟨rfl, rfl⟩))
  go_ret2
  exact ⟨rfl, Grown.refl _⟩

theorem spec_EasterOf_no (y : Int) (h : ¬ (1900 ≤ y ∧ y ≤ 2199)) (w : World) : Calls Try.prog 31 #[.int .i64 y] w fun e w' => e = .returned (.tuple #[.int .i64 0, .bool false]) ∧ w = w' := by
  have hi := inB_no h
  clear h
  go_enter Try.func31, Try.ntmps31
  go_wp2_with (go_at_call 33; refine (spec_l02Year _ _).mono ?_; rintro e w ⟨rfl, rfl⟩)
  go_ret2
  exact ⟨rfl, rfl⟩
set_option maxHeartbeats 2000000 in
theorem spec_EasterOf_yes (y : Int) (h0 : 1900 ≤ y) (h1 : y ≤ 2199) (w : World) : Calls Try.prog 31 #[.int .i64 y] w fun e w' => e = .returned (.tuple #[.int .i64 (date y (es y / 31) (es y % 31 + 1)), .bool true]) ∧ Grown w w' := by
  have hi := inB_yes ⟨h0, h1⟩
  go_enter Try.func31, Try.ntmps31
  have hs := es_bd y
  obtain ⟨hs0, hs1⟩ := hs
  go_wp2_with (first | (go_at_call 33; refine (spec_l02Year _ _).mono ?_; rintro e w ⟨rfl, rfl⟩) | (go_at_call 47; refine (spec_l02Date y (es y / 31) (es y % 31 + 1) h0 h1 (by omega) (by omega) (by omega) (by omega) _).mono ?_; rintro e w' ⟨rfl, hgd⟩))
  go_ret2
  exact ⟨rfl, by assumption⟩

def okB (c : UInt8) : Bool := decide (97 ≤ (c.toNat : Int)) && decide ((c.toNat : Int) ≤ 122)
def nameB (s : ByteArray) : Bool := s.data.toList.all okB && (decide (1 ≤ s.size) && decide (s.size ≤ 8))
theorem take_snoc (s : ByteArray) (k : Nat) (h : k < s.size) : s.data.toList.take (k + 1) = s.data.toList.take k ++ [s[k]] := by
  rw [List.take_succ_eq_append_getElem (by simpa using h)]; rfl
theorem mem_at (s : ByteArray) (k : Nat) (h : k < s.size) : s[k] ∈ s.data.toList := by
  have e : s[k] = s.data.toList[k]'(by simpa using h) := rfl
  rw [e]; exact List.getElem_mem _
theorem name_low {s : ByteArray} {k : Nat} {h : k < s.size} (hc : (s[k].toNat : Int) < 97) : false = nameB s := by
  symm
  unfold nameB
  rw [Bool.and_eq_false_iff]; left
  rw [List.all_eq_false]
  exact ⟨s[k], mem_at s k h, by simp [okB]; omega⟩
theorem name_high {s : ByteArray} {k : Nat} {h : k < s.size} (hc : 122 < (s[k].toNat : Int)) : false = nameB s := by
  symm
  unfold nameB
  rw [Bool.and_eq_false_iff]; left
  rw [List.all_eq_false]
  exact ⟨s[k], mem_at s k h, by simp [okB]; omega⟩
def okTo (s : ByteArray) (k : Nat) : Prop := (s.data.toList.take k).all okB = true
theorem okTo_zero (s : ByteArray) : okTo s 0 := by simp [okTo]
theorem okTo_succ {s : ByteArray} {k : Nat} {h : k < s.size} (ho : okTo s k) (h1 : ¬ (s[k].toNat : Int) < 97) (h2 : ¬ 122 < (s[k].toNat : Int)) : okTo s (k + 1) := by
  unfold okTo at *
  rw [take_snoc s k h, List.all_append, ho]
  simp [okB]; omega
theorem okTo_all {s : ByteArray} (ho : okTo s s.size) : nameB s = (decide (1 ≤ s.size) && decide (s.size ≤ 8)) := by
  unfold okTo at ho
  rw [List.take_of_length_le (by simp)] at ho
  unfold nameB; rw [ho, Bool.true_and]
def chk (n : Int) (l : List UInt8) : Int := l.foldl (fun n c => (941 * n + (c.toNat : Int) + 199) % 65003) n
theorem chk_bd (n : Int) (l : List UInt8) (h0 : 0 ≤ n) (h1 : n ≤ 65002) : 0 ≤ chk n l ∧ chk n l ≤ 65002 := by
  unfold chk
  induction l generalizing n with
  | nil => exact ⟨h0, h1⟩
  | cons c l ih => exact ih _ (by show 0 ≤ (941 * n + (c.toNat : Int) + 199) % 65003; omega) (by show (941 * n + (c.toNat : Int) + 199) % 65003 ≤ 65002; omega)
theorem chk_snoc (n : Int) (s : ByteArray) (k : Nat) (h : k < s.size) : chk n (s.data.toList.take (k + 1)) = (941 * chk n (s.data.toList.take k) + (s[k].toNat : Int) + 199) % 65003 := by
  rw [take_snoc s k h]; unfold chk; rw [List.foldl_append]; rfl
theorem chk_all (n : Int) (s : ByteArray) : chk n (s.data.toList.take s.size) = chk n s.data.toList := by rw [List.take_of_length_le (by simp)]

set_option maxHeartbeats 800000 in
theorem impl_IsName (s : ByteArray) (hs : s.size ≤ 9223372036854775807) (w : World) : Calls Try.prog 16 #[.string s] w fun e w' => e = .returned (.bool (nameB s)) ∧ w = w' := by
  go_enter Try.func16, Try.ntmps16
  go_wp2_with fail
  go_loop [6] (fun i => ∃ k : Nat, k ≤ s.size ∧ okTo s k ∧ i = .int .i64 k) (fun i => s.size - (intOf i).toNat)
  case atStart => exact ⟨0, Nat.zero_le _, okTo_zero s, rfl⟩
  case round =>
    obtain ⟨k, hk, hok, rfl⟩ := hrel
    by_cases hlt : k < s.size
    · go_wp2
      all_goals first
        | (go_ret; exact ⟨ret_bool (name_low (k := k) (h := hlt) (by omega)), rfl⟩)
        | (go_ret; exact ⟨ret_bool (name_high (k := k) (h := hlt) (by omega)), rfl⟩)
        | (go_round
           case rel => exact ⟨k + 1, by omega, okTo_succ (h := hlt) hok (by omega) (by omega), by go_num⟩
           case measure => simp [intOf]; omega)
    · have hd : decide ((k : Int) < (s.size : Int)) = false := by simp; omega
      have H := Lib.hid (okTo_all (by rw [show s.size = k by omega]; exact hok))
      by_cases h1 : 1 ≤ s.size
      · have h4 : decide ((1 : Int) ≤ (s.size : Int)) = true := by simp; omega
        by_cases h2 : s.size ≤ 8
        · have h3 : decide ((s.size : Int) ≤ 8) = true := by simp; omega
          go_wp2
          go_ret
          exact ⟨ret_bool (by rw [H.out]; simp [h1, h2]), rfl⟩
        · have h3 : decide ((s.size : Int) ≤ 8) = false := by simp; omega
          go_wp2
          go_ret
          exact ⟨ret_bool (by rw [H.out]; simp [h2]), rfl⟩
      · have h3 : decide ((1 : Int) ≤ (s.size : Int)) = false := by simp; omega
        go_wp2
        go_ret
        exact ⟨ret_bool (by rw [H.out]; simp [h1]), rfl⟩

set_option maxHeartbeats 800000 in
theorem spec_IsName (s : ByteArray) (hs : s.size ≤ 9223372036854775807) (w : World) : Calls Try.prog 15 #[.string s] w fun e w' => e = .returned (.bool (nameB s)) ∧ w = w' := by
  go_enter Try.func15, Try.ntmps15
  go_wp2_with fail
  go_loop [3] (fun i => ∃ k : Nat, k ≤ s.size ∧ okTo s k ∧ i = .int .i64 k) (fun i => s.size - (intOf i).toNat)
  case atStart => exact ⟨0, Nat.zero_le _, okTo_zero s, rfl⟩
  case round =>
    obtain ⟨k, hk, hok, rfl⟩ := hrel
    by_cases hlt : k < s.size
    · go_wp2
      all_goals first
        | (go_ret; exact ⟨ret_bool (name_low (k := k) (h := hlt) (by omega)), rfl⟩)
        | (go_ret; exact ⟨ret_bool (name_high (k := k) (h := hlt) (by omega)), rfl⟩)
        | (go_round
           case rel => exact ⟨k + 1, by omega, okTo_succ (h := hlt) hok (by omega) (by omega), by go_num⟩
           case measure => simp [intOf]; omega)
    · have hd : decide ((k : Int) < (s.size : Int)) = false := by simp; omega
      have H := Lib.hid (okTo_all (by rw [show s.size = k by omega]; exact hok))
      by_cases h1 : 1 ≤ s.size
      · have h4 : decide ((1 : Int) ≤ (s.size : Int)) = true := by simp; omega
        by_cases h2 : s.size ≤ 8
        · have h3 : decide ((s.size : Int) ≤ 8) = true := by simp; omega
          go_wp2
          go_ret
          exact ⟨ret_bool (by rw [H.out]; simp [h1, h2]), rfl⟩
        · have h3 : decide ((s.size : Int) ≤ 8) = false := by simp; omega
          go_wp2
          go_ret
          exact ⟨ret_bool (by rw [H.out]; simp [h2]), rfl⟩
      · have h3 : decide ((1 : Int) ≤ (s.size : Int)) = false := by simp; omega
        go_wp2
        go_ret
        exact ⟨ret_bool (by rw [H.out]; simp [h1]), rfl⟩

set_option maxHeartbeats 800000 in
theorem spec_l01Check (n : Int) (h0 : 0 ≤ n) (h1 : n ≤ 65002) (s : ByteArray) (hs : s.size ≤ 9223372036854775807) (w : World) : Calls Try.prog 38 #[.int .i64 n, .string s] w fun e w' => e = .returned (.int .i64 (chk n s.data.toList)) ∧ w = w' := by
  go_enter Try.func38, Try.ntmps38
  go_wp2_with fail
  go_loop [0, 5] (fun a i => ∃ k : Nat, k ≤ s.size ∧ a = .int .i64 (chk n (s.data.toList.take k)) ∧ i = .int .i64 k) (fun _ i => s.size - (intOf i).toNat)
  case atStart => exact ⟨0, Nat.zero_le _, rfl, rfl⟩
  case round =>
    obtain ⟨k, hk, rfl, rfl⟩ := hrel
    have hb := chk_bd n (s.data.toList.take k) h0 h1
    obtain ⟨hb0, hb1⟩ := hb
    by_cases hlt : k < s.size
    · have H := Lib.hid (chk_snoc n s k hlt)
      have hc : (s[k].toNat : Int) < 256 := by have := s[k].toNat_lt; omega
      go_wp2
      go_round
      case rel => exact ⟨k + 1, by omega, i64eq H.out.symm, by go_num⟩
      case measure => simp [intOf]; omega
    · have hd : decide ((k : Int) < (s.size : Int)) = false := by simp; omega
      have H := Lib.hid (show chk n (s.data.toList.take k) = chk n s.data.toList by rw [show k = s.size by omega]; exact chk_all n s)
      go_wp2
      go_ret
      exact ⟨ret_int H.out, rfl⟩
theorem spec_CheckOf_yes (n : Int) (h0 : 0 ≤ n) (h1 : n ≤ 65002) (s : ByteArray) (hs : s.size ≤ 9223372036854775807) (w : World) : Calls Try.prog 17 #[.int .i64 n, .string s] w fun e w' => e = .returned (.tuple #[.int .i64 (chk n s.data.toList), .bool true]) ∧ w = w' := by
  have hi := inB_yes ⟨h0, h1⟩
  go_enter Try.func17, Try.ntmps17
  go_wp2_with (first | (go_at_call 37; refine (spec_l00In _ _ _ _).mono ?_; rintro e w ⟨rfl, rfl⟩) | (go_at_call 38; refine (spec_l01Check _ h0 h1 _ hs _).mono ?_; rintro e w ⟨rfl, rfl⟩))
  go_ret2
  exact ⟨rfl, rfl⟩
set_option maxHeartbeats 800000 in
theorem impl_CheckOf_yes (n : Int) (h0 : 0 ≤ n) (h1 : n ≤ 65002) (s : ByteArray) (hs : s.size ≤ 9223372036854775807) (w : World) : Calls Try.prog 18 #[.int .i64 n, .string s] w fun e w' => e = .returned (.tuple #[.int .i64 (chk n s.data.toList), .bool true]) ∧ w = w' := by
  have hi := inB_yes ⟨h0, h1⟩
  go_enter Try.func18, Try.ntmps18
  go_wp2_with (go_at_call 39; refine (impl_within _ _ _ _).mono ?_; rintro e w ⟨rfl, rfl⟩)
  clear hi
  go_loop [0, 12] (fun a i => ∃ k : Nat, k ≤ s.size ∧ a = .int .i64 (chk n (s.data.toList.take k)) ∧ i = .int .i64 k) (fun _ i => s.size - (intOf i).toNat)
  case atStart => exact ⟨0, Nat.zero_le _, rfl, rfl⟩
  case round =>
    obtain ⟨k, hk, rfl, rfl⟩ := hrel
    have hb := chk_bd n (s.data.toList.take k) h0 h1
    obtain ⟨hb0, hb1⟩ := hb
    by_cases hlt : k < s.size
    · have H := Lib.hid (chk_snoc n s k hlt)
      have hc : (s[k].toNat : Int) < 256 := by have := s[k].toNat_lt; omega
      go_wp2
      go_round
      case rel => exact ⟨k + 1, by omega, i64eq H.out.symm, by go_num⟩
      case measure => simp [intOf]; omega
    · have hd : decide ((k : Int) < (s.size : Int)) = false := by simp; omega
      have H := Lib.hid (show chk n (s.data.toList.take k) = chk n s.data.toList by rw [show k = s.size by omega]; exact chk_all n s)
      go_wp2
      go_ret2
      exact ⟨tup H.out, rfl⟩

theorem impl_CheckOf_no (n : Int) (h : ¬ (0 ≤ n ∧ n ≤ 65002)) (s : ByteArray) (w : World) : Calls Try.prog 18 #[.int .i64 n, .string s] w fun e w' => e = .returned (.tuple #[.int .i64 0, .bool false]) ∧ w = w' := by
  have hi := inB_no h
  clear h
  go_enter Try.func18, Try.ntmps18
  go_wp2_with (go_at_call 39; refine (impl_within _ _ _ _).mono ?_; rintro e w ⟨rfl, rfl⟩)
  go_ret2
  exact ⟨rfl, rfl⟩

theorem spec_CheckOf_no (n : Int) (h : ¬ (0 ≤ n ∧ n ≤ 65002)) (s : ByteArray) (w : World) : Calls Try.prog 17 #[.int .i64 n, .string s] w fun e w' => e = .returned (.tuple #[.int .i64 0, .bool false]) ∧ w = w' := by
  have hi := inB_no h
  clear h
  go_enter Try.func17, Try.ntmps17
  go_wp2_with (go_at_call 37; refine (spec_l00In _ _ _ _).mono ?_; rintro e w ⟨rfl, rfl⟩)
  go_ret2
  exact ⟨rfl, rfl⟩

end Go.Proofs.Ytinlpjcbhhpaeaa.WG