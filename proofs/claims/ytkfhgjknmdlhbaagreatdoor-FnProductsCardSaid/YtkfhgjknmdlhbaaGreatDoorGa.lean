/- The walks: choices drawn from bytes. -/
import Derived.Test.YtkfhgjknmdlhbaaGreatDoorXc
namespace Go.Proofs.YtkfhgjknmdlhbaaGreatDoor.Ga
open Go Go.RowKit Go.WideShapes Go.ChangeShapes Go.Deep Fl Md WA WH Xc
set_option linter.unusedVariables false
/-- The source in block b: its bytes, how far it is, its seed. -/
def Src (w : World) (b : Nat) (A : Option Addr) (c : Nat) (bs : List Nat) (k : Nat) : Prop :=
  RdB w b A bs ∧ bs.length ≤ 1048576 ∧ b < w.heap.size ∧ w.cell? ⟨b, 0, none⟩ = some (.slice A bs.length c) ∧ w.frozen? ⟨b, 1, none⟩ = false ∧ w.frozen? ⟨b, 2, none⟩ = false ∧
    ∃ (p : Nat) (sd : Int), p ≤ k ∧ 0 ≤ sd ∧ sd < 18446744073709551616 ∧ w.cell? ⟨b, 1, none⟩ = some (.int .i64 (p : Int)) ∧ w.cell? ⟨b, 2, none⟩ = some (.int .u64 sd)
section
variable {w w' : World} {b c k : Nat} {A : Option Addr} {bs : List Nat}
theorem Src.drewN (h : Src w b A c bs k) (n : Nat) : Src (w.drewN n) b A c bs k := h
theorem Src.lt (h : Src w b A c bs k) : b < w.heap.size := h.2.2.1
theorem Src.more (h : Src w b A c bs k) {k' : Nat} (hk : k ≤ k') : Src w b A c bs k' := by
  obtain ⟨h1, h2, h3, h4, h5, h6, p, sd, h7, h8⟩ := h
  exact ⟨h1, h2, h3, h4, h5, h6, p, sd, by omega, h8⟩
theorem Src.below (h : Src w b A c bs k) {B : Nat} (hb : Below B w w') (hB : b < B) : Src w' b A c bs k := by
  obtain ⟨h1, h2, h3, h4, h5, h6, p, sd, h7, h8, h9, h10, h11⟩ := h
  exact ⟨h1.below (Below.mono hb (by omega)), h2, Nat.lt_of_lt_of_le h3 hb.size, (hb.cell hB).trans h4, (hb.frozen hB).trans h5, (hb.frozen hB).trans h6, p, sd, h7, h8, h9, (hb.cell hB).trans h10, (hb.cell hB).trans h11⟩
theorem src_set {p p' : Nat} {sd sd' : Int} (h1 : RdB w b A bs) (h2 : bs.length ≤ 1048576) (h3 : b < w.heap.size) (h4 : w.cell? ⟨b, 0, none⟩ = some (.slice A bs.length c)) (h5 : w.frozen? ⟨b, 1, none⟩ = false) (h6 : w.frozen? ⟨b, 2, none⟩ = false)
    (h7 : w.cell? ⟨b, 1, none⟩ = some (.int .i64 (p : Int))) (h8 : w.cell? ⟨b, 2, none⟩ = some (.int .u64 sd)) {q : Int} (hq : q = (p' : Int)) (hp : p' ≤ k) (hs0 : 0 ≤ sd') (hs1 : sd' < 18446744073709551616) :
    Src ((w.setCell ⟨b, 1, none⟩ (.int .i64 q)).setCell ⟨b, 2, none⟩ (.int .u64 sd')) b A c bs k ∧ w.grownBy ((w.setCell ⟨b, 1, none⟩ (.int .i64 q)).setCell ⟨b, 2, none⟩ (.int .u64 sd')) (some b) := by
  subst hq
  have hB : Below b w ((w.setCell ⟨b, 1, none⟩ (.int .i64 (p' : Int))).setCell ⟨b, 2, none⟩ (.int .u64 sd')) := ((Below.refl b w).setCell (Nat.le_refl _) _).setCell (Nat.le_refl _) _
  have n1 : (⟨b, 2, none⟩ : Addr) ≠ ⟨b, 0, none⟩ := by simp
  have n2 : (⟨b, 1, none⟩ : Addr) ≠ ⟨b, 0, none⟩ := by simp
  have n3 : (⟨b, 2, none⟩ : Addr) ≠ ⟨b, 1, none⟩ := by simp
  have n4 : (⟨b, 1, none⟩ : Addr) ≠ ⟨b, 2, none⟩ := by simp
  refine ⟨⟨h1.below hB, h2, Nat.lt_of_lt_of_le h3 hB.size, ?_, by simpa using h5, by simpa using h6, p', sd', hp, hs0, hs1, ?_, ?_⟩, ?_⟩
  · rw [World.cell?_setCell_other (h := n1), World.cell?_setCell_other (h := n2)]; exact h4
  · rw [World.cell?_setCell_other (h := n3)]; exact World.cell?_setCell_same _ _ _ h7
  · exact World.cell?_setCell_same _ _ _ (by rw [World.cell?_setCell_other (h := n4)]; exact h8)
  · refine ⟨rfl, rfl, rfl, hB.size, fun i hi hne => ?_⟩
    have : i ≠ b := fun e => hne (by rw [e])
    rw [Below.heap_setCell _ _ _ _ this, Below.heap_setCell _ _ _ _ this]
end
theorem grown_drewN {w w' : World} {r : Option Nat} {n : Nat} (h : w.grownBy w' r) : w.grownBy (w'.drewN n) r := ⟨h.os, h.tape, h.output, h.size, h.block⟩
theorem grown_undrewN {w w' : World} {r : Option Nat} {n : Nat} (h : (w.drewN n).grownBy w' r) : w.grownBy w' r := ⟨h.os, h.tape, h.output, h.size, h.block⟩
/-- What a draw answers; what it leaves. -/
def Drew (P : Value → Prop) (n : Nat) (w : World) (b : Nat) (A : Option Addr) (c : Nat) (bs : List Nat) (k : Nat) (e : Ending) (w' : World) : Prop :=
  ∃ v, P v ∧ e = .returned v ∧ Src w' b A c bs (k + n) ∧ w.grownBy w' (some b)
def IntTo (n : Int) (v : Value) : Prop := ∃ i : Nat, (i : Int) < n ∧ v = .int .i64 (i : Int)
theorem wrap_range (v : Int) : 0 ≤ IntKind.u64.wrap v ∧ IntKind.u64.wrap v < 18446744073709551616 := by
  rw [IntKind.wrap_u64]
  omega
theorem and_255 (E : Int) (h0 : 0 ≤ E) (h1 : E < 18446744073709551616) : ∃ i : Nat, (i : Int) < 256 ∧ bits BinOp.and IntKind.u64 E 255 = (i : Int) := by
  have h := bits_and_u64_nat E.toNat 255 (by omega) (by omega)
  rw [Int.toNat_of_nonneg h0] at h
  exact ⟨E.toNat &&& 255, by have := Nat.and_le_right (n := E.toNat) (m := 255); omega, h⟩
theorem wrap64_small {n : Int} (h0 : 0 ≤ n) (h1 : n < 1000) : wrap64 n = n := by unfold wrap64; omega
set_option maxRecDepth 8000 in
set_option maxHeartbeats 2000000 in
theorem next_any (w : World) (b : Nat) (A : Option Addr) (c : Nat) (bs : List Nat) (k : Nat) (hs : Src w b A c bs k) (hk : k ≤ 1099511627776) :
    Calls Tryz.prog 68 #[.pointer (some ⟨b, 0, none⟩)] w (Drew (IntTo 256) 1 w b A c bs k) := by
  obtain ⟨h1, h2, h3, h4, h5, h6, p, sd, h7, h8, h9, h10, h11⟩ := hs
  have HS := Lib.hid (fun (p' : Nat) (q : Int) (sd' : Int) (hq : q = (p' : Int)) (hp : p' ≤ k + 1) (hs0 : 0 ≤ sd') (hs1 : sd' < 18446744073709551616) => src_set (k := k + 1) h1 h2 h3 h4 h5 h6 h10 h11 hq hp hs0 hs1)
  by_cases hlt : p < bs.length
  · obtain ⟨ad, x, rfl, hb, hc, hx⟩ := h1.at_ hlt
    have HR := Lib.hid h1
    clear h1 h3
    go_enter Tryz.func68, Tryz.ntmps68
    go_wp2
    go_region
    go_wp2
    go_region
    go_wp2
    go_region
    go_wp2
    go_ret
    obtain ⟨hS, hG⟩ := HS.out (p + 1) ((p : Int) + 1) (IntKind.u64.wrap (IntKind.u64.wrap (IntKind.u64.wrap (sd * 6364136223846793005) + (x : Int)) + 1442695040888963407)) (by omega) (by omega) (wrap_range _).1 (wrap_range _).2
    exact ⟨_, ⟨x, by omega, rfl⟩, rfl, hS, grown_drewN (n := 3) hG⟩
  · clear h1 h3
    go_enter Tryz.func68, Tryz.ntmps68
    go_wp2
    go_region
    go_wp2
    go_region
    go_wp2
    go_ret
    obtain ⟨hS, hG⟩ := HS.out (p + 1) ((p : Int) + 1) (IntKind.u64.wrap (IntKind.u64.wrap (IntKind.u64.wrap (sd * 6364136223846793005)) + 1442695040888963407)) (by omega) (by omega) (wrap_range _).1 (wrap_range _).2
    obtain ⟨i, hi, hb⟩ := and_255 (IntKind.u64.wrap (IntKind.u64.wrap (IntKind.u64.wrap (sd * 6364136223846793005)) + 1442695040888963407) / 1099511627776) (by have := wrap_range (IntKind.u64.wrap (IntKind.u64.wrap (sd * 6364136223846793005)) + 1442695040888963407); omega) (by have := wrap_range (IntKind.u64.wrap (IntKind.u64.wrap (sd * 6364136223846793005)) + 1442695040888963407); omega)
    exact ⟨_, ⟨i, hi, by rw [hb, wrap64_small (by omega) (by omega)]; rfl⟩, rfl, hS, grown_drewN (n := 2) hG⟩

theorem drew_two {P Q : Value → Prop} {n m : Nat} {w w1 w2 : World} {b c k : Nat} {A : Option Addr} {bs : List Nat} (h1 : w.grownBy w1 (some b)) (h2 : w1.grownBy w2 (some b)) : w.grownBy w2 (some b) := h1.trans h2
theorem pick_rem {x n : Int} (hx : 0 ≤ x) (hn : 1 < n) : ∃ i : Nat, (i : Int) < n ∧ x.tmod n = (i : Int) := Xc.tmod_nat hx (by omega)
set_option maxRecDepth 8000 in
set_option maxHeartbeats 2000000 in
theorem pick_any (n : Int) (hn0 : 1 ≤ n) (hn1 : n ≤ 65536) (w : World) (b : Nat) (A : Option Addr) (c : Nat) (bs : List Nat) (k : Nat) (hs : Src w b A c bs k) (hk : k ≤ 1000000000000) :
    Calls Tryz.prog 39 #[.pointer (some ⟨b, 0, none⟩), .int .i64 n] w (Drew (IntTo n) 2 w b A c bs k) := by
  have HS := Lib.hid hs
  clear hs
  by_cases h1 : n ≤ 1
  · have hd : decide (n ≤ 1) = true := decide_eq_true h1
    have HN := Lib.hid hn0
    go_enter Tryz.func39, Tryz.ntmps39
    go_wp2
    go_ret
    exact ⟨_, ⟨0, by have := HN.out; omega, rfl⟩, rfl, HS.out.more (by omega), World.grownBy.refl _ _⟩
  · have hd : decide (n ≤ 1) = false := decide_eq_false h1
    by_cases h2 : n ≤ 200
    · have hd2 : decide (200 < n) = false := decide_eq_false (by omega)
      go_enter Tryz.func39, Tryz.ntmps39
      go_wp2_with fail
      refine (next_any _ b A c bs k HS.out (by omega)).mono ?_
      rintro e w1 ⟨_, ⟨x, hx, rfl⟩, rfl, hs1, hg1⟩
      have S1 := Lib.hid hs1
      have G1 := Lib.hid hg1
      clear hs1 hg1
      obtain ⟨i, hi, ht⟩ := pick_rem (x := (x : Int)) (n := n) (by omega) (by omega)
      have HI := Lib.hid hi
      clear hi
      go_wp2
      go_ret
      exact ⟨_, ⟨i, HI.out, by first | rfl | (rw [ht]; rfl)⟩, rfl, S1.out.more (by omega), G1.out⟩
    · have hd2 : decide (200 < n) = true := decide_eq_true (by omega)
      go_enter Tryz.func39, Tryz.ntmps39
      go_wp2_with fail
      refine (next_any _ b A c bs k HS.out (by omega)).mono ?_
      rintro e w1 ⟨_, ⟨x, hx, rfl⟩, rfl, hs1, hg1⟩
      have S1 := Lib.hid hs1
      have G1 := Lib.hid hg1
      clear hs1 hg1
      go_wp2_with fail
      refine (next_any _ b A c bs (k + 1) S1.out (by omega)).mono ?_
      rintro e w2 ⟨_, ⟨y, hy, rfl⟩, rfl, hs2, hg2⟩
      have S2 := Lib.hid hs2
      have G2 := Lib.hid (G1.out.trans hg2)
      clear hs2 hg2
      obtain ⟨i, hi, ht⟩ := pick_rem (x := (x : Int) * 256 + (y : Int)) (n := n) (by omega) (by omega)
      have HI := Lib.hid hi
      clear hi
      go_wp2
      go_ret
      exact ⟨_, ⟨i, HI.out, by first | rfl | (rw [ht]; rfl)⟩, rfl, S2.out, G2.out⟩
def IsBool (v : Value) : Prop := ∃ t : Bool, v = .bool t
set_option maxHeartbeats 2000000 in
theorem one_any (n : Int) (hn0 : 1 ≤ n) (hn1 : n ≤ 65536) (w : World) (b : Nat) (A : Option Addr) (c : Nat) (bs : List Nat) (k : Nat) (hs : Src w b A c bs k) (hk : k ≤ 1000000000000) :
    Calls Tryz.prog 51 #[.pointer (some ⟨b, 0, none⟩), .int .i64 n] w (Drew IsBool 2 w b A c bs k) := by
  have HS := Lib.hid hs
  clear hs
  go_enter Tryz.func51, Tryz.ntmps51
  go_wp2_with fail
  refine (pick_any n hn0 hn1 _ b A c bs k HS.out (by omega)).mono ?_
  rintro e w1 ⟨_, ⟨x, hx, rfl⟩, rfl, hs1, hg1⟩
  have S1 := Lib.hid hs1
  have G1 := Lib.hid hg1
  clear hs1 hg1
  go_wp2
  go_ret
  exact ⟨_, ⟨_, rfl⟩, rfl, S1.out, G1.out⟩
/-- The slice at block g reads as the integers L. -/
def RdI (w : World) (g : Nat) (L : List Int) : Prop := ∀ (i : Nat) (h : i < L.length), w.cell? ⟨g, i, none⟩ = some (.int .i64 L[i])
set_option maxHeartbeats 2000000 in
theorem among_any (L : List Int) (hL : 1 ≤ L.length) (hL2 : L.length ≤ 100) (g : Nat) (w : World) (b : Nat) (A : Option Addr) (c : Nat) (bs : List Nat) (k : Nat) (hr : RdI w g L) (hgb : g ≠ b) (hs : Src w b A c bs k) (hk : k ≤ 1000000000000) :
    Calls Tryz.prog 78 #[.pointer (some ⟨b, 0, none⟩), .slice (some ⟨g, 0, none⟩) L.length L.length] w (Drew (fun v => ∃ x ∈ L, v = .int .i64 x) 2 w b A c bs k) := by
  have HS := Lib.hid hs
  have HR := Lib.hid hr
  have HB := Lib.hid hgb
  have hl1 : (1 : Int) ≤ (L.length : Int) := by omega
  have hl2 : (L.length : Int) ≤ 65536 := by omega
  have HL := Lib.hid hL
  clear hs hr hgb hL hL2
  go_enter Tryz.func78, Tryz.ntmps78
  go_wp2_with fail
  refine (pick_any (L.length : Int) hl1 hl2 _ b A c bs k HS.out (by omega)).mono ?_
  rintro e w1 ⟨_, ⟨i, hi, rfl⟩, rfl, hs1, hg1⟩
  have S1 := Lib.hid hs1
  have G1 := Lib.hid hg1
  clear hs1 hg1
  have hi2 : i < L.length := by omega
  obtain ⟨x, hx⟩ : ∃ x, x = L[i] := ⟨_, rfl⟩
  have hc : w1.cell? ⟨g, i, none⟩ = some (.int .i64 x) := by rw [hx]; exact G1.out.cell (HR.out i hi2) (by simpa using HB.out)
  have HX := Lib.hid hx
  clear hx
  go_wp2
  go_ret
  exact ⟨_, ⟨x, by rw [HX.out]; exact List.getElem_mem _, rfl⟩, rfl, S1.out, G1.out⟩
/-- A source, new. -/
def NewSrc (w : World) (A : Option Addr) (c : Nat) (bs : List Nat) (e : Ending) (w' : World) : Prop := ∃ b, e = .returned (.pointer (some ⟨b, 0, none⟩)) ∧ w.heap.size ≤ b ∧ Src w' b A c bs 0 ∧ Below w.heap.size w w'
theorem src_new {A : Option Addr} {c : Nat} {bs : List Nat} {w : World} {t : TypeId} (hx : RdB w w.heap.size A bs) (hl : bs.length ≤ 1048576) : Src (w.alloc (.cells #[.slice A bs.length c, .int .i64 0, .int .u64 0] t)) w.heap.size A c bs 0 := by
  refine ⟨hx.below ((Below.refl _ _).alloc (Nat.le_refl _) _), hl, by simp, ?_, ?_, ?_, 0, 0, Nat.le_refl _, by omega, by omega, ?_, ?_⟩
  · rw [World.cell?_alloc_new]; rfl
  · rw [World.frozen?_alloc_new]
  · rw [World.frozen?_alloc_new]
  · rw [World.cell?_alloc_new]; rfl
  · rw [World.cell?_alloc_new]; rfl
theorem from_any (A : Option Addr) (c : Nat) (bs : List Nat) (w : World) (hx : RdB w w.heap.size A bs) (hl : bs.length ≤ 1048576) :
    Calls Tryz.prog 38 #[.slice A bs.length c] w (NewSrc w A c bs) := by
  have HX := Lib.hid hx
  clear hx
  go_enter Tryz.func38, Tryz.ntmps38
  go_wp2
  go_ret
  exact ⟨w.heap.size, rfl, Nat.le_refl _, src_new HX.out hl, (Below.refl _ _).alloc (Nat.le_refl _) _⟩

end Go.Proofs.YtkfhgjknmdlhbaaGreatDoor.Ga