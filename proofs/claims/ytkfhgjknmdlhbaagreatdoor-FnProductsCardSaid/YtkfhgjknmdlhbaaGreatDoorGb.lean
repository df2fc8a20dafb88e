/- The walks: numbers drawn from bytes. -/
import Derived.Test.YtkfhgjknmdlhbaaGreatDoorGa
import Derived.Test.YtkfhgjknmdlhbaaGreatDoorEh
namespace Go.Proofs.YtkfhgjknmdlhbaaGreatDoor.Gb
open Go Go.RowKit Go.WideShapes Go.ChangeShapes Go.Deep Fl WA WH Xc Ga
open Eg (Own own_shape)
set_option linter.unusedVariables false
set_option maxRecDepth 20000
def IsF (v : Value) : Prop := ∃ x : Nat, x < 4294967296 ∧ v = .float .f32 x
theorem isF_of {v : Option Nat} {r : Nat} (h : FV .f32 v r) : IsF (.float .f32 r) := ⟨r, h.2, rfl⟩
set_option maxHeartbeats 2000000 in
theorem plain_any (w : World) (b : Nat) (A : Option Addr) (c : Nat) (bs : List Nat) (k : Nat) (hs : Src w b A c bs k) (hk : k ≤ 900000000000) :
    Calls Tryz.prog 77 #[.pointer (some ⟨b, 0, none⟩)] w (Drew IsF 4 w b A c bs k) := by
  have HS := Lib.hid hs
  clear hs
  go_enter Tryz.func77, Tryz.ntmps77
  go_wp2_with fail
  refine (pick_any 129 (by omega) (by omega) _ b A c bs k HS.out (by omega)).mono ?_
  rintro e w1 ⟨_, ⟨x, hx, rfl⟩, rfl, hs1, hg1⟩
  have S1 := Lib.hid hs1
  have G1 := Lib.hid hg1
  clear hs1 hg1
  go_wp2_with fail
  refine (one_any 4 (by omega) (by omega) _ b A c bs (k + 2) S1.out (by omega)).mono ?_
  rintro e w2 ⟨_, ⟨t, rfl⟩, rfl, hs2, hg2⟩
  have S2 := Lib.hid hs2
  have G2 := Lib.hid (G1.out.trans hg2)
  clear hs2 hg2
  cases t
  · go_wp2_with (refine wpList_farith _ _ _ _ _ rfl rfl rfl _ _ _ rfl rfl ?_); intro r nr hr
    have HR := Lib.hid (isF_of hr)
    clear hr
    go_wp2
    go_ret
    exact ⟨_, HR.out, rfl, S2.out.drewN _, grown_drewN G2.out⟩
  · go_wp2_with (refine wpList_farith _ _ _ _ _ rfl rfl rfl _ _ _ rfl rfl ?_); intro r nr hr
    have HR := Lib.hid (isF_of hr)
    clear hr
    go_wp2
    go_ret
    exact ⟨_, HR.out, rfl, S2.out.drewN _, grown_drewN G2.out⟩
theorem from_word (n : Int) (h0 : 0 ≤ n) (h1 : n < 4294967296) (w : World) : Calls Tryz.prog 52 #[.int .i64 n] w fun e w' => (∃ x : Nat, x < 4294967296 ∧ e = .returned (.float .f32 x)) ∧ w' = w := by
  obtain ⟨m, rfl⟩ : ∃ m : Nat, n = (m : Int) := ⟨n.toNat, by omega⟩
  refine (Eh.spec_l01From m (by omega) w).mono ?_
  rintro e w' ⟨rfl, rfl⟩
  exact ⟨⟨m, by omega, rfl⟩, rfl⟩
def L10 : List Int := [0, 2147483648, 2139095040, 4286578688, 2143289344, 1, 2139095039, 8388608, 8388607, 2147483649]
def L4 : List Int := [8388608, 2130706432, 1610612736, 536870912]
theorem rd_new (w : World) (L : List Int) (t : TypeId) : RdI (w.alloc (.cells (L.map fun x => Value.int .i64 x).toArray t)) w.heap.size L := by
  intro i h
  rw [World.cell?_alloc_new]
  simp [h]
theorem l10_word : ∀ x ∈ L10, 0 ≤ x ∧ x < 4294967296 := by decide
theorem l4_word : ∀ x ∈ L4, 0 ≤ x ∧ x < 4294967296 := by decide
theorem src_alloc {w : World} {b c k : Nat} {A : Option Addr} {bs : List Nat} (h : Src w b A c bs k) (o : Obj) : Src (w.alloc o) b A c bs k := h.below ((Below.refl w.heap.size w).alloc (Nat.le_refl _) o) h.lt
theorem grown_alloc {w w' : World} {r : Option Nat} (h : w.grownBy w' r) (o : Obj) : w.grownBy (w'.alloc o) r :=
  ⟨h.os, h.tape, h.output, by have := h.size; simp; omega, fun k hk hne => (Below.heap_alloc _ _ _ (Nat.lt_of_lt_of_le hk h.size)).trans (h.block k hk hne)⟩
theorem grown_from_alloc {w w2 w' : World} {b : Nat} {o : Obj} (h : w.grownBy w2 (some b)) (h2 : (w2.alloc o).grownBy w' (some b)) : w.grownBy w' (some b) := (grown_alloc h o).trans h2
set_option maxHeartbeats 4000000 in
theorem float_any (w : World) (b : Nat) (A : Option Addr) (c : Nat) (bs : List Nat) (k : Nat) (hs : Src w b A c bs k) (hk : k ≤ 800000000000) :
    Calls Tryz.prog 53 #[.pointer (some ⟨b, 0, none⟩)] w (Drew IsF 16 w b A c bs k) := by
  have HS := Lib.hid hs
  clear hs
  go_enter Tryz.func53, Tryz.ntmps53
  go_wp2_with fail
  refine (one_any 12 (by omega) (by omega) _ b A c bs k HS.out (by omega)).mono ?_
  rintro e w1 ⟨_, ⟨t, rfl⟩, rfl, hs1, hg1⟩
  have S1 := Lib.hid hs1
  have G1 := Lib.hid hg1
  clear hs1 hg1
  cases t
  · go_wp2_with fail
    refine (plain_any _ b A c bs (k + 2) S1.out (by omega)).mono ?_
    rintro e w2 ⟨_, ⟨x, hx, rfl⟩, rfl, hs2, hg2⟩
    have S2 := Lib.hid hs2
    have G2 := Lib.hid (G1.out.trans hg2)
    clear hs2 hg2
    go_wp2
    go_ret
    exact ⟨_, ⟨x, hx, rfl⟩, rfl, S2.out.more (by omega), G2.out⟩
  · go_wp2_with fail
    refine (pick_any 4 (by omega) (by omega) _ b A c bs (k + 2) S1.out (by omega)).mono ?_
    rintro e w2 ⟨_, ⟨i, hi, rfl⟩, rfl, hs2, hg2⟩
    have S2 := Lib.hid hs2
    have G2 := Lib.hid (G1.out.trans hg2)
    clear hs2 hg2
    by_cases h0 : i = 0
    · subst h0
      go_wp2_with fail
      refine (among_any L10 (by decide) (by decide) w2.heap.size _ b A c bs (k + 4) (rd_new w2 L10 _) (Nat.ne_of_gt S2.out.lt) (src_alloc S2.out _) (by omega)).mono ?_
      rintro e w3 ⟨_, ⟨y, hy, rfl⟩, rfl, hs3, hg3⟩
      have S3 := Lib.hid hs3
      have G3 := Lib.hid (grown_from_alloc G2.out hg3)
      have HY := Lib.hid (l10_word y hy)
      clear hs3 hg3 hy
      go_wp2_with fail
      refine (from_word y HY.out.1 HY.out.2 _).mono ?_
      rintro e w' ⟨⟨z, hz, rfl⟩, rfl⟩
      go_wp2
      go_ret
      exact ⟨_, ⟨z, hz, rfl⟩, rfl, S3.out.more (by omega), G3.out⟩
    · have b0 : ((i : Int) == 0) = false := by simp; omega
      by_cases h1 : i = 1
      · subst h1
        clear h0 b0
        go_wp2_with fail
        refine (pick_any 65536 (by omega) (by omega) _ b A c bs (k + 4) S2.out (by omega)).mono ?_
        rintro e w3 ⟨_, ⟨x, hx, rfl⟩, rfl, hs3, hg3⟩
        have S3 := Lib.hid hs3
        have G3 := Lib.hid (G2.out.trans hg3)
        clear hs3 hg3
        go_wp2_with fail
        refine (pick_any 65536 (by omega) (by omega) _ b A c bs (k + 6) S3.out (by omega)).mono ?_
        rintro e w4 ⟨_, ⟨y, hy, rfl⟩, rfl, hs4, hg4⟩
        have S4 := Lib.hid hs4
        have G4 := Lib.hid (G3.out.trans hg4)
        clear hs4 hg4
        go_wp2_with fail
        refine (from_word _ (by omega) (by omega) _).mono ?_
        rintro e w' ⟨⟨z, hz, rfl⟩, rfl⟩
        go_wp2
        go_ret
        exact ⟨_, ⟨z, hz, rfl⟩, rfl, S4.out.more (by omega), G4.out⟩
      · have b1 : ((i : Int) == 1) = false := by simp; omega
        by_cases h2 : i = 2
        · subst h2
          clear h0 h1 b0 b1
          go_wp2_with fail
          refine (pick_any 65536 (by omega) (by omega) _ b A c bs (k + 4) S2.out (by omega)).mono ?_
          rintro e w3 ⟨_, ⟨x, hx, rfl⟩, rfl, hs3, hg3⟩
          have S3 := Lib.hid hs3
          have G3 := Lib.hid (G2.out.trans hg3)
          clear hs3 hg3
          go_wp2_with fail
          refine (from_word _ (by omega) (by omega) _).mono ?_
          rintro e w' ⟨⟨z, hz, rfl⟩, rfl⟩
          go_wp2
          go_ret
          exact ⟨_, ⟨z, hz, rfl⟩, rfl, S3.out.more (by omega), G3.out⟩
        · have b2 : ((i : Int) == 2) = false := by simp; omega
          go_wp2_with fail
          refine (plain_any _ b A c bs (k + 4) S2.out (by omega)).mono ?_
          rintro e w3 ⟨_, ⟨x, hx, rfl⟩, rfl, hs3, hg3⟩
          have S3 := Lib.hid hs3
          have G3 := Lib.hid (G2.out.trans hg3)
          clear hs3 hg3
          go_wp2_with fail
          refine (among_any L4 (by decide) (by decide) w3.heap.size _ b A c bs (k + 8) (rd_new w3 L4 _) (Nat.ne_of_gt S3.out.lt) (src_alloc S3.out _) (by omega)).mono ?_
          rintro e w4 ⟨_, ⟨y, hy, rfl⟩, rfl, hs4, hg4⟩
          have S4 := Lib.hid hs4
          have G4 := Lib.hid (grown_from_alloc G3.out hg4)
          have HY := Lib.hid (l4_word y hy)
          clear hs4 hg4 hy
          go_wp2_with fail
          refine (from_word y HY.out.1 HY.out.2 _).mono ?_
          rintro e w' ⟨⟨z, hz, rfl⟩, rfl⟩
          go_wp2_with (refine wpList_farith _ _ _ _ _ rfl rfl rfl _ _ _ rfl rfl ?_); intro r nr hr
          have HR := Lib.hid (isF_of hr)
          clear hr
          go_wp2
          go_ret
          exact ⟨_, HR.out, rfl, (S4.out.more (by omega)).drewN _, grown_drewN G4.out⟩

/-- Drawn numbers, gathered since w. -/
structure GS (w wr : World) (b : Nat) (A : Option Addr) (c : Nat) (bs : List Nat) (k : Nat) (v : Value) (rs : List Nat) : Prop where
  own : wr.ownsRow w.heap.size 28 1 v rs.length (Md.vs rs)
  src : Src wr b A c bs k
  grown : w.grownBy wr (some b)
  lt : b < w.heap.size
  word : ∀ x ∈ rs, x < 4294967296
theorem GS.draw {w wr w2 : World} {b c k k2 : Nat} {A : Option Addr} {bs : List Nat} {v : Value} {rs : List Nat} (h : GS w wr b A c bs k v rs) (hs : Src w2 b A c bs k2) (hg : wr.grownBy w2 (some b)) : GS w w2 b A c bs k2 v rs := by
  refine ⟨h.own.kept hg ?_, hs, h.grown.trans hg, h.lt, h.word⟩
  cases hv : v.ownBlock with
  | none => exact .inl rfl
  | some g =>
    right
    intro e
    have := (h.own.lt g hv).1
    have h2 : g = b := by simpa using e
    have := h.lt
    omega
theorem gs_empty {w : World} {b c k : Nat} {A : Option Addr} {bs : List Nat} (h : Src w b A c bs k) : GS w (w.alloc (.cells #[] 28)) b A c bs k (.slice (some ⟨w.heap.size, 0, none⟩) 0 0) [] :=
  ⟨World.ownsRow_made w #[] 0 (Nat.le_refl _) (by unfold maxLen; omega) rfl, src_alloc h _, grown_alloc (World.grownBy.refl _ _) _, h.lt, by simp⟩
theorem wpList_pushG {ops : Array Oper} {rest : List Oper} {o : Oper} {a : Act} {Q : Exit → Act → World → Prop} {w wr : World} {b c k : Nat} {A : Option Addr} {bs : List Nat} (rs : List Nat) (x : Nat) (hx : x < 4294967296) (v : Value) (hg : Hid (GS w wr b A c bs k v rs)) (hlen : rs.length ≤ 1099511627776)
    (hgd : o.guard = none) (s y : Operand) (ho : o.op = .call { callee := .builtin .append, args := #[s, y], argTypes := #[52, 52] })
    (hs : a.eval s = v) (hy : a.eval y = .slice (some ⟨wr.heap.size, 0, none⟩) 1 1)
    (h : ∀ v' w', Hid (GS w w' b A c bs k v' (rs ++ [x])) → wpList Tryz.prog ops Q rest (a.put o.dst v') w') : wpList Tryz.prog ops Q (o :: rest) a (wr.alloc (.cells #[.float .f32 x] 28)) := by
  obtain ⟨i0, hi, hz0, hz1, hz2⟩ := info_parts Me.f32_info
  have H := hg.out
  refine wpList_append_own _ hgd s y 52 ho w.heap.size 28 i0 (.float .f32 0) 1 4 Tryz.underlying52 hi hz0 hz1 hz2 rfl (by decide) _ _ _ hs (H.own.alloc _) ⟨wr.heap.size, 0, none⟩ 1 1 [.float .f32 x] hy rfl ?c1 ?c2 ?c3 ?c4 ?c5 ?_
  case c1 =>
    intro j u hj
    match j, hj with
    | 0, hj => simp at hj; subst hj; simp [Addr.add]
  case c2 => intro u hu; simp at hu; subst hu; rfl
  case c3 => unfold maxLen; omega
  case c4 => omega
  case c5 => have := H.grown.size; simp; omega
  · intro v' w' hown' hgrow _
    have hsz := H.grown.size
    have hB : Below w.heap.size wr w' := ((Below.refl w.heap.size wr).alloc hsz _).grown hgrow (by simp; omega) (fun k hk => (H.own.lt k hk).1)
    refine h v' w' (Lib.hid ⟨?_, H.src.below hB H.lt, ?_, H.lt, ?_⟩)
    · have e1 : (rs ++ [x]).length = rs.length + 1 := by simp
      have e2 : Md.vs (rs ++ [x]) = Md.vs rs ++ [.float .f32 x] := by unfold Md.vs; simp
      rw [e1, e2]; exact hown'
    · exact ⟨hB.os.trans H.grown.os, hB.tape.trans H.grown.tape, hB.output.trans H.grown.output, Nat.le_trans hsz hB.size, fun i hi hne => (hB.block i hi).trans (H.grown.block i hi hne)⟩
    · intro z hz
      rw [List.mem_append, List.mem_singleton] at hz
      rcases hz with hz | rfl
      · exact H.word z hz
      · exact hx
def DrewL (n : Nat) (w : World) (b : Nat) (e : Ending) (w' : World) : Prop :=
  ∃ rs A' c', rs.length = n ∧ (∀ x ∈ rs, x < 4294967296) ∧ e = .returned (.slice A' rs.length c') ∧ Own w' w.heap.size A' c' rs ∧ w.grownBy w' (some b)
set_option maxHeartbeats 4000000 in
theorem floats_any (n : Nat) (hn : n ≤ 1000) (w : World) (b : Nat) (A : Option Addr) (c : Nat) (bs : List Nat) (k : Nat) (hs : Src w b A c bs k) (hk : k ≤ 1000) :
    Calls Tryz.prog 64 #[.pointer (some ⟨b, 0, none⟩), .int .i64 n] w (DrewL n w b) := by
  have HS := Lib.hid (gs_empty hs)
  clear hs
  go_enter Tryz.func64, Tryz.ntmps64
  go_wp2_with fail
  refine (one_any 4 (by omega) (by omega) _ b A c bs k HS.out.src (by omega)).mono ?_
  rintro e w1 ⟨_, ⟨t, rfl⟩, rfl, hs1, hg1⟩
  have H1 := Lib.hid (HS.out.draw hs1 hg1)
  clear hs1 hg1 HS
  go_wp2
  go_loopw [5, 1] (fun v m wr => ∃ (j : Nat) (rs : List Nat), j ≤ n ∧ m = .int .i64 ((n : Int) - (j : Int)) ∧ Hid (rs.length = j) ∧ Hid (GS w wr b A c bs (k + 2 + 16 * j) v rs)) (fun _ m _ => (RowKit.intOf m).toNat)
  case atStart => exact ⟨0, [], by omega, by simp, Lib.hid rfl, H1⟩
  case round =>
    obtain ⟨j, rs, hj, rfl, HL, HG⟩ := hrel
    by_cases hlt : j < n
    · have hd : decide ((0 : Int) < (n : Int) - (j : Int)) = true := decide_eq_true (by omega)
      have HRL := Lib.hid (show rs.length ≤ 1099511627776 by have := HL.out; omega)
      cases t
      · go_wp2_with fail
        refine (plain_any _ b A c bs _ HG.out.src (by omega)).mono ?_
        rintro e w2 ⟨_, ⟨x, hx, rfl⟩, rfl, hs2, hg2⟩
        have H2 := Lib.hid (HG.out.draw (hs2.more (k' := k + 2 + 16 * (j + 1)) (by omega)) hg2)
        clear hs2 hg2
        go_wp2_with (at_builtin; refine wpList_pushG rs x hx _ H2 HRL.out (by rfl) _ _ (by rfl) (by rfl) (by rfl) ?_; intro v' w' HG')
        go_roundw
        case rel => exact ⟨j + 1, rs ++ [x], by omega, by congr 1; omega, Lib.hid (by rw [List.length_append, HL.out]; rfl), HG'⟩
        case measure => simp [RowKit.intOf]; omega
      · go_wp2_with fail
        refine (float_any _ b A c bs _ HG.out.src (by omega)).mono ?_
        rintro e w2 ⟨_, ⟨x, hx, rfl⟩, rfl, hs2, hg2⟩
        have H2 := Lib.hid (HG.out.draw (hs2.more (k' := k + 2 + 16 * (j + 1)) (by omega)) hg2)
        clear hs2 hg2
        go_wp2_with (at_builtin; refine wpList_pushG rs x hx _ H2 HRL.out (by rfl) _ _ (by rfl) (by rfl) (by rfl) ?_; intro v' w' HG')
        go_roundw
        case rel => exact ⟨j + 1, rs ++ [x], by omega, by congr 1; omega, Lib.hid (by rw [List.length_append, HL.out]; rfl), HG'⟩
        case measure => simp [RowKit.intOf]; omega
    · have hd : decide ((0 : Int) < (n : Int) - (j : Int)) = false := decide_eq_false (by omega)
      obtain ⟨A', c', rfl, ho⟩ := own_shape HG.out.own
      have HO := Lib.hid ho
      clear ho
      have HJ := Lib.hid (show j = n by omega)
      clear hj
      go_wp2
      go_ret
      exact ⟨rs, A', c', HL.out.trans HJ.out, HG.out.word, rfl, HO.out, HG.out.grown⟩
/-- A number, drawn from the bytes. -/
def DrewN (w : World) (e : Ending) (w' : World) : Prop := ∃ x : Nat, x < 4294967296 ∧ e = .returned (.float .f32 x) ∧ Below w.heap.size w w'
theorem below_src {w w1 w2 : World} {b : Nat} (h : Below w.heap.size w w1) (hb : w.heap.size ≤ b) (hg : w1.grownBy w2 (some b)) : Below w.heap.size w w2 :=
  ⟨hg.os.trans h.os, hg.tape.trans h.tape, hg.output.trans h.output, Nat.le_trans h.size hg.size, fun i hi => (hg.block i (Nat.lt_of_lt_of_le hi h.size) (fun e => by have : i = b := (Option.some.inj e); omega)).trans (h.block i hi)⟩
set_option maxHeartbeats 4000000 in
theorem number_any (A : Option Addr) (c : Nat) (bs : List Nat) (w : World) (hx : RdB w w.heap.size A bs) (hl : bs.length ≤ 1048576) : Calls Tryz.prog 19 #[.slice A bs.length c] w (DrewN w) := by
  have HX := Lib.hid hx
  clear hx
  go_enter Tryz.func19, Tryz.ntmps19
  go_wp2_with fail
  refine (from_any A c bs _ HX.out hl).mono ?_
  rintro e w0 ⟨b, rfl, hb, hs0, hb0⟩
  have S0 := Lib.hid hs0
  have B0 := Lib.hid hb0
  have HB := Lib.hid hb
  clear hs0 hb0 hb
  go_wp2_with fail
  refine (one_any 2 (by omega) (by omega) _ b A c bs 0 S0.out (by omega)).mono ?_
  rintro e w1 ⟨_, ⟨t, rfl⟩, rfl, hs1, hg1⟩
  have S1 := Lib.hid hs1
  have G1 := Lib.hid hg1
  clear hs1 hg1
  cases t
  · go_wp2_with fail
    refine (float_any _ b A c bs (0 + 2) S1.out (by omega)).mono ?_
    rintro e w2 ⟨_, ⟨x, hx, rfl⟩, rfl, hs2, hg2⟩
    have S2 := Lib.hid hs2
    have G2 := Lib.hid (G1.out.trans hg2)
    clear hs2 hg2
    go_wp2
    go_ret
    exact ⟨x, hx, rfl, below_src B0.out HB.out G2.out⟩
  · go_wp2_with fail
    refine (pick_any 65536 (by omega) (by omega) _ b A c bs (0 + 2) S1.out (by omega)).mono ?_
    rintro e w2 ⟨_, ⟨x, hx, rfl⟩, rfl, hs2, hg2⟩
    have S2 := Lib.hid hs2
    have G2 := Lib.hid (G1.out.trans hg2)
    clear hs2 hg2
    go_wp2_with fail
    refine (pick_any 65536 (by omega) (by omega) _ b A c bs (0 + 2 + 2) S2.out (by omega)).mono ?_
    rintro e w3 ⟨_, ⟨y, hy, rfl⟩, rfl, hs3, hg3⟩
    have S3 := Lib.hid hs3
    have G3 := Lib.hid (G2.out.trans hg3)
    clear hs3 hg3
    go_wp2_with fail
    refine (from_word _ (by omega) (by omega) _).mono ?_
    rintro e w' ⟨⟨z, hz, rfl⟩, rfl⟩
    go_wp2
    go_ret
    exact ⟨z, hz, rfl, below_src B0.out HB.out G3.out⟩
/-- Numbers, drawn from the bytes. -/
def DrewNs (n : Nat) (w : World) (e : Ending) (w' : World) : Prop :=
  ∃ rs A' c', rs.length = n ∧ (∀ x ∈ rs, x < 4294967296) ∧ e = .returned (.slice A' rs.length c') ∧ Own w' w.heap.size A' c' rs ∧ Below w.heap.size w w'
set_option maxHeartbeats 4000000 in
theorem numbers_any (n : Nat) (hn : n ≤ 1000) (A : Option Addr) (c : Nat) (bs : List Nat) (w : World) (hx : RdB w w.heap.size A bs) (hl : bs.length ≤ 1048576) : Calls Tryz.prog 29 #[.slice A bs.length c, .int .i64 n] w (DrewNs n w) := by
  have HX := Lib.hid hx
  clear hx
  go_enter Tryz.func29, Tryz.ntmps29
  go_wp2_with fail
  refine (from_any A c bs _ HX.out hl).mono ?_
  rintro e w0 ⟨b, rfl, hb, hs0, hb0⟩
  have S0 := Lib.hid hs0
  have B0 := Lib.hid hb0
  have HB := Lib.hid hb
  clear hs0 hb0 hb
  go_wp2_with fail
  refine (floats_any n hn _ b A c bs 0 S0.out (by omega)).mono ?_
  rintro e w1 ⟨rs, A', c', hl, hw, rfl, ho, hg⟩
  have HO := Lib.hid ho
  have HG := Lib.hid hg
  have HW := Lib.hid hw
  have HL := Lib.hid hl
  clear ho hg hw hl
  go_wp2
  go_ret
  exact ⟨rs, A', c', HL.out, HW.out, rfl, HO.out.weaken B0.out.size, below_src B0.out HB.out HG.out⟩

end Go.Proofs.YtkfhgjknmdlhbaaGreatDoor.Gb