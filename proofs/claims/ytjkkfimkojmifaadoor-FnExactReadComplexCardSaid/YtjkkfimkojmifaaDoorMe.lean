/- The walks: the copies that the laws make, and their comparison. -/
import Derived.Test.YtjkkfimkojmifaaDoorMd
import Derived.OwnWalk
import Derived.IntWalk
namespace Go.Proofs.YtjkkfimkojmifaaDoor.Me
open Go Go.RowKit Fl Md WB

theorem f32_info : (Tryd.prog.info? 52).map (fun i => (i.zero, i.size, i.bytes)) = some (some (.float .f32 0), 1, 4) := by kernel_rfl

/-- A copy in new memory. -/
def Made (xs : List Nat) (w : World) (e : Ending) (w' : World) : Prop := ∃ g, w.heap.size ≤ g ∧ e = .returned (.slice (some ⟨g, 0, none⟩) xs.length xs.length) ∧
  w'.ownsRow w.heap.size 52 1 (.slice (some ⟨g, 0, none⟩) xs.length xs.length) xs.length (vs xs) ∧ Below w.heap.size w w'
theorem made_zero (n : Nat) : (madeCells (Value.float .f32 0).cells (n * 1)).toList = List.replicate n (Value.float .f32 0) := by
  have hc : (Value.float .f32 0).cells = #[Value.float .f32 0] := rfl
  unfold madeCells
  rw [hc]
  apply List.ext_getElem
  · simp
  · intro i h1 h2
    simp [Nat.mod_one]
def Mid (xs : List Nat) (w : World) (g j : Nat) (wr : World) : Prop := wr.ownsRow w.heap.size 52 1 (.slice (some ⟨g, 0, none⟩) xs.length xs.length) xs.length (vs (xs.take j) ++ List.replicate (xs.length - j) (.float .f32 0)) ∧ Below w.heap.size w wr ∧ w.heap.size ≤ g
theorem Mid.step {xs : List Nat} {w wr : World} {g j : Nat} (h : Mid xs w g j wr) (hj : j < xs.length) : Mid xs w g (j + 1) (wr.setCell ⟨g, j, none⟩ (.float .f32 xs[j])) := by
  obtain ⟨h1, h2, h3⟩ := h
  refine ⟨?_, h2.setCell h3 _, h3⟩
  have hs := (h1.stored j (.float .f32 xs[j])).1
  have e : (vs (xs.take j) ++ List.replicate (xs.length - j) (Value.float .f32 0)).set j (.float .f32 xs[j]) = vs (xs.take (j + 1)) ++ List.replicate (xs.length - (j + 1)) (.float .f32 0) := by
    have hl : (vs (xs.take j)).length = j := by rw [vs_len, List.length_take]; omega
    rw [List.set_append_right _ _ (by omega), hl, Nat.sub_self, show xs.length - j = (xs.length - (j + 1)) + 1 by omega, List.replicate_succ, List.set_cons_zero,
      List.take_succ_eq_append_getElem hj]
    unfold vs
    rw [List.map_append, List.append_assoc]; rfl
  rw [e] at hs
  exact hs
theorem Mid.done {xs : List Nat} {w wr : World} {g j : Nat} (h : Mid xs w g j wr) (hj : j = xs.length) : Made xs w (.returned (.slice (some ⟨g, 0, none⟩) xs.length xs.length)) wr := by
  subst hj
  obtain ⟨h1, h2, h3⟩ := h
  rw [List.take_length, Nat.sub_self, List.replicate_zero, List.append_nil] at h1
  exact ⟨g, h3, rfl, h1, h2⟩
theorem Mid.facts {xs : List Nat} {w wr : World} {g j : Nat} (h : Mid xs w g j wr) (hj : j < xs.length) : (∃ u, wr.cell? ⟨g, j, none⟩ = some u) ∧ wr.frozen? ⟨g, j, none⟩ = false := by
  obtain ⟨h1, h2, h3⟩ := h
  refine ⟨?_, h1.frozenAt j⟩
  rw [h1.cellAt j (by omega), List.getElem?_eq_getElem (by simp [vs_len]; omega)]
  exact ⟨_, rfl⟩
set_option maxHeartbeats 1000000 in
theorem toFloat32S_any (xs : List Nat) (A : Option Addr) (c : Nat) (w : World) (h : Rd w w.heap.size A xs) (hl : xs.length ≤ 1048576) :
    Calls Tryd.prog 17 #[.slice A xs.length c] w (Made xs w) := by
  have H := Lib.hid h
  obtain ⟨i0, hi, hz0, hz1, hz2⟩ := info_parts f32_info
  have HI := Lib.hid hi
  have HZ0 := Lib.hid hz0
  have HZ1 := Lib.hid hz1
  have HZ2 := Lib.hid hz2
  clear h hi hz0 hz1 hz2
  have hlm : xs.length ≤ maxLen := by unfold maxLen; omega
  go_enter Tryd.func17, Tryd.ntmps17
  go_wp2_with (refine wpList_make_full _ rfl _ _ 30 rfl w.heap.size 52 i0 (.float .f32 0) 1 Tryd.underlying30 HI.out HZ0.out HZ1.out .i64 .i64 _ _ xs.length rfl rfl rfl rfl (by rw [HZ2.out]; omega) hlm (Nat.le_refl _) ?_; intro w1 ho hg)
  have HM := Lib.hid (show Mid xs w w.heap.size 0 w1 from ⟨by rw [made_zero] at ho; simpa [vs] using ho, (Below.refl _ _).grown hg (Nat.le_refl _) (by intro k hk; cases hk), Nat.le_refl _⟩)
  clear ho hg
  go_loopw [4] (fun i wr => ∃ j : Nat, j ≤ xs.length ∧ i = .int .i64 j ∧ Hid (Mid xs w w.heap.size j wr)) (fun i _ => xs.length - (intOf i).toNat)
  case atStart => exact ⟨0, by omega, rfl, HM⟩
  case round =>
    obtain ⟨j, hj, rfl, HJ⟩ := hrel
    by_cases hlt : j < xs.length
    · obtain ⟨ad, rfl, hb, hc⟩ := (H.out.below HJ.out.2.1).at_ hlt
      obtain ⟨⟨u, hs⟩, hf⟩ := HJ.out.facts hlt
      have HN := Lib.hid (HJ.out.step hlt)
      clear HJ
      go_wp2
      go_roundw
      case rel => exact ⟨j + 1, by omega, by go_num, HN⟩
      case measure => simp [intOf]; omega
    · go_wp2
      go_ret
      exact HJ.out.done (by omega)

/-- The same numbers, NaN by NaN. -/
def Alike (xs ys : List Nat) : Prop := xs.map (fl .f32) = ys.map (fl .f32)
theorem Alike.len {xs ys : List Nat} (h : Alike xs ys) : xs.length = ys.length := by have := congrArg List.length h; simpa using this
theorem Alike.at_ {xs ys : List Nat} (h : Alike xs ys) {j : Nat} (hx : j < xs.length) (hy : j < ys.length) : fl .f32 xs[j] = fl .f32 ys[j] := by
  have := congrArg (fun l => l[j]?) h
  simpa [hx, hy] using this
theorem Alike.rfl' (xs : List Nat) : Alike xs xs := rfl
theorem same_wide {r s y z : Nat} (h1 : FC .f32 .f64 (fl .f32 r) y) (h2 : FC .f32 .f64 (fl .f32 s) z) (e : fl .f32 r = fl .f32 s) : fl .f64 y = fl .f64 z := by
  rw [Fw.FC_widen h1, Fw.FC_widen h2, e]
def Yes (w : World) (e : Ending) (w' : World) : Prop := ∃ n, e = .returned (.bool true) ∧ w' = w.drewN n
set_option maxHeartbeats 1000000 in
set_option maxRecDepth 20000 in
theorem eqFloat32S_yes (xs ys : List Nat) (A B : Option Addr) (c d : Nat) (w : World) (M : Nat) (hx : Rd w M A xs) (hy : Rd w M B ys) (hl : xs.length ≤ 1048576) (he : Alike xs ys) :
    Calls Tryd.prog 19 #[.slice A xs.length c, .slice B ys.length d] w (Yes w) := by
  have HX := Lib.hid hx
  have HY := Lib.hid hy
  have HE := Lib.hid he
  have hle : ys.length = xs.length := he.len.symm
  have HLE := Lib.hid hle
  rw [hle]
  clear hx hy he hle
  go_enter Tryd.func19, Tryd.ntmps19
  go_wp2
  go_loopw [5] (fun i wr => ∃ j N : Nat, j ≤ xs.length ∧ i = .int .i64 j ∧ wr = w.drewN N) (fun i _ => xs.length - (intOf i).toNat)
  case atStart => exact ⟨0, 0, by omega, rfl, rfl⟩
  case round =>
    obtain ⟨j, N, hj, rfl, rfl⟩ := hrel
    by_cases hlt : j < xs.length
    · have hltd : decide ((j : Int) < (xs.length : Int)) = true := by simpa using hlt
      have hly : j < ys.length := by rw [HLE.out]; exact hlt
      obtain ⟨ad, rfl, hb, hc⟩ := HX.out.at_ hlt
      obtain ⟨bd, rfl, hb2, hc2⟩ := HY.out.at_ hly
      have hq := HE.out.at_ hlt hly
      generalize xs[j] = x at hc hq
      generalize ys[j] = y at hc2 hq
      have HQ := Lib.hid hq
      clear hq hly
      go_wp2
      go_region_held (fun w' => w'.cell? (ad.add j) = some (.float .f32 x) ∧ w'.cell? (bd.add j) = some (.float .f32 y)) (go_keep) (first | (refine upon_fconv _ _ .f32 .f64 (by decide) _ (by rw [Tryd.underlying52]; rfl) Tryd.underlying57 ?_; intro r n hr) | (go_at_call 45; refine (sameFloat_yes _ _ (same_wide (by assumption) (by assumption) HQ.out) _).mono ?_; rintro e w' ⟨rfl, n, rfl⟩))
      all_goals
        go_wp2
        go_roundw
        case rel => exact ⟨j + 1, _, by omega, by go_num, rfl⟩
        case measure => simp [intOf]; omega
    · go_wp2
      go_ret
      exact ⟨_, rfl, rfl⟩
end Go.Proofs.YtjkkfimkojmifaaDoor.Me
