/- Slices of float32 in memory, as lists of words; float operations in a region that draws its order. -/
import Derived.Below
import Derived.Laws.OwnMore
import Derived.Deep.AppendLies
import Derived.Deep.Draws
import Derived.Deep.RegionHeld3
import Derived.OwnWalk
import Derived.Test.YtkfhgjknmdlhbaaGreatDoorWB
namespace Go.Proofs.YtkfhgjknmdlhbaaGreatDoor.Md
open Go Go.RowKit Fl

def vs (xs : List Nat) : List Value := xs.map (Value.float .f32)
/-- The slice at A reads as the words xs, below block B. -/
def Rd (w : World) (B : Nat) (A : Option Addr) (xs : List Nat) : Prop := xs ≠ [] → ∃ ad : Addr, A = some ad ∧ ad.block < B ∧ ∀ j x, xs[j]? = some x → w.cell? (ad.add j) = some (.float .f32 x)
theorem add_block (a : Addr) (n : Nat) : (a.add n).block = a.block := by unfold Addr.add; split <;> rfl
theorem add_at (g i : Nat) : (⟨g, 0, none⟩ : Addr).add i = ⟨g, i, none⟩ := by
  unfold Addr.add
  split
  · subst_vars; rfl
  · simp
section
variable {w w' : World} {B B' : Nat} {A : Option Addr} {xs : List Nat}
theorem Rd.at_ (h : Rd w B A xs) {j : Nat} (hj : j < xs.length) : ∃ ad : Addr, A = some ad ∧ ad.block < B ∧ w.cell? (ad.add j) = some (.float .f32 xs[j]) := by
  obtain ⟨ad, e, hb, hc⟩ := h (by intro e; subst e; simp at hj)
  exact ⟨ad, e, hb, hc j _ (List.getElem?_eq_getElem hj)⟩
theorem Rd.keep (h : Rd w B A xs) (hk : ∀ p : Addr, p.block < B → w'.cell? p = w.cell? p) : Rd w' B A xs := fun hn => by
  obtain ⟨ad, e, hb, hc⟩ := h hn
  exact ⟨ad, e, hb, fun j x hx => (hk _ (by rw [add_block]; exact hb)).trans (hc j x hx)⟩
theorem Rd.more (h : Rd w B A xs) (hB : B ≤ B') : Rd w B' A xs := fun hn => by
  obtain ⟨ad, e, hb, hc⟩ := h hn
  exact ⟨ad, e, by omega, hc⟩
theorem Rd.below (h : Rd w B A xs) (hb : Below B w w') : Rd w' B A xs := h.keep fun _ hp => hb.cell hp
theorem Rd.drewN (h : Rd w B A xs) (k : Nat) : Rd (w.drewN k) B A xs := h
theorem Rd.of_own {base g cap n : Nat} {e : TypeId} (h : w.ownsRow base e 1 (.slice (some ⟨g, 0, none⟩) n cap) n (vs xs)) : Rd w w.heap.size (some ⟨g, 0, none⟩) xs := fun _ =>
  ⟨_, rfl, (h.lt g rfl).2, fun j x hx => h.cells (g := g) rfl j _ (by unfold vs; rw [List.getElem?_map, hx]; rfl)⟩
end
theorem vs_len (xs : List Nat) : (vs xs).length = xs.length := by unfold vs; simp

@[go_sem] theorem run_store_float {P : Program} (w : World) (a : Addr) (m : Mode) (k : FloatKind) (x : Nat) : (store a (.float k x) m).run P w = stored P w a (.float k x) m := run_store P w a _ m rfl
section step
variable {P : Program} {ops : Array Oper} {o : Oper} {a : Act} {w : World} {K : Act → World → Prop} {Q : Exit → Act → World → Prop} {E : Prop}
theorem wp_of_run {v : Value} {w' : World} (hr : (execOp a.eval o).run P w = .ok (.value v) w') (h : K (a.put o.dst v) w') : o.wp P a w K Q := by
  unfold Oper.wp; rw [hr]; exact h
theorem step_fconv (src dst : TypeId) (x : Operand) (ho : o.op = .convert src dst x) (hgd : o.guard = none)
    (s k : FloatKind) (hsk : s ≠ k) (u : Nat) (hx : a.eval x = .float s u) (hs : (P.underlying src).isSome = true) (hd : P.underlying dst = some (.float k))
    (h : ∀ r n, FC s k (fl s u) r → K (a.put o.dst (.float k r)) (w.drewN n)) : if Region.wanted o (yielded ops a.tmps) = true then Oper.wp P o a w K Q else E := by
  have hw : Region.wanted o (yielded ops a.tmps) = true := by simp [Region.wanted, hgd]
  rw [if_pos hw]
  obtain ⟨r, n, hr, hv⟩ := run_fconv (P := P) w src dst s k hsk u hs hd
  refine wp_of_run ?_ (h r n hv)
  simp only [execOp, ho, hx]
  simp [hr]
theorem step_farith (bop : BinOp) (t : TypeId) (x y : Operand) (yt : TypeId) (ho : o.op = .binOp bop t x y yt) (hb : arith bop = true) (hgd : o.guard = none)
    (k : FloatKind) (u v : Nat) (hx : a.eval x = .float k u) (hy : a.eval y = .float k v)
    (h : ∀ r n, FV k (fop bop k (fl k u) (fl k v)) r → K (a.put o.dst (.float k r)) (w.drewN n)) : if Region.wanted o (yielded ops a.tmps) = true then Oper.wp P o a w K Q else E := by
  have hw : Region.wanted o (yielded ops a.tmps) = true := by simp [Region.wanted, hgd]
  rw [if_pos hw]
  obtain ⟨r, n, hr, hv⟩ := run_farith (P := P) w bop hb t k u v
  refine wp_of_run ?_ (h r n hv)
  simp only [execOp, ho, hx, hy]
  have he : eqGuard bop t x y (.float k u) (.float k v) = pure () := by
    cases bop <;> simp [arith] at hb <;> rfl
  simp [he, hr]
theorem upon_farith (bop : BinOp) (hb : arith bop = true) (t : TypeId) (k : FloatKind) (u v : Nat)
    (h : ∀ r n, FV k (fop bop k (fl k u) (fl k v)) r → K (a.put o.dst (.float k r)) (w.drewN n)) : Oper.upon P o a K Q (((binOp bop t (.float k u) (.float k v)).run P w).andThen fun v w' => .ok (.value v) w') := by
  obtain ⟨r, n, hr, hv⟩ := run_farith (P := P) w bop hb t k u v
  rw [hr]
  exact h r n hv
theorem upon_fconv (src dst : TypeId) (s k : FloatKind) (hsk : s ≠ k) (u : Nat) (hs : (P.underlying src).isSome = true) (hd : P.underlying dst = some (.float k))
    (h : ∀ r n, FC s k (fl s u) r → K (a.put o.dst (.float k r)) (w.drewN n)) : Oper.upon P o a K Q (((convert src dst (.float s u)).run P w).andThen fun v w' => .ok (.value v) w') := by
  obtain ⟨r, n, hr, hv⟩ := run_fconv (P := P) w src dst s k hsk u hs hd
  rw [hr]
  exact h r n hv
end step
end Go.Proofs.YtkfhgjknmdlhbaaGreatDoor.Md
