/- Words on memory where one block is written. -/
import Derived.Test.YtgflflpeilfinaaDoorAcc
import Derived.Test.YtgflflpeilfinaaDoorEraEnc
set_option linter.unusedVariables false
set_option linter.unusedSimpArgs false
namespace Go.Proofs.YtgflflpeilfinaaDoor
open Go.RowKit

section
variable {w W W' : World} {g : Nat} {t : TypeId} {cs : Array Value}
theorem Wrote.init (h : w.heap[g]? = some (.cells cs t (0, 0))) : Wrote w g t cs w := ⟨World.grownBy.refl _ _, h⟩
theorem Wrote.lt (h : Wrote w g t cs W) : g < W.heap.size := (Array.getElem?_eq_some_iff.1 h.row).1
theorem Wrote.ext (h : Wrote w g t cs W) (hx : Ext W W') : Wrote w g t cs W' :=
  ⟨h.grown.trans ⟨hx.os, hx.tape, hx.output, hx.size, fun k hk _ => hx.block k hk⟩, by rw [hx.block g h.lt]; exact h.row⟩
theorem Wrote.drew (h : Wrote w g t cs W) : Wrote w g t cs W.drew := ⟨h.grown.trans ⟨rfl, rfl, rfl, Nat.le_refl _, fun _ _ _ => rfl⟩, h.row⟩
theorem Wrote.drewN (h : Wrote w g t cs W) (n : Nat) : Wrote w g t cs (W.drewN n) := ⟨h.grown.trans ⟨rfl, rfl, rfl, Nat.le_refl _, fun _ _ _ => rfl⟩, h.row⟩
/-- An append to a row that is younger than w. -/
theorem Wrote.app {row : Option Nat} (h : Wrote w g t cs W) (hg : W.grownBy W' row) (hr : ∀ i, row = some i → w.heap.size ≤ i) (hgw : g < w.heap.size) : Wrote w g t cs W' := by
  refine ⟨⟨hg.os.trans h.grown.os, hg.tape.trans h.grown.tape, hg.output.trans h.grown.output, Nat.le_trans h.grown.size hg.size, fun k hk hne => ?_⟩, ?_⟩
  · rw [hg.block k (Nat.lt_of_lt_of_le hk h.grown.size) (fun e => by have := hr k e.symm; omega)]
    exact h.grown.block k hk hne
  · rw [hg.block g h.lt (fun e => by have := hr g e.symm; omega)]
    exact h.row
theorem Wrote.set (h : Wrote w g t cs W) (i : Nat) (v : Value) : Wrote w g t (cs.setIfInBounds i v) (W.setCell ⟨g, i, none⟩ v) :=
  ⟨h.grown.trans ⟨rfl, rfl, rfl, by simp [World.setCell], fun k _ hk => Below.heap_setCell _ _ _ _ (fun e => hk (by rw [e]))⟩, set_cells h.row v⟩
theorem Wrote.far (h : Wrote w g t cs W) {a : Addr} {v : Value} (hc : w.cell? a = some v) (hne : a.block ≠ g) : W.cell? a = some v :=
  h.grown.cell hc (fun e => hne (by injection e))
theorem Wrote.cell (h : Wrote w g t cs W) (j : Nat) : W.cell? ⟨g, j, none⟩ = cs[j]? := cell_of_row W g j cs t (0, 0) h.row
theorem Wrote.toExt {w0 : World} (h : Wrote w g t cs W) (hx : Ext w0 w) (hg : w0.heap.size ≤ g) : Ext w0 W :=
  Below.grown hx h.grown hx.size (fun i e => by cases e; exact hg)
end

theorem row_alloc (w : World) (cs : Array Value) (t : TypeId) (g : Nat) (hg : g = w.heap.size) : (w.alloc (.cells cs t)).heap[g]? = some (.cells cs t (0, 0)) := by
  subst hg
  exact heap_alloc_new w _
theorem row_ext {w w' : World} {g : Nat} {o : Obj} (h : w.heap[g]? = some o) (hx : Ext w w') : w'.heap[g]? = some o := by
  rw [hx.block g (Array.getElem?_eq_some_iff.1 h).1]; exact h
theorem row_alloc_old {w : World} {g : Nat} {o : Obj} (h : w.heap[g]? = some o) (o' : Obj) : (w.alloc o').heap[g]? = some o := row_ext h (ext_alloc (ext_refl w) o')
theorem row_cell {w : World} {g : Nat} {cs : Array Value} {t : TypeId} (h : w.heap[g]? = some (.cells cs t (0, 0))) (j : Nat) {v : Value} (hj : cs[j]? = some v) : w.cell? ⟨g, j, none⟩ = some v := by
  rw [cell_of_row w g j cs t (0, 0) h]; exact hj

theorem own_far {w w1 : World} {base : Nat} {e : TypeId} {size n g : Nat} {v : Value} {xs : List Value} (h : w.ownsRow base e size v n xs) (hg : w.grownBy w1 (some g)) (hb : g < base) : w1.ownsRow base e size v n xs :=
  h.kept hg (row := some g) (.inr (by
    intro e
    have := own_base' h g e
    omega))
theorem grown_set (w : World) (a : Addr) (v : Value) : w.grownBy (w.setCell a v) (some a.block) :=
  ⟨rfl, rfl, rfl, by simp [World.setCell], fun k _ hk => Below.heap_setCell _ _ _ _ (fun e => hk (by rw [e]))⟩

end Go.Proofs.YtgflflpeilfinaaDoor
