/- The walk of erasure.spanOf. -/
import Derived.Test.YtgflflpeilfinaaDoorSpanC
import Derived.Test.YtgflflpeilfinaaDoorEraB
set_option linter.unusedVariables false
set_option linter.unusedSectionVars false
set_option linter.unusedSimpArgs false
namespace Go.Proofs.YtgflflpeilfinaaDoor
open Go.RowKit

theorem info_red : (Tryd.prog.info? 103).map (fun i => (i.zero, i.size, i.bytes)) = some (some (.agg #[.int .i64 0, .slice none 0 0, .slice none 0 0]), 3, 56) := by kernel_rfl

/-- The span of a basis as it lies in memory. -/
def SpanAt (w : World) (S : Nat) (nm : ByteArray) (m n : Nat) (vp : Value) (dm : Int) (b : List Nat) (reds : List Red) : Prop :=
  ∃ vb vr, w.heap[S]? = some (.cells #[.string nm, .int .i64 m, .int .i64 n, vp, .int .i64 dm, vb, vr] 98 (0, 0)) ∧ RInts w vb (nints b) ∧ RReds w vr reds
theorem SpanAt.ext {w w' : World} {S : Nat} {nm : ByteArray} {m n : Nat} {vp : Value} {dm : Int} {b : List Nat} {reds : List Red} (h : SpanAt w S nm m n vp dm b reds) (hx : Ext w w') : SpanAt w' S nm m n vp dm b reds := by
  obtain ⟨vb, vr, h1, h2, h3⟩ := h
  exact ⟨vb, vr, row_ext h1 hx, RInts.ext h2 hx, h3.ext hx⟩

def redVals (r : Red) (p : Nat × Nat) : List Value := [.int .i64 (r.col : Nat), .slice (some ⟨p.1, 0, none⟩) r.row.length r.row.length, .slice (some ⟨p.2, 0, none⟩) r.coef.length r.coef.length]
def redCells : List Red → List (Nat × Nat) → List Value
  | r :: reds, p :: gs => redVals r p ++ redCells reds gs
  | _, _ => []
theorem redCells_app : ∀ (reds : List Red) (gs : List (Nat × Nat)) (r : Red) (p : Nat × Nat), gs.length = reds.length → redCells (reds ++ [r]) (gs ++ [p]) = redCells reds gs ++ redVals r p
  | [], [], r, p, _ => by simp [redCells]
  | a :: reds, q :: gs, r, p, h => by
    simp only [List.cons_append, redCells, List.append_assoc]
    rw [redCells_app reds gs r p (by simpa using h)]
  | [], _ :: _, _, _, h => by simp at h
  | _ :: _, [], _, _, h => by simp at h
theorem redCells_get : ∀ (reds : List Red) (gs : List (Nat × Nat)) (i : Nat), gs.length = reds.length → (hi : i < reds.length) → (redCells reds gs)[i * 3]? = some (.int .i64 ((rd reds i).col : Nat)) ∧
    (redCells reds gs)[i * 3 + 1]? = some (.slice (some ⟨(gs.getD i (0, 0)).1, 0, none⟩) (rd reds i).row.length (rd reds i).row.length) ∧ (redCells reds gs)[i * 3 + 2]? = some (.slice (some ⟨(gs.getD i (0, 0)).2, 0, none⟩) (rd reds i).coef.length (rd reds i).coef.length)
  | [], _, i, _, hi => by simp at hi
  | _ :: _, [], _, h, _ => by simp at h
  | r :: reds, p :: gs, 0, _, _ => by simp [redCells, redVals, rd]
  | r :: reds, p :: gs, i + 1, h, hi => by
    obtain ⟨h1, h2, h3⟩ := redCells_get reds gs i (by simpa using h) (by simpa using hi)
    have e : (i + 1) * 3 = i * 3 + 1 + 1 + 1 := by omega
    simp only [redCells, redVals, List.cons_append, List.nil_append, e, rd, List.getD_eq_getElem?_getD, List.getElem?_cons_succ] at h1 h2 h3 ⊢
    exact ⟨h1, h2, h3⟩

/-- The rows of the span, each in a block of its own. -/
structure RedsO (B : Nat) (w : World) (vr : Value) (reds : List Red) (gs : List (Nat × Nat)) : Prop where
  len : gs.length = reds.length
  own : w.ownsRow B 103 3 vr reds.length (redCells reds gs)
  rows : ∀ i, i < reds.length → B ≤ (gs.getD i (0, 0)).1 ∧ B ≤ (gs.getD i (0, 0)).2 ∧ w.heap[(gs.getD i (0, 0)).1]? = some (.cells (nvs (rd reds i).row).toArray 3 (0, 0)) ∧ w.heap[(gs.getD i (0, 0)).2]? = some (.cells (nvs (rd reds i).coef).toArray 3 (0, 0))
theorem ints_of_row {w : World} {g n : Nat} {L : List Nat} (h : w.heap[g]? = some (.cells (nvs L).toArray 3 (0, 0))) (hn : L.length = n) (hl : n ≤ lim) : RInts w (.slice (some ⟨g, 0, none⟩) n n) (nints L) := by
  refine ⟨_, n, by rw [show (List.map (Value.int .i64) (nints L)).length = n by simp [nints, hn]], by simp [nints, hn, hl], .inr ⟨g, 0, rfl, fun j u hu => ?_⟩⟩
  rw [Nat.zero_add, cell_of_row w g j _ _ (0, 0) h]
  simpa [nvs, ivs] using hu
theorem RedsO.reads {B : Nat} {w : World} {vr : Value} {reds : List Red} {gs : List (Nat × Nat)} (h : RedsO B w vr reds gs) (hl : ∀ r ∈ reds, r.row.length ≤ lim ∧ r.coef.length ≤ lim) : RReds w vr reds := by
  rcases h.own.2 with ⟨rfl, h0⟩ | ⟨g, cap, cur, rfl, hb, hg, hnc, hcm, hcs, htake⟩
  · exact ⟨none, 0, by rw [h0], fun i hi => by omega⟩
  · refine ⟨_, cap, rfl, fun i hi => ?_⟩
    obtain ⟨h1, h2, h3⟩ := redCells_get reds gs i h.len hi
    obtain ⟨_, _, r1, r2⟩ := h.rows i hi
    have hm := hl (rd reds i) (by rw [rd_get hi]; exact List.getElem_mem _)
    have hc := h.own.cells (g := g) rfl
    refine ⟨g, 0, _, _, rfl, ?_, ?_, ?_, ints_of_row r1 rfl hm.1, ints_of_row r2 rfl hm.2⟩
    · have := hc _ _ h1; rw [add_plain'] at this; exact this
    · have := hc _ _ h2; rw [add_plain'] at this; rw [Nat.zero_add] at this; rw [Nat.zero_add]; exact this
    · have := hc _ _ h3; rw [add_plain'] at this; rw [Nat.zero_add] at this; rw [Nat.zero_add]; exact this
/-- Other blocks are written. -/
theorem RedsO.far {B g : Nat} {w w' : World} {vr : Value} {reds : List Red} {gs : List (Nat × Nat)} (h : RedsO B w vr reds gs) (hg : w.grownBy w' (some g)) (hB : g < B) : RedsO B w' vr reds gs :=
  ⟨h.len, own_far h.own hg hB, fun i hi => by
    obtain ⟨h1, h2, h3, h4⟩ := h.rows i hi
    refine ⟨h1, h2, ?_, ?_⟩
    · rw [hg.block _ (Array.getElem?_eq_some_iff.1 h3).1 (by intro e; injection e; omega)]; exact h3
    · rw [hg.block _ (Array.getElem?_eq_some_iff.1 h4).1 (by intro e; injection e; omega)]; exact h4⟩
theorem RedsO.ext {B : Nat} {w w' : World} {vr : Value} {reds : List Red} {gs : List (Nat × Nat)} (h : RedsO B w vr reds gs) (hx : Ext w w') : RedsO B w' vr reds gs :=
  ⟨h.len, own_ext h.own hx, fun i hi => by
    obtain ⟨h1, h2, h3, h4⟩ := h.rows i hi
    exact ⟨h1, h2, row_ext h3 hx, row_ext h4 hx⟩⟩
/-- One row more: the outer array may be written. -/
theorem RedsO.push {B ga gb : Nat} {w w' : World} {vr vr' : Value} {reds : List Red} {gs : List (Nat × Nat)} {r : Red} (h : RedsO B w vr reds gs) (hg : w.grownBy w' vr.ownBlock)
    (hown : w'.ownsRow B 103 3 vr' (reds.length + 1) (redCells reds gs ++ redVals r (ga, gb))) (ha : B ≤ ga) (hb : B ≤ gb)
    (h1 : w.heap[ga]? = some (.cells (nvs r.row).toArray 3 (0, 0))) (h2 : w.heap[gb]? = some (.cells (nvs r.coef).toArray 3 (0, 0))) : RedsO B w' vr' (reds ++ [r]) (gs ++ [(ga, gb)]) := by
  have keep : ∀ (k : Nat) (cs : Array Value), w.heap[k]? = some (.cells cs 3 (0, 0)) → w'.heap[k]? = some (.cells cs 3 (0, 0)) := fun k cs hk => by
    rw [hg.block k (Array.getElem?_eq_some_iff.1 hk).1]
    · exact hk
    · intro e
      rcases h.own.2 with ⟨rfl, _⟩ | ⟨g, cap, cur, rfl, _, hgg, _⟩
      · simp [Value.ownBlock] at e
      · simp [Value.ownBlock] at e
        subst e
        rw [hgg] at hk
        injection hk with hk
        injection hk with _ hk
        exact absurd hk (by decide)
  refine ⟨by simp [h.len], by rw [redCells_app _ _ _ _ h.len]; simpa using hown, fun i hi => ?_⟩
  rw [List.length_append, List.length_singleton] at hi
  by_cases e : i < reds.length
  · obtain ⟨a1, a2, a3, a4⟩ := h.rows i e
    have e1 : (gs ++ [(ga, gb)]).getD i (0, 0) = gs.getD i (0, 0) := by simp only [List.getD_eq_getElem?_getD]; rw [List.getElem?_append_left (by rw [h.len]; exact e)]
    have e2 : rd (reds ++ [r]) i = rd reds i := by rw [rd_get (by simp; omega), rd_get e, List.getElem_append_left e]
    rw [e1, e2]
    exact ⟨a1, a2, keep _ _ a3, keep _ _ a4⟩
  · obtain rfl : i = reds.length := by omega
    have e1 : (gs ++ [(ga, gb)]).getD reds.length (0, 0) = (ga, gb) := by simp only [List.getD_eq_getElem?_getD]; rw [← h.len]; simp
    have e2 : rd (reds ++ [r]) reds.length = r := by rw [rd_get (by simp)]; simp
    rw [e1, e2]
    exact ⟨ha, hb, keep _ _ h1, keep _ _ h2⟩

/-- What the composite literal of a reduced row leaves. -/
structure MkF (W3 W : World) (C K col ga gb gr : Nat) : Prop where
  ext : Ext W3 W
  ra : W.heap[ga]? = some (.cells (Array.replicate C (.int .i64 0)) 3 (0, 0))
  rb : W.heap[gb]? = some (.cells (Array.replicate K (.int .i64 0)) 3 (0, 0))
  rr : W.heap[gr]? = some (.cells #[.int .i64 (col : Nat), .slice (some ⟨ga, 0, none⟩) C C, .slice (some ⟨gb, 0, none⟩) K K] 103 (0, 0))
  le : W3.heap.size ≤ ga ∧ W3.heap.size ≤ gb ∧ W3.heap.size ≤ gr
  ne : ga ≠ gb ∧ ga ≠ gr ∧ gb ≠ gr
theorem set_cell3 {W : World} {g t : Nat} {a b c : Value} (h : W.heap[g]? = some (.cells #[a, b, c] t (0, 0))) (x y z : Value) : (((W.setCell ⟨g, 0, none⟩ x).setCell ⟨g, 1, none⟩ y).setCell ⟨g, 2, none⟩ z).heap[g]? = some (.cells #[x, y, z] t (0, 0)) := by
  have := set_cells (i := 2) (set_cells (i := 1) (set_cells (i := 0) h x) y) z
  simpa using this

theorem mk_use {C : World → Prop} {W3 W : World} {n K col ga gb gr : Nat} (F : MkF W3 W n K col ga gb gr) (h : ∀ W0, MkF W3 W0 n K col ga gb gr → C W0) : C W := h _ F
theorem rest4 {F Cc : World → Nat → Nat → Nat → Prop} {goal : Prop} (h1 : (∀ W a b c, F W a b c → Cc W a b c) → goal) (h2 : ∀ W a b c, F W a b c → Cc W a b c) : goal := h1 h2
section
variable (w : World) (n K col : Nat)
theorem mkF_abr : MkF w (((w.alloc (.cells (Array.replicate n (.int .i64 0)) 3)).alloc (.cells (Array.replicate K (.int .i64 0)) 3)).alloc (.cells #[.int .i64 (col : Nat), .slice (some ⟨w.heap.size, 0, none⟩) n n, .slice (some ⟨(w.heap.size + 1), 0, none⟩) K K] 103)).drew n K col w.heap.size (w.heap.size + 1) (w.heap.size + 1 + 1) :=
  ⟨ext_drew (ext_alloc (ext_alloc (ext_alloc (ext_refl w) _) _) _), row_drew (row_alloc_old (row_alloc_old (row_alloc _ _ _ _ rfl) _) _), row_drew (row_alloc_old (row_alloc _ _ _ _ (by simp)) _), row_drew (row_alloc _ _ _ _ (by simp)), ⟨by omega, by omega, by omega⟩, ⟨by omega, by omega, by omega⟩⟩
theorem mkF_arb : MkF w (((w.alloc (.cells (Array.replicate n (.int .i64 0)) 3)).alloc (.cells #[.int .i64 (col : Nat), .slice (some ⟨w.heap.size, 0, none⟩) n n, .slice (some ⟨(w.heap.size + 1 + 1), 0, none⟩) K K] 103)).alloc (.cells (Array.replicate K (.int .i64 0)) 3)).drew n K col w.heap.size (w.heap.size + 1 + 1) (w.heap.size + 1) :=
  ⟨ext_drew (ext_alloc (ext_alloc (ext_alloc (ext_refl w) _) _) _), row_drew (row_alloc_old (row_alloc_old (row_alloc _ _ _ _ rfl) _) _), row_drew (row_alloc _ _ _ _ (by simp)), row_drew (row_alloc_old (row_alloc _ _ _ _ (by simp)) _), ⟨by omega, by omega, by omega⟩, ⟨by omega, by omega, by omega⟩⟩
theorem mkF_bar : MkF w (((w.alloc (.cells (Array.replicate K (.int .i64 0)) 3)).alloc (.cells (Array.replicate n (.int .i64 0)) 3)).alloc (.cells #[.int .i64 (col : Nat), .slice (some ⟨(w.heap.size + 1), 0, none⟩) n n, .slice (some ⟨w.heap.size, 0, none⟩) K K] 103)).drew n K col (w.heap.size + 1) w.heap.size (w.heap.size + 1 + 1) :=
  ⟨ext_drew (ext_alloc (ext_alloc (ext_alloc (ext_refl w) _) _) _), row_drew (row_alloc_old (row_alloc _ _ _ _ (by simp)) _), row_drew (row_alloc_old (row_alloc_old (row_alloc _ _ _ _ rfl) _) _), row_drew (row_alloc _ _ _ _ (by simp)), ⟨by omega, by omega, by omega⟩, ⟨by omega, by omega, by omega⟩⟩
theorem mkF_bra : MkF w (((w.alloc (.cells (Array.replicate K (.int .i64 0)) 3)).alloc (.cells #[.int .i64 (col : Nat), .slice (some ⟨(w.heap.size + 1 + 1), 0, none⟩) n n, .slice (some ⟨w.heap.size, 0, none⟩) K K] 103)).alloc (.cells (Array.replicate n (.int .i64 0)) 3)).drew n K col (w.heap.size + 1 + 1) w.heap.size (w.heap.size + 1) :=
  ⟨ext_drew (ext_alloc (ext_alloc (ext_alloc (ext_refl w) _) _) _), row_drew (row_alloc _ _ _ _ (by simp)), row_drew (row_alloc_old (row_alloc_old (row_alloc _ _ _ _ rfl) _) _), row_drew (row_alloc_old (row_alloc _ _ _ _ (by simp)) _), ⟨by omega, by omega, by omega⟩, ⟨by omega, by omega, by omega⟩⟩
theorem mkF_rab : MkF w (((w.alloc (.cells #[.int .i64 (col : Nat), .slice (some ⟨(w.heap.size + 1), 0, none⟩) n n, .slice (some ⟨(w.heap.size + 1 + 1), 0, none⟩) K K] 103)).alloc (.cells (Array.replicate n (.int .i64 0)) 3)).alloc (.cells (Array.replicate K (.int .i64 0)) 3)).drew n K col (w.heap.size + 1) (w.heap.size + 1 + 1) w.heap.size :=
  ⟨ext_drew (ext_alloc (ext_alloc (ext_alloc (ext_refl w) _) _) _), row_drew (row_alloc_old (row_alloc _ _ _ _ (by simp)) _), row_drew (row_alloc _ _ _ _ (by simp)), row_drew (row_alloc_old (row_alloc_old (row_alloc _ _ _ _ rfl) _) _), ⟨by omega, by omega, by omega⟩, ⟨by omega, by omega, by omega⟩⟩
theorem mkF_rba : MkF w (((w.alloc (.cells #[.int .i64 (col : Nat), .slice (some ⟨(w.heap.size + 1 + 1), 0, none⟩) n n, .slice (some ⟨(w.heap.size + 1), 0, none⟩) K K] 103)).alloc (.cells (Array.replicate K (.int .i64 0)) 3)).alloc (.cells (Array.replicate n (.int .i64 0)) 3)).drew n K col (w.heap.size + 1 + 1) (w.heap.size + 1) w.heap.size :=
  ⟨ext_drew (ext_alloc (ext_alloc (ext_alloc (ext_refl w) _) _) _), row_drew (row_alloc _ _ _ _ (by simp)), row_drew (row_alloc_old (row_alloc _ _ _ _ (by simp)) _), row_drew (row_alloc_old (row_alloc_old (row_alloc _ _ _ _ rfl) _) _), ⟨by omega, by omega, by omega⟩, ⟨by omega, by omega, by omega⟩⟩
end
theorem own_full {w : World} {base g n : Nat} {e : TypeId} {xs : List Value} (h : w.ownsRow base e 1 (.slice (some ⟨g, 0, none⟩) n n) n xs) : w.heap[g]? = some (.cells xs.toArray e (0, 0)) := by
  rcases h.2 with ⟨h, _⟩ | ⟨g', cap, cur, h, _, hg, _, _, hcs, htake⟩
  · cases h
  · injection h with h1 h2 h3
    injection h1 with h1
    injection h1 with h1
    subst h1 h3
    rw [hg]
    rw [Nat.mul_one] at htake hcs
    rw [List.take_of_length_le (by simp [hcs])] at htake
    rw [← htake]
theorem spanAdd_len (m f n : Nat) (hm : Fm m) (hf : f < 2 ^ m) (tt l : List Nat) (et : tt.length = n) (hlen : l.length = n) (hbt : Bl m tt) (hbl : Bl m l) (base S g cap : Nat) (vl : Value)
    (hne : ∀ b o n c, vl = .slice (some ⟨b, o, none⟩) n c → b ≠ g) (hSg : S ≠ g) (hg0 : 0 < g) (hn : n ≤ 1000) (w : World) (hl : Laid w)
    (hS : w.cell? ⟨S, 1, none⟩ = some (.int .i64 m)) (hv : RInts w vl (nints l)) (ho : w.ownsRow base 3 1 (.slice (some ⟨g, 0, none⟩) n cap) n (nvs tt)) :
    Calls Tryd.prog 77 #[.pointer (some ⟨S, 0, none⟩), .slice (some ⟨g, 0, none⟩) n cap, .int .i64 f, vl] w fun e w' => e = .returned (.tuple #[]) ∧
      w'.ownsRow base 3 1 (.slice (some ⟨g, 0, none⟩) n cap) n (nvs (addL m f tt l)) ∧ w.grownBy w' (some g) := by
  subst et
  exact spanAdd_any m f hm hf tt l hlen hbt hbl base S g cap vl hne hSg hg0 hn w hl hS hv ho

theorem grown_app {w W W' : World} {S : Nat} {row : Option Nat} (h : w.grownBy W (some S)) (hg : W.grownBy W' row) (hr : ∀ i, row = some i → w.heap.size ≤ i) : w.grownBy W' (some S) :=
  ⟨hg.os.trans h.os, hg.tape.trans h.tape, hg.output.trans h.output, Nat.le_trans h.size hg.size, fun k hk hne => by
    rw [hg.block k (Nat.lt_of_lt_of_le hk h.size) (fun e => by have := hr k e.symm; omega)]
    exact h.block k hk hne⟩
theorem own_ints {w : World} {base n : Nat} {v : Value} {L : List Nat} (h : w.ownsRow base 3 1 v n (nvs L)) (hl : L.length ≤ lim) : RInts w v (nints L) :=
  own_sl h (by have := nvs_len L; show (nvs L).length ≤ lim; omega)

end Go.Proofs.YtgflflpeilfinaaDoor
