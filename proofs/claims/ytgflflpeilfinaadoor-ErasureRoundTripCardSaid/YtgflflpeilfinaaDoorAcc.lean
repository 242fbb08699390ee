/- The walks of package field's symbols and accumulate: a multiple of a unit is added to a row of bytes, in place. -/
import Derived.Test.YtgflflpeilfinaaDoorSymb
import Derived.Test.YtgflflpeilfinaaDoorFieldC
import Derived.Shelf.RegionOpen
set_option linter.unusedVariables false
set_option linter.unusedSimpArgs false
namespace Go.Proofs.YtgflflpeilfinaaDoor
open Go.RowKit

/-- Byte j of c times the unit u. -/
def scB (m c : Nat) (u : ByteArray) (j : Nat) : Nat :=
  if m = 8 then gmul 8 c (byt u j) else if j % 2 = 0 then gmul 16 c (symAt 16 u (j / 2)).2 / 256 else gmul 16 c (symAt 16 u (j / 2)).2 % 256
/-- The first p bytes have been added. -/
def accL (m c : Nat) (u : ByteArray) (cs : List Nat) (p : Nat) : List Nat := cs.mapIdx fun j x => if j < p then x ^^^ scB m c u j else x
def byteVals (cs : List Nat) : Array Value := (cs.map fun (x : Nat) => Value.int .u8 (x : Int)).toArray

theorem symAt_lt (m : Nat) (hm : Fm m) (u : ByteArray) (k : Nat) : (symAt m u k).2 < 2 ^ m := by
  rcases hm with rfl | rfl
  · have := byt_lt u k; simp [symAt]; omega
  · have h1 := byt_lt u (2 * k); have h2 := byt_lt u (2 * k + 1); simp [symAt]; omega
theorem accL_zero (m c : Nat) (u : ByteArray) (cs : List Nat) : accL m c u cs 0 = cs := by simp only [accL, Nat.not_lt_zero, if_false]; apply List.ext_getElem <;> simp
theorem accL_length (m c : Nat) (u : ByteArray) (cs : List Nat) (p : Nat) : (accL m c u cs p).length = cs.length := by simp [accL]
theorem accL_get (m c : Nat) (u : ByteArray) (cs : List Nat) (p j : Nat) (h : j < cs.length) : (accL m c u cs p)[j]'(by rw [accL_length]; exact h) = if j < p then cs[j] ^^^ scB m c u j else cs[j] := by simp [accL]
theorem accL_succ (m c : Nat) (u : ByteArray) (cs : List Nat) (p : Nat) (h : p < cs.length) : accL m c u cs (p + 1) = (accL m c u cs p).set p (cs[p] ^^^ scB m c u p) := by
  apply List.ext_getElem
  · simp [accL]
  · intro j h1 h2
    have hj : j < cs.length := by simpa [accL] using h1
    rw [accL_get m c u cs (p + 1) j hj, List.getElem_set]
    by_cases e : p = j
    · subst e; simp
    · rw [if_neg e, accL_get m c u cs p j hj]
      by_cases h3 : j < p
      · rw [if_pos h3, if_pos (by omega)]
      · rw [if_neg h3, if_neg (by omega)]
theorem byteVals_get (cs : List Nat) (j : Nat) (h : j < cs.length) : (byteVals cs)[j]? = some (.int .u8 (cs[j] : Int)) := by simp [byteVals, h]
theorem byteVals_set (cs : List Nat) (j x : Nat) : (byteVals cs).setIfInBounds j (.int .u8 (x : Int)) = byteVals (cs.set j x) := by simp [byteVals, List.map_set]

set_option maxHeartbeats 400000 in
theorem symbols_any (m : Nat) (u : ByteArray) (w : World) :
    Calls Tryd.prog 89 #[.int .i64 m, .string u] w fun e w' => e = .returned (.func (.func 105) #[] #[.pointer (some ⟨w.heap.size, 0, none⟩), .pointer (some ⟨w.heap.size + 1, 0, none⟩)]) ∧
      Ext w w' ∧ w'.cell? ⟨w.heap.size, 0, none⟩ = some (.int .i64 m) ∧ w'.cell? ⟨w.heap.size + 1, 0, none⟩ = some (.string u) := by
  go_enter Tryd.func89, Tryd.ntmps89
  go_wp2_with fail
  go_ret
  refine ⟨rfl, ext_alloc (ext_alloc (ext_refl w) _) _, ?_, ?_⟩
  · simp
  · simp

/-- Block g is written, and all other blocks that were there are as they were. -/
structure Wrote (w : World) (g : Nat) (t : TypeId) (cs : Array Value) (w' : World) : Prop where
  grown : w.grownBy w' (some g)
  row : w'.heap[g]? = some (.cells cs t (0, 0))
/-- What holds between two rounds of accumulate. -/
structure AccI (w : World) (g m c : Nat) (u : ByteArray) (n cap : Nat) (p1 p2 : Addr) (L : List Nat) (W : World) : Prop where
  grown : w.grownBy W (some g)
  row : W.heap[g]? = some (.cells (byteVals L) 5 (0, 0))
  cS : W.cell? ⟨w.heap.size, 0, none⟩ = some (.slice (some ⟨g, 0, none⟩) n cap)
  cM : W.cell? ⟨w.heap.size + 1, 0, none⟩ = some (.int .i64 m)
  cC : W.cell? ⟨w.heap.size + 1 + 1, 0, none⟩ = some (.int .i64 c)
  q1 : W.cell? p1 = some (.int .i64 m)
  q2 : W.cell? p2 = some (.string u)
theorem AccI.keep {w : World} {g m c : Nat} {u : ByteArray} {n cap : Nat} {p1 p2 : Addr} {L : List Nat} {W W' : World} {B : Nat}
    (h : AccI w g m c u n cap p1 p2 L W) (k : KeepB B W W') (hB : w.heap.size ≤ B) : AccI w g m c u n cap p1 p2 L W' :=
  ⟨⟨k.os.trans h.grown.os, k.tape.trans h.grown.tape, k.output.trans h.grown.output, Nat.le_trans h.grown.size k.size, fun i hi hne => (k.old i (by omega)).trans (h.grown.block i hi hne)⟩,
    k.cells _ _ h.row rfl, k.cell h.cS, k.cell h.cM, k.cell h.cC, k.cell h.q1, k.cell h.q2⟩
theorem set_cells {W : World} {g i t : Nat} {A : Array Value} (h : W.heap[g]? = some (.cells A t (0, 0))) (v : Value) : (W.setCell ⟨g, i, none⟩ v).heap[g]? = some (.cells (A.setIfInBounds i v) t (0, 0)) := by
  simp [World.setCell, Array.getElem?_modify, h]
/-- A byte is written. -/
theorem AccI.set {w : World} {g m c : Nat} {u : ByteArray} {n cap : Nat} {p1 p2 : Addr} {L : List Nat} {W : World}
    (h : AccI w g m c u n cap p1 p2 L W) (hg : g < w.heap.size) (h1 : g ≠ p1.block) (h2 : g ≠ p2.block) (i x : Nat) :
    AccI w g m c u n cap p1 p2 (L.set i x) (W.setCell ⟨g, i, none⟩ (.int .u8 (x : Int))) := by
  have far : ∀ {p : Addr} {v : Value}, g ≠ p.block → W.cell? p = some v → (W.setCell ⟨g, i, none⟩ (.int .u8 (x : Int))).cell? p = some v := fun hne hc => by
    rw [World.cell?_setCell_other W _ _ _ (fun e => hne (by rw [← e]))]
    exact hc
  refine ⟨h.grown.trans ⟨rfl, rfl, rfl, by simp [World.setCell], fun k _ hk => Below.heap_setCell _ _ _ _ (fun e => hk (by rw [e]))⟩, ?_, far (by simp; omega) h.cS, far (by simp; omega) h.cM, far (by simp; omega) h.cC, far h1 h.q1, far h2 h.q2⟩
  rw [set_cells h.row, byteVals_set]
theorem entersF_symbols1 : EntersF Tryd.prog 105 := entersF_of Tryd.func105 (by kernel_rfl) rfl

attribute [local go_sem] Oper.semAt_some
set_option maxRecDepth 100000 in
set_option maxHeartbeats 1000000 in
theorem accumulate8_any (c : Nat) (hc : c < 256) (cs : List Nat) (hb : ∀ x ∈ cs, x < 256) (u : ByteArray) (hn : u.size = cs.length) (hl : u.size ≤ 140737488355328) (g cap : Nat) (w : World) (hlaid : Laid w) (hg0 : 0 < g) (hg : w.heap[g]? = some (.cells (byteVals cs) 5 (0, 0))) :
    Calls Tryd.prog 68 #[.slice (some ⟨g, 0, none⟩) cs.length cap, .int .i64 8, .int .i64 c, .string u] w fun e w' => e = .returned (.tuple #[]) ∧ Wrote w g 5 (byteVals (accL 8 c u cs cs.length)) w' := by
  refine (callsIn_wide (n := 0)).1 ?_
  refine callsIn_of_wp_marks Tryd.func68 rfl trivial ?_ rfl
  simp only [Tryd.ntmps68, List.size_toArray, List.length_cons, List.length_nil, Nat.reduceAdd, Nat.reduceSub, Array.replicate_succ, Array.replicate_zero, List.push_toArray, List.append_toArray, List.nil_append, List.cons_append]
  gi_wp2
  have hlt : g < w.heap.size := (Array.getElem?_eq_some_iff.1 hg).1
  refine ⟨trivial, rfl, (callsIn_wide.2 (symbols_any 8 u _)).mono ?_⟩
  rintro e w1 ⟨rfl, hx1, hp1, hp2⟩
  have hx0 : Ext w w1 := ext_trans (ext_alloc (ext_alloc (ext_alloc (ext_refl w) _) _) _) hx1
  have hc0 : w1.cell? ⟨w.heap.size, 0, none⟩ = some (.slice (some ⟨g, 0, none⟩) cs.length cap) := ext_cell hx1 (by simp [go_sem])
  have hc1 : w1.cell? ⟨w.heap.size + 1, 0, none⟩ = some (.int .i64 8) := ext_cell hx1 (by simp [go_sem])
  have hc2 : w1.cell? ⟨w.heap.size + 1 + 1, 0, none⟩ = some (.int .i64 c) := ext_cell hx1 (by simp [go_sem])
  simp only [World.size_alloc] at hp1 hp2
  have H0 : Hid (AccI w g 8 c u cs.length cap _ _ (accL 8 c u cs (([] : List (Nat × Nat)).length * (8 / 8))) w1) :=
    ⟨⟨hx0.os, hx0.tape, hx0.output, hx0.size, fun k hk _ => hx0.block k hk⟩, by simp only [List.length_nil, Nat.zero_mul, accL_zero]; exact (hx0.block _ hlt).trans hg, hc0, hc1, hc2, hp1, hp2⟩
  gi_wp2
  refine wpIn_range_x (gf := 105) rfl entersF_symbols1 (symbols8_seq u hl _ _) (fun _ => rfl)
    (fun pre W => AccI w g 8 c u cs.length cap ⟨w.heap.size + 1 + 1 + 1, 0, none⟩ ⟨w.heap.size + 1 + 1 + 1 + 1, 0, none⟩ (accL 8 c u cs (pre.length * (8 / 8))) W) (fun _ _ _ => False)
    (fun s A B h k => h.keep k hx0.size) (fun _ _ _ h _ => h) (fun s W h => ⟨h.q1, h.q2⟩) H0.out (fun x => { tmps := #[.slice (some ⟨g, 0, none⟩) cs.length cap, .int .i64 8, .int .i64 c, .string u, .pointer (some ⟨w.heap.size, 0, none⟩), .pointer (some ⟨w.heap.size + 1, 0, none⟩), .pointer (some ⟨w.heap.size + 1 + 1, 0, none⟩), undef, .int .i64 (x.1 : Int), .int .i64 (x.2 : Int), undef, .int .i64 8, .string u, .func (.func 105) #[] #[.pointer (some ⟨w.heap.size + 1 + 1 + 1, 0, none⟩), .pointer (some ⟨w.heap.size + 1 + 1 + 1 + 1, 0, none⟩)], .int .i64 (x.1 : Int), .int .i64 (x.2 : Int), undef, undef, undef, undef, undef, undef, undef, undef, undef, undef, undef, undef, undef, undef, undef, undef, undef, undef, undef, undef, undef, undef, undef, undef], defers := [] }) ?assign ?body ?done ?stop
  case assign =>
    intro l x W K hK
    simp only [symEnc]
    gi_wp2
    exact hK
  case body =>
    rintro l pre x W hI ⟨k, hk, rfl, rfl⟩ hsz
    have hkl : k < cs.length := by have : symCount 8 u = u.size := rfl; omega
    have hlen : (symsTo 8 u k).length = k := by simp [symsTo]
    have hrow := hI.row
    rw [hlen, Nat.div_self (by omega), Nat.mul_one] at hrow
    have hcell : W.cell? ⟨g, k, none⟩ = some (.int .u8 (cs[k] : Int)) := by
      rw [cell_of_row W g k _ _ _ hrow, byteVals_get _ _ (by rw [accL_length]; exact hkl), accL_get _ _ _ _ _ _ hkl, if_neg (by omega)]
    have hfr : W.frozen? ⟨g, k, none⟩ = false := frozen_of_row W g k _ _ hrow
    have hbk : cs[k] < 256 := hb _ (List.getElem_mem hkl)
    obtain ⟨y, hy⟩ : ∃ y, y = cs[k] := ⟨_, rfl⟩
    rw [← hy] at hcell hbk
    have hbl := byt_lt u k
    have hgl : gmul 8 c (byt u k) < 256 := gmul_lt (m := 8) (.inl rfl) hc
    have hcM := hI.cM
    have hcC := hI.cC
    have hcS := hI.cS
    have X1 : Hid (bits .xor .u8 (y : Int) (gmul 8 c (byt u k) : Nat) = ((y ^^^ gmul 8 c (byt u k) : Nat) : Int)) := xor_u8 _ _ (by omega) (by omega)
    have HL := Lib.hid hlen
    have HR := Lib.hid hrow
    have HY := Lib.hid hy
    have HI := Lib.hid hI
    have HW : Hid (Laid W) := (fun (z : Laid W) => z) ⟨(World.cell?_of_block (hI.grown.block 0 (by omega) (by simp; omega))).trans hlaid.c0, (World.cell?_of_block (hI.grown.block 0 (by omega) (by simp; omega))).trans hlaid.c1, (World.cell?_of_block (hI.grown.block 0 (by omega) (by simp; omega))).trans hlaid.c2, (World.cell?_of_block (hI.grown.block 0 (by omega) (by simp; omega))).trans hlaid.c3⟩
    have es : symAt 8 u k = (k, byt u k) := rfl
    rw [es]
    clear hlen hrow hy hI
    gi_wp2
    refine ⟨trivial, rfl, (CallsIn.inRound l (callsIn_wide.2 (product_any 8 c (byt u k) (.inl rfl) hc hbl W HW.out))).mono ?_⟩
    rintro e W1 ⟨rfl, hy1⟩
    have hcell1 := ext_cell hy1 hcell
    have hfr1 : W1.frozen? ⟨g, k, none⟩ = false := (hy1.frozen (p := ⟨g, k, none⟩) (Array.getElem?_eq_some_iff.1 HR.out).1).trans hfr
    have hcM1 := ext_cell hy1 hcM
    have hcS1 := ext_cell hy1 hcS
    have HI1 : Hid (AccI w g 8 c u cs.length cap ⟨w.heap.size + 1 + 1 + 1, 0, none⟩ ⟨w.heap.size + 1 + 1 + 1 + 1, 0, none⟩ (accL 8 c u cs ((symsTo 8 u k).length * (8 / 8))) W1) := HI.out.keep (KeepB.of_ext hy1 (by have := hx0.size; omega)) (Nat.le_refl _)
    have hyo := keepsOthers_of_ext hy1
    have HYO := Lib.hid hyo
    clear hcell hfr hcM hcS hy1 hyo
    gi_wp2
    refine wpIn_loop_rounds 2 ?_
    rw [roundsIn_succ]
    gi_wp2
    rw [roundsIn_succ]
    gi_wp2
    refine ⟨HYO.out.trans (KeepsOthers.setCell _ _ _), ?_⟩
    rw [X1.out]
    have hfin := HI1.out.set hlt (by simp; omega) (by simp; omega) k (y ^^^ gmul 8 c (byt u k))
    rw [HL.out, show 8 / 8 = 1 from rfl, Nat.mul_one, HY.out] at hfin
    have e := accL_succ 8 c u cs k hkl
    rw [show scB 8 c u k = gmul 8 c (byt u k) from rfl] at e
    rw [← e] at hfin
    rw [HY.out]
    dsimp only
    rw [List.length_append, HL.out, show 8 / 8 = 1 from rfl, Nat.mul_one]
    exact hfin
  case done =>
    rintro D xs W rfl hI hD hK
    have hne : D ≠ g := by have := hx0.size; omega
    have hrow := hI.row
    have hlen : (symsTo 8 u (symCount 8 u)).length * (8 / 8) = cs.length := by simp [symsTo, symCount, hn]
    rw [hlen] at hrow
    have HWR : Hid (Wrote w g 5 (byteVals (accL 8 c u cs cs.length)) (W.putObj D (.deferred none))) :=
      ⟨⟨hI.grown.os, hI.grown.tape, hI.grown.output, by have := hI.grown.size; simpa using this, fun i hi hn' => (World.putObj_heap_other (by have := hx0.size; omega)).trans (hI.grown.block i hi hn')⟩, (World.putObj_heap_other (fun e => hne e.symm)).trans hrow⟩
    clear hrow hlen hI
    gi_wp2
    refine ⟨by simp, .inl ⟨_, _, rfl, run_takeDeferred hK, ?_⟩⟩
    exact ⟨_, results_none rfl _ _ _, rfl, HWR.out⟩
  case stop =>
    rintro D pre W _ h _
    exact h.elim

set_option maxRecDepth 100000 in
set_option maxHeartbeats 1000000 in
theorem accumulate16_any (c : Nat) (hc : c < 65536) (cs : List Nat) (hb : ∀ x ∈ cs, x < 256) (u : ByteArray) (hn : u.size = cs.length) (h2 : u.size % 2 = 0) (hl : u.size ≤ 140737488355328) (g cap : Nat) (w : World) (hlaid : Laid w) (hg0 : 0 < g) (hg : w.heap[g]? = some (.cells (byteVals cs) 5 (0, 0))) :
    Calls Tryd.prog 68 #[.slice (some ⟨g, 0, none⟩) cs.length cap, .int .i64 16, .int .i64 c, .string u] w fun e w' => e = .returned (.tuple #[]) ∧ Wrote w g 5 (byteVals (accL 16 c u cs cs.length)) w' := by
  refine (callsIn_wide (n := 0)).1 ?_
  refine callsIn_of_wp_marks Tryd.func68 rfl trivial ?_ rfl
  simp only [Tryd.ntmps68, List.size_toArray, List.length_cons, List.length_nil, Nat.reduceAdd, Nat.reduceSub, Array.replicate_succ, Array.replicate_zero, List.push_toArray, List.append_toArray, List.nil_append, List.cons_append]
  gi_wp2
  have hlt : g < w.heap.size := (Array.getElem?_eq_some_iff.1 hg).1
  refine ⟨trivial, rfl, (callsIn_wide.2 (symbols_any 16 u _)).mono ?_⟩
  rintro e w1 ⟨rfl, hx1, hp1, hp2⟩
  have hx0 : Ext w w1 := ext_trans (ext_alloc (ext_alloc (ext_alloc (ext_refl w) _) _) _) hx1
  have hc0 : w1.cell? ⟨w.heap.size, 0, none⟩ = some (.slice (some ⟨g, 0, none⟩) cs.length cap) := ext_cell hx1 (by simp [go_sem])
  have hc1 : w1.cell? ⟨w.heap.size + 1, 0, none⟩ = some (.int .i64 16) := ext_cell hx1 (by simp [go_sem])
  have hc2 : w1.cell? ⟨w.heap.size + 1 + 1, 0, none⟩ = some (.int .i64 c) := ext_cell hx1 (by simp [go_sem])
  simp only [World.size_alloc] at hp1 hp2
  have H0 : Hid (AccI w g 16 c u cs.length cap _ _ (accL 16 c u cs (([] : List (Nat × Nat)).length * (16 / 8))) w1) :=
    ⟨⟨hx0.os, hx0.tape, hx0.output, hx0.size, fun k hk _ => hx0.block k hk⟩, by simp only [List.length_nil, Nat.zero_mul, accL_zero]; exact (hx0.block _ hlt).trans hg, hc0, hc1, hc2, hp1, hp2⟩
  gi_wp2
  refine wpIn_range_x (gf := 105) rfl entersF_symbols1 (symbols16_seq u hl _ _) (fun _ => rfl)
    (fun pre W => AccI w g 16 c u cs.length cap ⟨w.heap.size + 1 + 1 + 1, 0, none⟩ ⟨w.heap.size + 1 + 1 + 1 + 1, 0, none⟩ (accL 16 c u cs (pre.length * (16 / 8))) W) (fun _ _ _ => False)
    (fun s A B h k => h.keep k hx0.size) (fun _ _ _ h _ => h) (fun s W h => ⟨h.q1, h.q2⟩) H0.out (fun x => { tmps := #[.slice (some ⟨g, 0, none⟩) cs.length cap, .int .i64 16, .int .i64 c, .string u, .pointer (some ⟨w.heap.size, 0, none⟩), .pointer (some ⟨w.heap.size + 1, 0, none⟩), .pointer (some ⟨w.heap.size + 1 + 1, 0, none⟩), undef, .int .i64 (x.1 : Int), .int .i64 (x.2 : Int), undef, .int .i64 16, .string u, .func (.func 105) #[] #[.pointer (some ⟨w.heap.size + 1 + 1 + 1, 0, none⟩), .pointer (some ⟨w.heap.size + 1 + 1 + 1 + 1, 0, none⟩)], .int .i64 (x.1 : Int), .int .i64 (x.2 : Int), undef, undef, undef, undef, undef, undef, undef, undef, undef, undef, undef, undef, undef, undef, undef, undef, undef, undef, undef, undef, undef, undef, undef, undef], defers := [] }) ?assign ?body ?done ?stop
  case assign =>
    intro l x W K hK
    simp only [symEnc]
    gi_wp2
    exact hK
  case body =>
    rintro l pre x W hI ⟨k, hk, rfl, rfl⟩ hsz
    have hkl : 2 * k + 1 < cs.length := by have : symCount 16 u = u.size / 2 := rfl; omega
    have hlen : (symsTo 16 u k).length * (16 / 8) = 2 * k := by simp [symsTo]; omega
    have hrow := hI.row
    rw [hlen] at hrow
    obtain ⟨j, hj⟩ : ∃ j, j = 2 * k := ⟨_, rfl⟩
    have HJ := Lib.hid hj
    rw [← hj] at hrow hkl
    have hj0 : j < cs.length := Nat.lt_of_succ_lt hkl
    have hcell0 : W.cell? ⟨g, j, none⟩ = some (.int .u8 (cs[j]'hj0 : Nat)) := by
      rw [cell_of_row W g j _ _ _ hrow, byteVals_get _ _ (by rw [accL_length]; omega), accL_get _ _ _ _ _ _ hj0, if_neg (by omega)]
    have hcell1 : W.cell? ⟨g, j + 1, none⟩ = some (.int .u8 (cs[j + 1] : Int)) := by
      rw [cell_of_row W g (j + 1) _ _ _ hrow, byteVals_get _ _ (by rw [accL_length]; exact hkl), accL_get _ _ _ _ _ _ hkl, if_neg (by omega)]
    have hfr0 : W.frozen? ⟨g, j, none⟩ = false := frozen_of_row W g j _ _ hrow
    have hfr1 : W.frozen? ⟨g, j + 1, none⟩ = false := frozen_of_row W g (j + 1) _ _ hrow
    have hb0 : cs[j]'hj0 < 256 := hb _ (List.getElem_mem _)
    have hb1 : cs[j + 1] < 256 := hb _ (List.getElem_mem hkl)
    obtain ⟨y0, hy0⟩ : ∃ y, y = cs[j]'hj0 := ⟨_, rfl⟩
    obtain ⟨y1, hy1⟩ : ∃ y, y = cs[j + 1] := ⟨_, rfl⟩
    rw [← hy0] at hcell0 hb0
    rw [← hy1] at hcell1 hb1
    obtain ⟨x, hx⟩ : ∃ x, x = (symAt 16 u k).2 := ⟨_, rfl⟩
    have hxl : x < 65536 := by rw [hx]; exact symAt_lt 16 (.inr rfl) u k
    have es : symAt 16 u k = (j, x) := by rw [hx, hj]; rfl
    rw [es]
    obtain ⟨z, hz⟩ : ∃ z, z = gmul 16 c x := ⟨_, rfl⟩
    have hzl : z < 65536 := by rw [hz]; exact gmul_lt (m := 16) (.inr rfl) hc
    have hcM := hI.cM
    have hcC := hI.cC
    have hcS := hI.cS
    have X1 : Hid (bits .xor .u8 (y1 : Int) ((z : Int) % 256) = ((y1 ^^^ z % 256 : Nat) : Int)) := by
      have := xor_u8 y1 (z % 256) (by omega) (by omega)
      rw [Int.natCast_emod] at this
      exact this
    have X0 : Hid (bits .xor .u8 (y0 : Int) ((z : Int) / 256) = ((y0 ^^^ z / 256 : Nat) : Int)) := by
      have := xor_u8 y0 (z / 256) (by omega) (by omega)
      rw [Int.natCast_ediv] at this
      exact this
    have S1 : Hid (scB 16 c u (j + 1) = z % 256) := by
      show _ = _
      have e : (j + 1) / 2 = k := by omega
      rw [scB, if_neg (by decide), if_neg (by omega), e, ← hx, ← hz]
    have S0 : Hid (scB 16 c u j = z / 256) := by
      show _ = _
      have e : j / 2 = k := by omega
      rw [scB, if_neg (by decide), if_pos (by omega), e, ← hx, ← hz]
    have HL := Lib.hid hlen
    have HR := Lib.hid hrow
    have HY0 := Lib.hid hy0
    have HY1 := Lib.hid hy1
    have HZ := Lib.hid hz
    have HI := Lib.hid hI
    have HW : Hid (Laid W) := (fun (z : Laid W) => z) ⟨(World.cell?_of_block (hI.grown.block 0 (by omega) (by simp; omega))).trans hlaid.c0, (World.cell?_of_block (hI.grown.block 0 (by omega) (by simp; omega))).trans hlaid.c1, (World.cell?_of_block (hI.grown.block 0 (by omega) (by simp; omega))).trans hlaid.c2, (World.cell?_of_block (hI.grown.block 0 (by omega) (by simp; omega))).trans hlaid.c3⟩
    clear hlen hrow hy0 hy1 hI hj hx es hz
    gi_wp2
    refine ⟨trivial, rfl, (CallsIn.inRound l (callsIn_wide.2 (product_any 16 c x (.inr rfl) hc hxl W HW.out))).mono ?_⟩
    rintro e W1 ⟨rfl, hyy⟩
    rw [← HZ.out]
    have hcell0' := ext_cell hyy hcell0
    have hcell1' := ext_cell hyy hcell1
    have hfr0' : W1.frozen? ⟨g, j, none⟩ = false := (hyy.frozen (p := ⟨g, j, none⟩) (Array.getElem?_eq_some_iff.1 HR.out).1).trans hfr0
    have hfr1' : W1.frozen? ⟨g, j + 1, none⟩ = false := (hyy.frozen (p := ⟨g, j + 1, none⟩) (Array.getElem?_eq_some_iff.1 HR.out).1).trans hfr1
    have hcM1 := ext_cell hyy hcM
    have hcS1 := ext_cell hyy hcS
    have HI1 : Hid (AccI w g 16 c u cs.length cap ⟨w.heap.size + 1 + 1 + 1, 0, none⟩ ⟨w.heap.size + 1 + 1 + 1 + 1, 0, none⟩ (accL 16 c u cs ((symsTo 16 u k).length * (16 / 8))) W1) := HI.out.keep (KeepB.of_ext hyy (by have := hx0.size; omega)) (Nat.le_refl _)
    have hyo := keepsOthers_of_ext hyy
    have HYO := Lib.hid hyo
    clear hcell0 hcell1 hfr0 hfr1 hcM hcS hyy hyo
    gi_wp2
    refine wpIn_loop_rounds 3 ?_
    rw [roundsIn_succ]
    gi_wp2
    rw [roundsIn_succ]
    gi_wp2
    rw [roundsIn_succ]
    gi_wp2
    refine ⟨(HYO.out.trans (KeepsOthers.setCell _ _ _)).trans (KeepsOthers.setCell _ _ _), ?_⟩
    rw [X1.out, X0.out]
    have hfin := (HI1.out.set hlt (by simp; omega) (by simp; omega) (j + 1) (y1 ^^^ z % 256)).set hlt (by simp; omega) (by simp; omega) j (y0 ^^^ z / 256)
    have e0 := accL_succ 16 c u cs j hj0
    have e1 := accL_succ 16 c u cs (j + 1) hkl
    rw [e0, S0.out, S1.out, ← HY0.out, ← HY1.out] at e1
    rw [HL.out, ← HJ.out, List.set_comm _ _ (by omega), ← e1] at hfin
    dsimp only
    have e2 : (symsTo 16 u k ++ [(j, x)]).length * (16 / 8) = j + 1 + 1 := by
      rw [List.length_append, Nat.add_mul, HL.out, ← HJ.out]
      rfl
    rw [e2]
    exact hfin
  case done =>
    rintro D xs W rfl hI hD hK
    have hne : D ≠ g := by have := hx0.size; omega
    have hrow := hI.row
    have hlen : (symsTo 16 u (symCount 16 u)).length * (16 / 8) = cs.length := by simp [symsTo, symCount, hn]; omega
    rw [hlen] at hrow
    have HWR : Hid (Wrote w g 5 (byteVals (accL 16 c u cs cs.length)) (W.putObj D (.deferred none))) :=
      ⟨⟨hI.grown.os, hI.grown.tape, hI.grown.output, by have := hI.grown.size; simpa using this, fun i hi hn' => (World.putObj_heap_other (by have := hx0.size; omega)).trans (hI.grown.block i hi hn')⟩, (World.putObj_heap_other (fun e => hne e.symm)).trans hrow⟩
    clear hrow hlen hI
    gi_wp2
    refine ⟨by simp, .inl ⟨_, _, rfl, run_takeDeferred hK, ?_⟩⟩
    exact ⟨_, results_none rfl _ _ _, rfl, HWR.out⟩
  case stop =>
    rintro D pre W _ h _
    exact h.elim

end Go.Proofs.YtgflflpeilfinaaDoor
