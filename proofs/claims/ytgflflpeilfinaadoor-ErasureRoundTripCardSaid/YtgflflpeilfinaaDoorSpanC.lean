/- The walk of (*span).reduce. -/
import Derived.Test.YtgflflpeilfinaaDoorSpanB
import Derived.Deep.RegionHeld3
set_option linter.unusedVariables false
set_option linter.unusedSimpArgs false
namespace Go.Proofs.YtgflflpeilfinaaDoor
open Go.RowKit

theorem subtract_len (m : Nat) (hm : Fm m) (C K : Nat) (rest coef : List Nat) (r : Red) (eC : rest.length = C) (eK : coef.length = K) (hcol : r.col < C) (hrl : r.row.length = C) (hcl : r.coef.length = K) (hb1 : Bl m rest) (hb2 : Bl m coef) (hb3 : Bl m r.row) (hb4 : Bl m r.coef)
    (hn1 : C ≤ 1000) (hn2 : K ≤ 1000) (base S g1 g2 c1 a1 a2 a3 : Nat) (v1 v2 : Value) (w : World) (hl : Laid w) (hS : w.cell? ⟨S, 1, none⟩ = some (.int .i64 m))
    (p1 : w.cell? ⟨a1, 0, none⟩ = some (.slice (some ⟨g1, 0, none⟩) C c1)) (p2 : w.cell? ⟨a2, 0, none⟩ = some (.pointer (some ⟨S, 0, none⟩))) (p3 : w.cell? ⟨a3, 0, none⟩ = some (.slice (some ⟨g2, 0, none⟩) K K))
    (hne : a1 ≠ g1 ∧ a1 ≠ g2 ∧ a2 ≠ g1 ∧ a2 ≠ g2 ∧ a3 ≠ g1 ∧ a3 ≠ g2 ∧ S ≠ g1 ∧ S ≠ g2 ∧ g1 ≠ g2 ∧ 0 < g1 ∧ 0 < g2) (hv1 : RInts w v1 (nints r.row)) (hv2 : RInts w v2 (nints r.coef)) (ho1 : Off2 v1 g1 g2) (ho2 : Off2 v2 g1 g2)
    (h1 : w.ownsRow base 3 1 (.slice (some ⟨g1, 0, none⟩) C c1) C (nvs rest)) (h2 : w.ownsRow base 3 1 (.slice (some ⟨g2, 0, none⟩) K K) K (nvs coef)) :
    Calls Tryd.prog 94 (#[.agg #[.int .i64 r.col, v1, v2]] ++ #[.pointer (some ⟨a1, 0, none⟩), .pointer (some ⟨a2, 0, none⟩), .pointer (some ⟨a3, 0, none⟩)]) w fun e w' => e = .returned (.tuple #[]) ∧
      w'.ownsRow base 3 1 (.slice (some ⟨g1, 0, none⟩) C c1) C (nvs (redStep m (rest, coef) r).1) ∧
      w'.ownsRow base 3 1 (.slice (some ⟨g2, 0, none⟩) K K) K (nvs (redStep m (rest, coef) r).2) ∧ Grown2 w w' g1 g2 := by
  subst eC
  subst eK
  exact subtract_any m hm rest coef r hcol hrl hcl hb1 hb2 hb3 hb4 hn1 hn2 base S g1 g2 c1 coef.length a1 a2 a3 v1 v2 w hl hS p1 p2 p3 hne hv1 hv2 ho1 ho2 h1 h2
theorem redL_ok {m C K : Nat} (hm : Fm m) {row : List Nat} (hrow : row.length = C) (hbr : Bl m row) {reds : List Red} (hgood : ∀ r ∈ reds, r.col < C ∧ r.row.length = C ∧ r.coef.length = K ∧ Bl m r.row ∧ Bl m r.coef) :
    ∀ i, i ≤ reds.length → (redL m reds row K i).1.length = C ∧ (redL m reds row K i).2.length = K ∧ Bl m (redL m reds row K i).1 ∧ Bl m (redL m reds row K i).2
  | 0, _ => ⟨hrow, by simp [redL], hbr, Bl_zeros m K⟩
  | i + 1, hi => by
    obtain ⟨h1, h2, h3, h4⟩ := redL_ok hm hrow hbr hgood i (by omega)
    obtain ⟨g1, g2, g3, g4, g5⟩ := hgood (rd reds i) (by rw [rd_get (by omega)]; exact List.getElem_mem _)
    simp only [redL, redStep]
    exact ⟨by rw [addL_len]; exact h1, by rw [addL_len]; exact h2, Bl.addL hm (h3.ate _) h3 g4, Bl.addL hm (h3.ate _) h4 g5⟩

/-- A slice of reduced rows reads as the list. -/
def RReds (w : World) (v : Value) (reds : List Red) : Prop :=
  ∃ A c, v = .slice A reds.length c ∧ ∀ i, i < reds.length → ∃ b o v1 v2, A = some ⟨b, o, none⟩ ∧ w.cell? ⟨b, o + i * 3, none⟩ = some (.int .i64 ((rd reds i).col : Nat)) ∧
    w.cell? ⟨b, o + i * 3 + 1, none⟩ = some v1 ∧ w.cell? ⟨b, o + i * 3 + 2, none⟩ = some v2 ∧ RInts w v1 (nints (rd reds i).row) ∧ RInts w v2 (nints (rd reds i).coef)
theorem RReds.ext {w w' : World} {v : Value} {reds : List Red} (h : RReds w v reds) (hx : Ext w w') : RReds w' v reds := by
  obtain ⟨A, c, e, h⟩ := h
  refine ⟨A, c, e, fun i hi => ?_⟩
  obtain ⟨b, o, v1, v2, h1, h2, h3, h4, h5, h6⟩ := h i hi
  exact ⟨b, o, v1, v2, h1, ext_cell hx h2, ext_cell hx h3, ext_cell hx h4, RInts.ext h5 hx, RInts.ext h6 hx⟩

/-- What the first statement of reduce leaves, whatever the order was. -/
structure RedF (w0 W : World) (C K : Nat) (row : List Nat) (g1 c1 g2 a1 a2 : Nat) : Prop where
  ext : Ext w0 W
  own1 : W.ownsRow w0.heap.size 3 1 (.slice (some ⟨g1, 0, none⟩) C c1) C (nvs row)
  own2 : W.ownsRow w0.heap.size 3 1 (.slice (some ⟨g2, 0, none⟩) K K) K (nvs (List.replicate K 0))
  p1 : W.cell? ⟨a1, 0, none⟩ = some (.slice (some ⟨g1, 0, none⟩) C c1)
  p2 : W.cell? ⟨a2, 0, none⟩ = some (.slice (some ⟨g2, 0, none⟩) K K)
  ne : a1 ≠ g1 ∧ a1 ≠ g2 ∧ a2 ≠ g1 ∧ a2 ≠ g2 ∧ g1 ≠ g2
  le : w0.heap.size ≤ a1 ∧ w0.heap.size ≤ a2 ∧ w0.heap.size ≤ g1 ∧ w0.heap.size ≤ g2
theorem own_zero {w : World} {g base K : Nat} (h : w.heap[g]? = some (.cells (Array.replicate K (.int .i64 0)) 3 (0, 0))) (hb : base ≤ g) (hK : K ≤ 32) : w.ownsRow base 3 1 (.slice (some ⟨g, 0, none⟩) K K) K (nvs (List.replicate K 0)) := by
  have e : (nvs (List.replicate K 0)).toArray = Array.replicate K (.int .i64 0) := by simp [nvs, nints, ivs]
  exact own_of_row (by rw [e]; exact h) hb (by rw [nvs_len]; simp) (by unfold maxLen; omega)
theorem set_cell1 {W : World} {g t : Nat} {u : Value} (h : W.heap[g]? = some (.cells #[u] t (0, 0))) (v : Value) : (W.setCell ⟨g, 0, none⟩ v).heap[g]? = some (.cells #[v] t (0, 0)) := by
  have := set_cells (i := 0) h v
  simpa using this
theorem row_drew {w : World} {g : Nat} {o : Obj} (h : w.heap[g]? = some o) : w.drew.heap[g]? = some o := h
theorem rest6 {F : World → Nat → Nat → Nat → Nat → Nat → Prop} {Cc : World → Nat → Nat → Nat → Nat → Nat → Prop} {goal : Prop} (h1 : (∀ W g1 c1 g2 a1 a2, F W g1 c1 g2 a1 a2 → Cc W g1 c1 g2 a1 a2) → goal) (h2 : ∀ W g1 c1 g2 a1 a2, F W g1 c1 g2 a1 a2 → Cc W g1 c1 g2 a1 a2) : goal := h1 h2

theorem bcell {W w1 : World} (hb : Ext W w1) : (∀ b o, b < W.heap.size → w1.cell? ⟨b, o, none⟩ = W.cell? ⟨b, o, none⟩) ∧ (∀ b o, b < W.heap.size → w1.frozen? ⟨b, o, none⟩ = W.frozen? ⟨b, o, none⟩) :=
  ⟨fun b o h => Below.cell hb (p := ⟨b, o, none⟩) h, fun b o h => Below.frozen hb (p := ⟨b, o, none⟩) h⟩

set_option maxRecDepth 100000 in
set_option maxHeartbeats 4000000 in
theorem spanReduce_any (m C K : Nat) (hm : Fm m) (hC0 : 0 < C) (hC : C ≤ 32) (hK : K ≤ 32) (row : List Nat) (hrow : row.length = C) (hbr : Bl m row) (reds : List Red) (hrn : reds.length ≤ 32) (hK0 : 0 < reds.length → 0 < K)
    (hgood : ∀ r ∈ reds, r.col < C ∧ r.row.length = C ∧ r.coef.length = K ∧ Bl m r.row ∧ Bl m r.coef) (S cb : Nat) (Ab : Option Addr) (vr vrow : Value) (w : World) (hl : Laid w)
    (hS1 : w.cell? ⟨S, 1, none⟩ = some (.int .i64 m)) (hS5 : w.cell? ⟨S, 5, none⟩ = some (.slice Ab K cb)) (hS6 : w.cell? ⟨S, 6, none⟩ = some vr) (hr : RReds w vr reds) (hv : RInts w vrow (nints row)) :
    Calls Tryd.prog 75 #[.pointer (some ⟨S, 0, none⟩), vrow] w fun e w' => ∃ g1 c1 g2, e = .returned (.tuple #[.slice (some ⟨g1, 0, none⟩) C c1, .slice (some ⟨g2, 0, none⟩) K K]) ∧
      w'.ownsRow w.heap.size 3 1 (.slice (some ⟨g1, 0, none⟩) C c1) C (nvs (redL m reds row K reds.length).1) ∧
      w'.ownsRow w.heap.size 3 1 (.slice (some ⟨g2, 0, none⟩) K K) K (nvs (redL m reds row K reds.length).2) ∧ g1 ≠ g2 ∧ Ext w w' := by
  have HV := Lib.hid hv
  have HR := Lib.hid hr
  have HM := Lib.hid hm
  have HG := Lib.hid hgood
  have HB := Lib.hid hbr
  have HRL := Lib.hid hrow
  obtain ⟨Av, cv, rfl, -, -⟩ := hv
  have hnl : (List.map (Value.int .i64) (nints row)).length = C := by have := nvs_len row; rw [show List.map (Value.int .i64) (nints row) = nvs row from rfl, this, hrow]
  rw [hnl] at HV ⊢
  have HCL : Hid (∀ W, Ext w W → Calls Tryd.prog 93 #[.slice Av C cv] W fun e w' => ∃ g1 c1, e = .returned (.slice (some ⟨g1, 0, none⟩) C c1) ∧ w'.ownsRow W.heap.size 3 1 (.slice (some ⟨g1, 0, none⟩) C c1) C (nvs row) ∧ Ext W w') := by
    show ∀ W, _ → _
    intro W hx
    have hlen : (nints row).length = C := by rw [← hrow]; simp [nints]
    refine (clone_int (nints row) _ W (RInts.ext HV.out hx) (by omega)).mono ?_
    rintro e w' ⟨v', rfl, ho, hx'⟩
    rw [hlen] at ho
    obtain ⟨g, c, rfl⟩ := own_some ho hC0
    exact ⟨g, c, rfl, ho, hx'⟩
  have hmk := fun W => make_zero (P := Tryd.prog) W 29 3 _ (.int .i64 0) 8 Tryd.underlying29 rfl rfl rfl rfl rfl K (by omega) (by omega)
  simp only [List.toArray_replicate] at hmk
  have hx0 : Ext w (w.alloc (.cells #[.pointer (some ⟨S, 0, none⟩)] 76)) := ext_alloc (ext_refl w) _
  clear hm hr hgood hbr hnl hrow
  go_enter Tryd.func75, Tryd.ntmps75
  go_wp2_with fail
  have b0 : (w.alloc (.cells #[.pointer (some ⟨S, 0, none⟩)] 76)).cell? ⟨w.heap.size, 0, none⟩ = some (.pointer (some ⟨S, 0, none⟩)) := by simp [go_sem]
  have b5 := ext_cell hx0 hS5
  have hsz : (w.alloc (.cells #[.pointer (some ⟨S, 0, none⟩)] 76)).heap.size = w.heap.size + 1 := by simp
  obtain ⟨W0, hW0⟩ : ∃ W0, W0 = w.alloc (.cells #[.pointer (some ⟨S, 0, none⟩)] 76) := ⟨_, rfl⟩
  rw [← hW0] at hx0 b0 b5 hsz ⊢
  have HSZ := Lib.hid hsz
  have hlt0 : w.heap.size < W0.heap.size := by omega
  clear hW0 hsz
  have hxc : Ext W0 W0 := ext_refl W0
  rename_i Q1 K1 hK1
  refine rest6 (F := fun W g1 c1 g2 a1 a2 => RedF W0 W C K row g1 c1 g2 a1 a2) (Cc := fun W g1 c1 g2 a1 a2 => Exit.then K1 Q1 Exit.normal { tmps := #[.pointer (some ⟨S, 0, none⟩), .slice Av C cv, .pointer (some ⟨w.heap.size, 0, none⟩), undef, .slice none 0 0, .slice none 0 0, .pointer (some ⟨a1, 0, none⟩), .pointer (some ⟨a2, 0, none⟩), undef, undef, undef, .slice Av C cv, .slice (some ⟨g1, 0, none⟩) C c1, .pointer (some ⟨S, 0, none⟩), .pointer (some ⟨S, 0, none⟩), .pointer (some ⟨S, 5, none⟩), .slice Ab K cb, .int .i64 K, .slice (some ⟨g2, 0, none⟩) K K, undef, undef, undef, undef, undef, undef, undef, undef, undef, undef, undef, undef, undef, undef, undef, undef], defers := [] } W) ?_ ?_
  rotate_left
  · intro W g1 c1 g2 a1 a2 hF
    obtain ⟨hxF, own1, own2, p1, p2, ⟨n1, n2, n3, n4, n5⟩, ⟨l1, l2, l3, l4⟩⟩ := hF
    obtain ⟨Ar, cr, rfl, hred⟩ := HR.out
    have hxW := ext_trans hx0 hxF
    have hRed := Lib.hid hred
    have b0 := ext_cell hxF b0
    have bS1 := ext_cell hxW hS1
    have bS6 := ext_cell hxW hS6
    have hSlt : S < w.heap.size := World.block_lt_of_cell? w _ hS1
    have hlp := hl.pos
    have hl1 := Lib.hid (hl.ext hxW)
    have HO1 := Lib.hid own1
    have HO2 := Lib.hid own2
    have HLK := Lib.hid (redL_ok HM.out HRL.out HB.out HG.out)
    have hxc : Grown2 W W g1 g2 := Grown2.refl _ _ _
    clear hred own1 own2 hxc hmk hS1 hS6 hS5 b5
    show Exit.then K1 Q1 Exit.normal _ W
    go_wp2_with fail
    go_loopw [25] (fun iv wr => ∃ i : Nat, i ≤ reds.length ∧ iv = .int .i64 i ∧ Hid (wr.ownsRow W0.heap.size 3 1 (.slice (some ⟨g1, 0, none⟩) C c1) C (nvs (redL m reds row K i).1)) ∧ Hid (wr.ownsRow W0.heap.size 3 1 (.slice (some ⟨g2, 0, none⟩) K K) K (nvs (redL m reds row K i).2)) ∧ Hid (Grown2 W wr g1 g2)) (fun iv _ => reds.length - (intOf iv).toNat)
    case atStart => exact ⟨0, Nat.zero_le _, rfl, HO1.out, HO2.out, Grown2.refl _ _ _⟩
    case round =>
      obtain ⟨i, hi, rfl, ho1, ho2, hg⟩ := hrel
      by_cases hlt : i < reds.length
      · obtain ⟨b, o, v1, v2, hA, h0, h1, h2, hr1, hr2⟩ := hRed.out i hlt
        subst hA
        have hbw : b < w.heap.size := World.block_lt_of_cell? w _ h0
        have hK0' := hK0 (by omega)
        have r0 := hg.out.cell (ext_cell hxW h0) (by show b ≠ _; omega) (by show b ≠ _; omega)
        have r1 := hg.out.cell (ext_cell hxW h1) (by show b ≠ _; omega) (by show b ≠ _; omega)
        have r2 := hg.out.cell (ext_cell hxW h2) (by show b ≠ _; omega) (by show b ≠ _; omega)
        obtain ⟨q1, q2, q3, q4⟩ := HLK.out i (by omega)
        obtain ⟨e1, e2, e3, e4, e5⟩ := HG.out (rd reds i) (by rw [rd_get hlt]; exact List.getElem_mem _)
        have off1 := Lib.hid (off2_of_lt hr1 (g1 := g1) (g2 := g2) (by omega) (by omega) (by simp [nints, e2]; omega))
        have off2 := Lib.hid (off2_of_lt hr2 (g1 := g1) (g2 := g2) (by omega) (by omega) (by simp [nints, e3]; omega))
        have HR1 := Lib.hid hr1
        have HR2 := Lib.hid hr2
        obtain ⟨A1, k1, rfl, -, -⟩ := hr1
        obtain ⟨A2, k2, rfl, -, -⟩ := hr2
        have hN1 : (List.map (Value.int .i64) (nints (rd reds i).row)).length = C := by simp [nints, e2]
        have hN2 : (List.map (Value.int .i64) (nints (rd reds i).coef)).length = K := by simp [nints, e3]
        rw [hN1] at HR1 off1 r1
        rw [hN2] at HR2 off2 r2
        have HSUB := Lib.hid fun Wx u1 u2 u3 u4 u5 u6 u7 u8 u9 => subtract_len m HM.out C K (redL m reds row K i).1 (redL m reds row K i).2 (rd reds i) q1 q2 e1 e2 e3 q3 q4 e4 e5 (by omega) (by omega) W0.heap.size S g1 g2 c1 a1 w.heap.size a2 (.slice A1 C k1) (.slice A2 K k2) Wx u1 u2 u3 u4 u5 ⟨by omega, by omega, by omega, by omega, by omega, by omega, by omega, by omega, by omega, by omega, by omega⟩ u6 u7 off1.out off2.out u8 u9
        have hx9 : Ext wr (wr.alloc (.cells #[.int .i64 ((rd reds i).col : Nat), .slice A1 C k1, .slice A2 K k2] 103)) := ext_alloc (ext_refl wr) _
        have pS := hg.out.cell bS1 (by show S ≠ _; omega) (by show S ≠ _; omega)
        have pa1 := hg.out.cell p1 (by show a1 ≠ _; omega) (by show a1 ≠ _; omega)
        have pa2 := hg.out.cell p2 (by show a2 ≠ _; omega) (by show a2 ≠ _; omega)
        have pb := hg.out.cell b0 (by show w.heap.size ≠ _; omega) (by show w.heap.size ≠ _; omega)
        have hext : Hid (Ext w wr) := hg.out.ext hxW (by omega) (by omega)
        have hlr := Lib.hid ((hl.ext hext.out).ext hx9)
        have HV1 := Lib.hid (RInts.ext (RInts.ext HR1.out hext.out) hx9)
        have HV2 := Lib.hid (RInts.ext (RInts.ext HR2.out hext.out) hx9)
        have HW1 := Lib.hid (own_ext ho1.out hx9)
        have HW2 := Lib.hid (own_ext ho2.out hx9)
        clear h0 h1 h2 hN1 hN2 q1 q2 q3 q4 e1 e2 e3 e4 e5
        have pSx := ext_cell hx9 pS
        have pa1x := ext_cell hx9 pa1
        have pa2x := ext_cell hx9 pa2
        have pbx := ext_cell hx9 pb
        have hgx := Lib.hid (hg.out.trans (Grown2.of_ext hx9 g1 g2))
        obtain ⟨WX, hWX⟩ : ∃ WX, WX = wr.alloc (.cells #[.int .i64 ((rd reds i).col : Nat), .slice A1 C k1, .slice A2 K k2] 103) := ⟨_, rfl⟩
        go_wp2_with fail
        refine (HSUB.out _ hlr.out pSx pa1x pbx pa2x HV1.out HV2.out HW1.out HW2.out).mono ?_
        rintro e w4 ⟨rfl, hw1, hw2, hg4⟩
        have HN1 := Lib.hid hw1
        have HN2 := Lib.hid hw2
        have HG4 := Lib.hid (hgx.out.trans hg4)
        clear hw1 hw2 hg4 hWX
        go_wp2_with fail
        go_roundw
        case rel => exact ⟨i + 1, by omega, by simp, HN1.out, HN2.out, HG4.out⟩
        case measure => simp [intOf]; omega
      · have hi' : i = reds.length := by omega
        rw [hi'] at ho1 ho2
        have hext : Hid (Ext w wr) := hg.out.ext hxW (by omega) (by omega)
        have pa1 := hg.out.cell p1 (by show a1 ≠ _; omega) (by show a1 ≠ _; omega)
        have pa2 := hg.out.cell p2 (by show a2 ≠ _; omega) (by show a2 ≠ _; omega)
        have HF1 := Lib.hid (own_le (base' := w.heap.size) (Nat.le_of_lt hlt0) ho1.out)
        have HF2 := Lib.hid (own_le (base' := w.heap.size) (Nat.le_of_lt hlt0) ho2.out)
        clear hi' ho1 ho2
        go_wp2_with fail
        go_quiet (fail)
        go_wp2_with fail
        go_ret2
        exact ⟨g1, c1, g2, rfl, own_ext HF1.out (drewN_ext (ext_refl _) _), own_ext HF2.out (drewN_ext (ext_refl _) _), n5, drewN_ext hext.out _⟩
  · intro REST
    go_region_held3 (fun w' => Ext W0 w' ∧ w'.cell? ⟨w.heap.size, 0, none⟩ = some (.pointer (some ⟨S, 0, none⟩)) ∧ w'.cell? ⟨S, 5, none⟩ = some (.slice Ab K cb)) (first
        | (refine (fun (h : Ext W0 _) => ⟨h, ext_cell h b0, ext_cell h b5⟩) ?_
           repeat (first | exact ext_refl _ | refine ext_alloc ?_ _ | refine ext_drew ?_ | refine ext_trans ?_ hx3 | refine ext_set ?_ (by first | (simp [go_sem]; done) | (have := hx3.size; simp [go_sem] at this ⊢; omega)) _)))
      (first
       | (go_at_call 93
          refine (HCL.out _ (ext_trans hx0 (by repeat (first | exact ext_refl _ | refine ext_alloc ?_ _ | refine ext_drew ?_ | refine ext_set ?_ (by simp [go_sem]) _)))).mono ?_
          rintro e w3 ⟨g1, c1, rfl, ho1, hx3⟩
          obtain ⟨hc3, hf3⟩ := bcell hx3
          have hz3 := hx3.size
          try simp at hz3
          try (have k0 : W0.heap.size < w3.heap.size := by omega)
          try (have k1 : W0.heap.size + 1 < w3.heap.size := by omega)
          try (have k2 : W0.heap.size + 1 + 1 < w3.heap.size := by omega)
          try (have j0 : ¬ W0.heap.size = w3.heap.size := by omega)
          try (have j1 : ¬ W0.heap.size + 1 = w3.heap.size := by omega)
          try (have j2 : ¬ W0.heap.size + 1 + 1 = w3.heap.size := by omega)
          try (have l0 : ¬ W0.heap.size = w3.heap.size + 1 := by omega)
          try (have l1 : ¬ W0.heap.size + 1 = w3.heap.size + 1 := by omega)
          try (have l2 : ¬ W0.heap.size + 1 + 1 = w3.heap.size + 1 := by omega)
          try (have q0 : w3.cell? ⟨W0.heap.size, 0, none⟩ = some (.slice none 0 0) := by (rw [hc3 _ _ (by simp <;> omega)]; simp [go_sem]))
          try (have q1 : w3.cell? ⟨W0.heap.size + 1, 0, none⟩ = some (.slice none 0 0) := by (rw [hc3 _ _ (by simp <;> omega)]; simp [go_sem]))
          try (have q2 : w3.cell? ⟨W0.heap.size + 1 + 1, 0, none⟩ = some (.slice none 0 0) := by (rw [hc3 _ _ (by simp <;> omega)]; simp [go_sem]))
          try (have f0 : w3.frozen? ⟨W0.heap.size, 0, none⟩ = false := by (rw [hf3 _ _ (by simp <;> omega)]; simp [go_sem]))
          try (have f1 : w3.frozen? ⟨W0.heap.size + 1, 0, none⟩ = false := by (rw [hf3 _ _ (by simp <;> omega)]; simp [go_sem]))
          try (have f2 : w3.frozen? ⟨W0.heap.size + 1 + 1, 0, none⟩ = false := by (rw [hf3 _ _ (by simp <;> omega)]; simp [go_sem]))
          clear hz3 hc3 hf3))
    all_goals
      have hlt1 := (ho1.lt g1 rfl).2
      have hb1 := (ho1.lt g1 rfl).1
      have hz3 := hx3.size
      simp only [World.size_alloc, World.size_drew, World.size_setCell] at hb1 hz3
      have hxw3 : Ext W0 w3 := by
        refine ext_trans ?_ hx3
        repeat (first | exact ext_refl _ | (with_reducible refine ext_alloc ?_ _) | (with_reducible refine ext_drew ?_) | ((with_reducible refine ext_set ?_ ?_ _); rotate_left; (simp; done)))
      have hw1 := Lib.hid (own_le (base' := W0.heap.size) (by simp only [World.size_alloc, World.size_drew, World.size_setCell]; omega) ho1)
      refine REST _ g1 c1 _ _ _ ⟨?_, ?_, ?_, ?_, ?_, ?_, ?_⟩
      · first
        | (rename_i hh; exact hh.1)
        | (repeat (first | exact hxw3 | (with_reducible refine ext_alloc ?_ _) | ((with_reducible refine ext_set ?_ ?_ _); rotate_left; (first | (simp; done) | (simp; omega)))))
      · repeat (first | exact hw1.out | (with_reducible refine own_ext ?_ (ext_alloc (ext_refl _) _)) | ((with_reducible refine own_off ?_ (grown_set _ _ _) ?_); rotate_left; (first | (simp; omega) | omega)))
      · refine own_zero ?_ (by (try simp only [World.size_alloc, World.size_setCell]); omega) hK
        repeat (first | ((with_reducible refine row_alloc _ _ _ _ ?_); (first | (with_reducible rfl) | (simp only [World.size_alloc, World.size_setCell]; done))) | (with_reducible refine row_alloc_old ?_ _) | ((with_reducible refine set_row_far ?_ _ _ _ ?_); rotate_left; omega) | (with_reducible refine row_ext ?_ hx3) | (with_reducible refine row_drew ?_))
      · refine row_cell (cs := #[.slice (some ⟨g1, 0, none⟩) C c1]) (t := 29) ?_ 0 rfl
        repeat (first | ((with_reducible refine row_alloc _ _ _ _ ?_); (first | (with_reducible rfl) | (simp only [World.size_alloc, World.size_setCell]; done))) | (with_reducible refine row_alloc_old ?_ _) | (with_reducible refine set_cell1 (u := .slice none 0 0) ?_ _) | ((with_reducible refine set_row_far ?_ _ _ _ ?_); rotate_left; omega) | (with_reducible refine row_ext ?_ hx3) | (with_reducible refine row_drew ?_))
      · refine row_cell (cs := #[.slice (some ⟨_, 0, none⟩) K K]) (t := 29) ?_ 0 rfl
        repeat (first | ((with_reducible refine row_alloc _ _ _ _ ?_); (first | (with_reducible rfl) | (simp only [World.size_alloc, World.size_setCell]; done))) | (with_reducible refine row_alloc_old ?_ _) | (with_reducible refine set_cell1 (u := .slice none 0 0) ?_ _) | ((with_reducible refine set_row_far ?_ _ _ _ ?_); rotate_left; omega) | (with_reducible refine row_ext ?_ hx3) | (with_reducible refine row_drew ?_))
      · refine ⟨by omega, by omega, by omega, by omega, by omega⟩
      · refine ⟨by omega, by omega, by omega, by omega⟩

end Go.Proofs.YtgflflpeilfinaaDoor
