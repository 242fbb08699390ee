/- The walk of (*span).add: a multiple of a list is added to a row of the call's own. -/
import Derived.Test.YtgflflpeilfinaaDoorMatD
import Derived.Test.YtgflflpeilfinaaDoorLinA
set_option linter.unusedVariables false
set_option linter.unusedSimpArgs false
namespace Go.Proofs.YtgflflpeilfinaaDoor
open Go.RowKit

theorem Laid.grown {w W : World} {row : Option Nat} (h : Laid w) (hg : w.grownBy W row) (h0 : some 0 ≠ row) : Laid W :=
  ⟨hg.cell h.c0 h0, hg.cell h.c1 h0, hg.cell h.c2 h0, hg.cell h.c3 h0⟩
theorem RInts.grown {w W : World} {row : Option Nat} {v : Value} {xs : List Int} (h : RInts w v xs) (hg : w.grownBy W row) (hne : ∀ b o n c, v = .slice (some ⟨b, o, none⟩) n c → some b ≠ row) : RInts W v xs := by
  obtain ⟨A, c, rfl, hl, hs⟩ := h
  exact ⟨A, c, rfl, hl, seg_grown hs hg (fun b o e => hne b o _ _ (by rw [e]))⟩
theorem grown_ext {w W W' : World} {row : Option Nat} (h : w.grownBy W row) (hx : Ext W W') : w.grownBy W' row :=
  h.trans ⟨hx.os, hx.tape, hx.output, hx.size, fun k hk _ => hx.block k hk⟩
theorem nvs_list_set (L : List Nat) (p v : Nat) : (nvs L).set p (.int .i64 (v : Int)) = nvs (L.set p v) := by simp [nvs, nints, ivs, List.map_set]
theorem nvs_getl {L : List Nat} {p : Nat} (h : p < L.length) : (nvs L)[p]? = some (.int .i64 (L[p] : Int)) := by simp [nvs, nints, ivs, h]

set_option maxRecDepth 100000 in
set_option maxHeartbeats 2000000 in
theorem spanAdd_any (m f : Nat) (hm : Fm m) (hf : f < 2 ^ m) (tt l : List Nat) (hlen : l.length = tt.length) (hbt : Bl m tt) (hbl : Bl m l) (base S g cap : Nat) (vl : Value)
    (hne : ∀ b o n c, vl = .slice (some ⟨b, o, none⟩) n c → b ≠ g) (hSg : S ≠ g) (hg0 : 0 < g) (hn : tt.length ≤ 1000) (w : World) (hl : Laid w)
    (hS : w.cell? ⟨S, 1, none⟩ = some (.int .i64 m)) (hv : RInts w vl (nints l)) (ho : w.ownsRow base 3 1 (.slice (some ⟨g, 0, none⟩) tt.length cap) tt.length (nvs tt)) :
    Calls Tryd.prog 77 #[.pointer (some ⟨S, 0, none⟩), .slice (some ⟨g, 0, none⟩) tt.length cap, .int .i64 f, vl] w fun e w' => e = .returned (.tuple #[]) ∧
      w'.ownsRow base 3 1 (.slice (some ⟨g, 0, none⟩) tt.length cap) tt.length (nvs (addL m f tt l)) ∧ w.grownBy w' (some g) := by
  have HM := Lib.hid hm
  have HF := Lib.hid hf
  have HBT := Lib.hid hbt
  have HBL := Lib.hid hbl
  have HV := Lib.hid hv
  have HO := Lib.hid ho
  have HMP := Lib.hid (pow_lt hm)
  have HLN := Lib.hid hlen
  obtain ⟨A, c, rfl, -, -⟩ := hv
  have hll : (List.map (Value.int .i64) (nints l)).length = tt.length := by rw [show List.map (Value.int .i64) (nints l) = nvs l from rfl, nvs_len, hlen]
  rw [hll] at HV hne ⊢
  obtain ⟨n, hnn⟩ : ∃ n, n = tt.length := ⟨_, rfl⟩
  rw [← hnn] at HV hne HO hn ⊢
  have HN := Lib.hid hnn
  have H0 : Hid (w.ownsRow base 3 1 (.slice (some ⟨g, 0, none⟩) n cap) n (nvs (addK m f tt l 0))) := by
    show World.ownsRow _ _ _ _ _ _ _
    rw [addK_zero]; exact HO.out
  clear hm hf hbt hbl ho hlen hll hnn
  go_enter Tryd.func77, Tryd.ntmps77
  go_wp2_with fail
  go_loopw [14] (fun iv wr => ∃ k : Nat, k ≤ n ∧ iv = .int .i64 k ∧ Hid (wr.ownsRow base 3 1 (.slice (some ⟨g, 0, none⟩) n cap) n (nvs (addK m f tt l k))) ∧ Hid (w.grownBy wr (some g))) (fun iv _ => n - (intOf iv).toNat)
  case atStart => exact ⟨0, Nat.zero_le _, rfl, H0.out, World.grownBy.refl _ _⟩
  case round =>
    obtain ⟨k, hk, rfl, ho, hg⟩ := hrel
    by_cases hlt : k < n
    · have hkl : k < l.length := by rw [HLN.out, ← HN.out]; exact hlt
      have hkt : k < tt.length := by rw [← HN.out]; exact hlt
      obtain ⟨b, o, hA, hcl⟩ := HV.out.get k (by simpa [nints] using hkl)
      subst hA
      have hbg : b ≠ g := hne b o n c rfl
      obtain ⟨x, hx⟩ : ∃ x, x = l[k] := ⟨_, rfl⟩
      have hcl2 : w.cell? ⟨b, o + k, none⟩ = some (.int .i64 (x : Nat)) := by rw [hcl, hx]; simp [nints]
      have hcr := hg.out.cell hcl2 (fun e => hbg (by injection e))
      have hS2 := hg.out.cell hS (fun e => hSg (by injection e))
      have hxl : x < 2 ^ m := by rw [hx]; exact HBL.out _ (List.getElem_mem _)
      have HT := Lib.hid (fieldMul_any m f x HM.out HF.out hxl)
      have hlr := Lib.hid (hl.grown hg.out (fun e => by injection e; omega))
      obtain ⟨y, hy⟩ : ∃ y, y = tt[k] := ⟨_, rfl⟩
      have hyl : y < 2 ^ m := by rw [hy]; exact HBT.out _ (List.getElem_mem _)
      have hgl := gmul_lt (b := x) HM.out HF.out
      obtain ⟨p, hp⟩ : ∃ p, p = gmul m f x := ⟨_, rfl⟩
      rw [← hp] at HT hgl
      have X1 : bits .xor .i64 (y : Int) (p : Int) = ((y ^^^ p : Nat) : Int) := xor_i64 _ _ (by have := HMP.out; omega) (by have := HMP.out; omega)
      have HNX : Hid ((nvs (addK m f tt l k)).set k (.int .i64 ((y ^^^ p : Nat) : Int)) = nvs (addK m f tt l (k + 1))) := by
        show _ = _
        rw [nvs_list_set, addK_succ m f tt l k hkt, hy, hp, hx, ate_get hkl]
      have HYC : Hid ((nvs (addK m f tt l k))[k]? = some (.int .i64 (y : Nat))) := by
        show _ = _
        rw [nvs_getl (by rw [addK_len]; exact hkt), addK_get m f tt l k hkt, hy]
      clear hx hy hp hcl hcl2
      go_wp2_with fail
      refine (HT.out _ hlr.out).mono ?_
      rintro e w2 ⟨rfl, hx2⟩
      have ho2 := Lib.hid (own_ext ho.out hx2)
      have hci : w2.cell? ⟨g, k, none⟩ = some (.int .i64 (y : Nat)) := by rw [ho2.out.cellAt k (by omega), HYC.out]
      have hfz : w2.frozen? ⟨g, k, none⟩ = false := ho2.out.frozenAt k
      have hg2 := Lib.hid (grown_ext hg.out hx2)
      have HST := Lib.hid (ho2.out.stored k (.int .i64 ((y ^^^ p : Nat) : Int)))
      go_wp2_with fail
      go_roundw
      case rel => exact ⟨k + 1, by omega, by simp, by (have := HST.out.1; rw [HNX.out] at this; exact this), hg2.out.trans HST.out.2⟩
      case measure => simp [intOf]; omega
    · have hk' : k = n := by omega
      have HW : Hid (wr.ownsRow base 3 1 (.slice (some ⟨g, 0, none⟩) n cap) n (nvs (addL m f tt l))) := by
        have := ho.out
        rw [hk', HN.out, addK_all] at this
        rw [HN.out]
        exact this
      clear hk'
      go_wp2_with fail
      exact bodyPost_end (results_none rfl _ _ _) rfl ⟨rfl, HW.out, hg.out⟩

end Go.Proofs.YtgflflpeilfinaaDoor

/- The walk of the closure of (*span).reduce: a row of the span is subtracted. -/
set_option linter.unusedVariables false
set_option linter.unusedSimpArgs false
namespace Go.Proofs.YtgflflpeilfinaaDoor
open Go.RowKit

/-- Blocks g1 and g2 are written. -/
structure Grown2 (w w' : World) (g1 g2 : Nat) : Prop where
  os : w'.os = w.os
  tape : w'.tape = w.tape
  output : w'.output = w.output
  size : w.heap.size ≤ w'.heap.size
  block : ∀ k, k < w.heap.size → k ≠ g1 → k ≠ g2 → w'.heap[k]? = w.heap[k]?
theorem Grown2.refl (w : World) (g1 g2 : Nat) : Grown2 w w g1 g2 := ⟨rfl, rfl, rfl, Nat.le_refl _, fun _ _ _ _ => rfl⟩
theorem Grown2.trans {a b c : World} {g1 g2 : Nat} (h : Grown2 a b g1 g2) (k : Grown2 b c g1 g2) : Grown2 a c g1 g2 :=
  ⟨k.os.trans h.os, k.tape.trans h.tape, k.output.trans h.output, Nat.le_trans h.size k.size, fun i hi h1 h2 => (k.block i (Nat.lt_of_lt_of_le hi h.size) h1 h2).trans (h.block i hi h1 h2)⟩
theorem Grown2.of_ext {w w' : World} (h : Ext w w') (g1 g2 : Nat) : Grown2 w w' g1 g2 := ⟨h.os, h.tape, h.output, h.size, fun k hk _ _ => h.block k hk⟩
theorem Grown2.left {w w' : World} {g1 : Nat} (h : w.grownBy w' (some g1)) (g2 : Nat) : Grown2 w w' g1 g2 := ⟨h.os, h.tape, h.output, h.size, fun k hk h1 _ => h.block k hk (fun e => h1 (by injection e))⟩
theorem Grown2.right {w w' : World} {g2 : Nat} (h : w.grownBy w' (some g2)) (g1 : Nat) : Grown2 w w' g1 g2 := ⟨h.os, h.tape, h.output, h.size, fun k hk _ h2 => h.block k hk (fun e => h2 (by injection e))⟩
theorem Grown2.cell {w w' : World} {g1 g2 : Nat} (h : Grown2 w w' g1 g2) {a : Addr} {v : Value} (hc : w.cell? a = some v) (h1 : a.block ≠ g1) (h2 : a.block ≠ g2) : w'.cell? a = some v :=
  (World.cell?_of_block (h.block a.block (World.block_lt_of_cell? w a hc) h1 h2)).trans hc
theorem Grown2.ext {w0 w w' : World} {g1 g2 : Nat} (h : Grown2 w w' g1 g2) (hx : Ext w0 w) (h1 : w0.heap.size ≤ g1) (h2 : w0.heap.size ≤ g2) : Ext w0 w' :=
  ⟨h.os.trans hx.os, h.tape.trans hx.tape, h.output.trans hx.output, Nat.le_trans hx.size h.size, fun k hk => (h.block k (Nat.lt_of_lt_of_le hk hx.size) (by omega) (by omega)).trans (hx.block k hk)⟩
theorem own_off {w w' : World} {base : Nat} {e : TypeId} {size n cap g k : Nat} {xs : List Value} (h : w.ownsRow base e size (.slice (some ⟨g, 0, none⟩) n cap) n xs) (hg : w.grownBy w' (some k)) (hne : g ≠ k) : w'.ownsRow base e size (.slice (some ⟨g, 0, none⟩) n cap) n xs :=
  h.kept hg (.inr (by intro e; exact hne (Option.some.inj e)))

/-- The block of a value is none of two. -/
def Off2 (v : Value) (g1 g2 : Nat) : Prop := ∀ b o n c, v = .slice (some ⟨b, o, none⟩) n c → b ≠ g1 ∧ b ≠ g2
theorem off2_of_lt {w : World} {v : Value} {xs : List Int} (h : RInts w v xs) {g1 g2 : Nat} (h1 : w.heap.size ≤ g1) (h2 : w.heap.size ≤ g2) (hn : 0 < xs.length) : Off2 v g1 g2 := by
  obtain ⟨A, c, rfl, hl, hs⟩ := h
  intro b o n c' e
  injection e with e1 e2 e3
  subst e1
  obtain ⟨b', o', e, hc⟩ := hs.get (by simpa using hn)
  injection e with e
  injection e with e4 e5
  subst e4 e5
  have := World.block_lt_of_cell? w _ (hc 0 (by simpa using hn))
  simp at this
  omega

set_option maxRecDepth 100000 in
set_option maxHeartbeats 2000000 in
theorem subtract_any (m : Nat) (hm : Fm m) (rest coef : List Nat) (r : Red) (hcol : r.col < rest.length) (hrl : r.row.length = rest.length) (hcl : r.coef.length = coef.length) (hb1 : Bl m rest) (hb2 : Bl m coef) (hb3 : Bl m r.row) (hb4 : Bl m r.coef)
    (hn1 : rest.length ≤ 1000) (hn2 : coef.length ≤ 1000) (base S g1 g2 c1 c2 a1 a2 a3 : Nat) (v1 v2 : Value) (w : World) (hl : Laid w) (hS : w.cell? ⟨S, 1, none⟩ = some (.int .i64 m))
    (p1 : w.cell? ⟨a1, 0, none⟩ = some (.slice (some ⟨g1, 0, none⟩) rest.length c1)) (p2 : w.cell? ⟨a2, 0, none⟩ = some (.pointer (some ⟨S, 0, none⟩))) (p3 : w.cell? ⟨a3, 0, none⟩ = some (.slice (some ⟨g2, 0, none⟩) coef.length c2))
    (hne : a1 ≠ g1 ∧ a1 ≠ g2 ∧ a2 ≠ g1 ∧ a2 ≠ g2 ∧ a3 ≠ g1 ∧ a3 ≠ g2 ∧ S ≠ g1 ∧ S ≠ g2 ∧ g1 ≠ g2 ∧ 0 < g1 ∧ 0 < g2) (hv1 : RInts w v1 (nints r.row)) (hv2 : RInts w v2 (nints r.coef)) (ho1 : Off2 v1 g1 g2) (ho2 : Off2 v2 g1 g2)
    (h1 : w.ownsRow base 3 1 (.slice (some ⟨g1, 0, none⟩) rest.length c1) rest.length (nvs rest)) (h2 : w.ownsRow base 3 1 (.slice (some ⟨g2, 0, none⟩) coef.length c2) coef.length (nvs coef)) :
    Calls Tryd.prog 94 (#[.agg #[.int .i64 r.col, v1, v2]] ++ #[.pointer (some ⟨a1, 0, none⟩), .pointer (some ⟨a2, 0, none⟩), .pointer (some ⟨a3, 0, none⟩)]) w fun e w' => e = .returned (.tuple #[]) ∧
      w'.ownsRow base 3 1 (.slice (some ⟨g1, 0, none⟩) rest.length c1) rest.length (nvs (redStep m (rest, coef) r).1) ∧
      w'.ownsRow base 3 1 (.slice (some ⟨g2, 0, none⟩) coef.length c2) coef.length (nvs (redStep m (rest, coef) r).2) ∧ Grown2 w w' g1 g2 := by
  obtain ⟨n11, n12, n21, n22, n31, n32, nS1, nS2, n12g, z1, z2⟩ := hne
  obtain ⟨f, hf⟩ : ∃ f, f = ate rest r.col := ⟨_, rfl⟩
  have hfl : f < 2 ^ m := by rw [hf]; exact hb1.ate _
  have H1 := Lib.hid h1
  have H2 := Lib.hid h2
  have HV1 := Lib.hid hv1
  have HV2 := Lib.hid hv2
  have HO1 := Lib.hid ho1
  have HO2 := Lib.hid ho2
  have HE : Hid (redStep m (rest, coef) r = (addL m f rest r.row, addL m f coef r.coef)) := by show _ = _; unfold redStep; rw [hf]
  have HZ : Hid (addL m 0 rest r.row = rest ∧ addL m 0 coef r.coef = coef) := ⟨addL_zero hm hb3, addL_zero hm hb4⟩
  have HA1 := Lib.hid fun W u1 u2 u3 u4 => spanAdd_any m f hm hfl rest r.row hrl hb1 hb3 base S g1 c1 v1 (fun b o n c e => (ho1 b o n c e).1) nS1 z1 hn1 W u1 u2 u3 u4
  have HA2 := Lib.hid fun W u1 u2 u3 u4 => spanAdd_any m f hm hfl coef r.coef hcl hb2 hb4 base S g2 c2 v2 (fun b o n c e => (ho2 b o n c e).2) nS2 z2 hn2 W u1 u2 u3 u4
  obtain ⟨A1, k1, rfl, -, -⟩ := hv1
  obtain ⟨A2, k2, rfl, -, -⟩ := hv2
  obtain ⟨N1, hN1⟩ : ∃ n, n = (List.map (Value.int .i64) (nints r.row)).length := ⟨_, rfl⟩
  obtain ⟨N2, hN2⟩ : ∃ n, n = (List.map (Value.int .i64) (nints r.coef)).length := ⟨_, rfl⟩
  rw [← hN1] at HA1 HV1 HO1 ⊢
  rw [← hN2] at HA2 HV2 HO2 ⊢
  have hcx : w.cell? ⟨g1, r.col, none⟩ = some (.int .i64 (f : Nat)) := by
    rw [h1.cellAt _ (by omega), nvs_getl hcol, hf, ate_get hcol]
  have hxw : Ext w (w.alloc (.cells #[.int .i64 r.col, .slice A1 N1 k1, .slice A2 N2 k2] 103)) := ext_alloc (ext_refl w) _
  have HFE := Lib.hid hf
  have y1 := ext_cell hxw p1
  have y2 := ext_cell hxw p2
  have y3 := ext_cell hxw p3
  have yc := ext_cell hxw hcx
  clear hf h1 h2 hrl hcl hb1 hb2 hb3 hb4 hN1 hN2 ho1 ho2
  by_cases hf0 : f = 0
  · subst hf0
    go_enter Tryd.func94, Tryd.ntmps94
    go_wp2_with fail
    refine bodyPost_end (results_none rfl _ _ _) rfl ⟨rfl, ?_, ?_, Grown2.of_ext hxw _ _⟩
    · rw [HE.out, HZ.out.1]; exact own_ext H1.out hxw
    · rw [HE.out, HZ.out.2]; exact own_ext H2.out hxw
  · have t1 : ((f : Int) != 0) = true := by simpa using hf0
    clear hf0
    go_enter Tryd.func94, Tryd.ntmps94
    go_wp2_with fail
    refine (HA1.out _ (hl.ext hxw) (ext_cell hxw hS) (RInts.ext HV1.out hxw) (own_ext H1.out hxw)).mono ?_
    rintro e w1 ⟨rfl, hw1, hg1⟩
    have HW1 := Lib.hid hw1
    have HG1 := Lib.hid hg1
    have q2 := hg1.cell (ext_cell hxw p2) (fun e => n21 (by injection e))
    have q3 := hg1.cell (ext_cell hxw p3) (fun e => n31 (by injection e))
    have qS := hg1.cell (ext_cell hxw hS) (fun e => nS1 (by injection e))
    have hlt1 : g1 < w.heap.size := (H1.out.lt g1 rfl).2
    have hc0 : w1.cell? ⟨w.heap.size, 2, none⟩ = some (.slice A2 N2 k2) := hg1.cell (a := ⟨w.heap.size, 2, none⟩) (by simp [go_sem]) (fun e => by injection e with e; simp at e; omega)
    clear hw1 hg1
    go_wp2_with fail
    refine (HA2.out _ ((hl.ext hxw).grown HG1.out (fun e => by injection e; omega)) qS ((RInts.ext HV2.out hxw).grown HG1.out (fun b o n c e e2 => by injection e2 with e2; exact (HO2.out b o n c e).1 e2)) (own_off (own_ext H2.out hxw) HG1.out (Ne.symm n12g))).mono ?_
    rintro e w2 ⟨rfl, hw2, hg2⟩
    have HW2 := Lib.hid hw2
    have HG2 := Lib.hid hg2
    clear hw2 hg2
    go_wp2_with fail
    refine bodyPost_end (results_none rfl _ _ _) rfl ⟨rfl, ?_, ?_, ?_⟩
    · rw [HE.out]; exact own_off HW1.out HG2.out n12g
    · rw [HE.out]; exact HW2.out
    · exact ((Grown2.of_ext hxw _ _).trans (Grown2.left HG1.out _)).trans (Grown2.right HG2.out _)

end Go.Proofs.YtgflflpeilfinaaDoor
