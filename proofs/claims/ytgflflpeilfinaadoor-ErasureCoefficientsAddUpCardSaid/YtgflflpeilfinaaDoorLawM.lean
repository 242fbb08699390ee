/- The statement ErasureMoreUnitsHelp: its walk. -/
import Derived.Test.YtgflflpeilfinaaDoorLawD
set_option linter.unusedVariables false
set_option linter.unusedSectionVars false
set_option linter.unusedSimpArgs false
namespace Go.Proofs.YtgflflpeilfinaaDoor
open Go.RowKit

set_option maxHeartbeats 2000000 in
theorem lawM_out (nm : ByteArray) (f d dm : Int) (par : List (List Int)) (vp vh : Value) (hs : List Bool) (w : World) (hl : Laid w) (hp : RRows w vp par) (hh : RBools w vh hs) (hd0 : -9223372036854775808 ≤ d) (hd1 : d ≤ 9223372036854775807) (z : Int) (hg : gdB f d par hs = false) :
    Calls Tryd.prog 6 #[vCd nm f d vp dm, vh, .int .u8 z] w (Ret w (.bool true)) := by
  have HP := Lib.hid hp
  have HG := Lib.hid hg
  obtain ⟨A, c, rfl, hlen, hvc⟩ := hp.form
  obtain ⟨B, cB, rfl, hlB, -⟩ := hh
  rw [List.length_map] at hlB ⊢
  rw [lim_val] at hlB
  have hx0 : Ext w (w.alloc (.cells #[.string nm, .int .i64 f, .int .i64 d, .slice A par.length c, .int .i64 dm] 24)) := ext_alloc (ext_refl w) _
  have hc0 := CdAt.new w nm f d dm (.slice A par.length c) 24
  obtain ⟨W0, hW0⟩ : ∃ W0, W0 = w.alloc (.cells #[.string nm, .int .i64 f, .int .i64 d, .slice A par.length c, .int .i64 dm] 24) := ⟨_, rfl⟩
  have HW0 := Lib.hid hW0
  rw [← hW0] at hx0 hc0
  obtain ⟨N, hN⟩ : ∃ N : Int, N = widthI f d par := ⟨_, rfl⟩
  have HN := Lib.hid hN
  have HWD : Hid (∀ W, Laid W → RRows W (.slice A par.length c) par → Calls Tryd.prog 21 #[vCd nm f d (.slice A par.length c) dm] W (Ret W (.int .i64 N))) := by
    show ∀ W, _ → _ → _
    intro W h1 h2
    rw [hN]
    exact eraWidth_any nm f d dm par _ W h1 h2 hd0 hd1
  have hcase : smallB d par = false ∨ (smallB d par = true ∧ N = 0) ∨ (smallB d par = true ∧ N ≠ 0 ∧ (hs.length : Int) ≠ N) := by
    unfold gdB at hg
    cases hs' : smallB d par with
    | false => exact .inl rfl
    | true =>
      rw [hs', Bool.true_and] at hg
      rw [hN]
      rcases hvB_width hg with h | h
      · exact .inr (.inl ⟨rfl, h⟩)
      · exact .inr (.inr ⟨rfl, h⟩)
  clear hp hg hN
  rcases hcase with hsm | ⟨hsm, h0⟩ | ⟨hsm, h0, h1⟩
  · have HSM := Lib.hid hsm
    clear hsm hW0
    go_enter Tryd.func6, Tryd.ntmps6
    go_wp2_with fail
    rw [← HW0.out]
    refine (sanity8_any _ (hl.ext hx0)).mono ?_
    rintro e w1 ⟨rfl, hx1⟩
    obtain ⟨d0, d1, d2, d3, d4⟩ := hc0.ext hx1
    have hx2 := ext_trans hx0 hx1
    go_wp2_with fail
    refine (HWD.out _ (hl.ext hx2) (HP.out.ext hx2)).mono ?_
    rintro e w2 ⟨rfl, hx3⟩
    obtain ⟨d0, d1, d2, d3, d4⟩ := (hc0.ext hx1).ext hx3
    have hx4 := ext_trans hx2 hx3
    go_wp2_with fail
    refine (small_any nm f d dm par _ _ (HP.out.ext hx4)).mono ?_
    rintro e w3 ⟨rfl, hx5⟩
    rw [HSM.out]
    go_wp2_with fail
    go_ret
    exact ⟨rfl, ext_trans hx4 hx5⟩
  · have HSM := Lib.hid hsm
    have t1 : (N == 0) = true := by simpa using h0
    clear hsm h0 hW0
    go_enter Tryd.func6, Tryd.ntmps6
    go_wp2_with fail
    rw [← HW0.out]
    refine (sanity8_any _ (hl.ext hx0)).mono ?_
    rintro e w1 ⟨rfl, hx1⟩
    obtain ⟨d0, d1, d2, d3, d4⟩ := hc0.ext hx1
    have hx2 := ext_trans hx0 hx1
    go_wp2_with fail
    refine (HWD.out _ (hl.ext hx2) (HP.out.ext hx2)).mono ?_
    rintro e w2 ⟨rfl, hx3⟩
    obtain ⟨d0, d1, d2, d3, d4⟩ := (hc0.ext hx1).ext hx3
    have hx4 := ext_trans hx2 hx3
    go_wp2_with fail
    refine (small_any nm f d dm par _ _ (HP.out.ext hx4)).mono ?_
    rintro e w3 ⟨rfl, hx5⟩
    rw [HSM.out]
    go_wp2_with fail
    go_ret
    exact ⟨rfl, ext_trans hx4 hx5⟩
  · have HSM := Lib.hid hsm
    have t1 : (N == 0) = false := by simpa using h0
    have t2 : ((hs.length : Int) != N) = true := by simpa using h1
    clear hsm h0 h1 hW0
    go_enter Tryd.func6, Tryd.ntmps6
    go_wp2_with fail
    rw [← HW0.out]
    refine (sanity8_any _ (hl.ext hx0)).mono ?_
    rintro e w1 ⟨rfl, hx1⟩
    obtain ⟨d0, d1, d2, d3, d4⟩ := hc0.ext hx1
    have hx2 := ext_trans hx0 hx1
    go_wp2_with fail
    refine (HWD.out _ (hl.ext hx2) (HP.out.ext hx2)).mono ?_
    rintro e w2 ⟨rfl, hx3⟩
    obtain ⟨d0, d1, d2, d3, d4⟩ := (hc0.ext hx1).ext hx3
    have hx4 := ext_trans hx2 hx3
    go_wp2_with fail
    refine (small_any nm f d dm par _ _ (HP.out.ext hx4)).mono ?_
    rintro e w3 ⟨rfl, hx5⟩
    rw [HSM.out]
    go_wp2_with fail
    go_ret
    exact ⟨rfl, ext_trans hx4 hx5⟩

theorem info_bool : (Tryd.prog.info? 4).map (fun i => (i.zero, i.size, i.bytes)) = some (some (.bool false), 1, 1) := by kernel_rfl
theorem set_get {hs : List Bool} {q u : Nat} (hq : q < hs.length) : (hs.set q true).getD u false = true ↔ (hs.getD u false = true ∨ u = q) := by
  rw [List.getD_eq_getElem?_getD, List.getD_eq_getElem?_getD, List.getElem?_set]
  by_cases h : q = u
  · subst h
    simp [hq]
  · rw [if_neg h]
    constructor
    · exact .inl
    · rintro (h1 | h1)
      · exact h1
      · exact absurd h1.symm h

set_option maxRecDepth 100000 in
set_option maxHeartbeats 2000000 in
theorem lawM_in (nm : ByteArray) (m n : Nat) (dm : Int) (par : List (List Int)) (vp vh : Value) (hs : List Bool) (w : World) (hl : Laid w) (hp : RRows w vp par) (hh : RBools w vh hs) (z : Nat) (hz : z < 256) (hok : okB m n par = true) (hN : hs.length = n + par.length) (hsm : smallB n par = true) :
    Calls Tryd.prog 6 #[vCd nm m n vp dm, vh, .int .u8 (z : Int)] w (Ret w (.bool true)) := by
  have V := Vd.of hok hN
  have hn32 := V.n32
  have hn1 := V.n1
  have HP := Lib.hid hp
  have HH := Lib.hid hh
  have HSM := Lib.hid hsm
  obtain ⟨q, hqd⟩ : ∃ q, q = z % hs.length := ⟨_, rfl⟩
  have hq : q < hs.length := by rw [hqd]; exact Nat.mod_lt _ (by omega)
  obtain ⟨gs, hgs⟩ : ∃ gs, gs = hs.set q true := ⟨_, rfl⟩
  have hGl : gs.length = hs.length := by rw [hgs]; simp
  have hN' : gs.length = n + par.length := by omega
  have V' := Vd.of hok hN'
  obtain ⟨m1, m2, m3, m4⟩ := V.more V' (k := q) (by omega) (fun u => by rw [hgs]; exact set_get hq)
  have HGS := Lib.hid (show (hs.map Value.bool).set q (.bool true) = gs.map Value.bool by rw [hgs, List.map_set])
  have HB1 := Lib.hid fun W h1 h2 h3 => basis_ok nm m n dm par vp vh hs W h1 h2 h3 hok hN
  have HB2 := Lib.hid fun v W h1 h2 h3 => basis_ok nm m n dm par vp v gs W h1 h2 h3 hok hN'
  have HR1 : Hid (∀ u, u < hs.length → ∀ W, Laid W → RRows W vp par → RBools W vh hs → Calls Tryd.prog 29 #[vCd nm m n vp dm, vh, .int .i64 u] W (Ret W (.bool (recB m n par hs u)))) :=
    fun u hu W h1 h2 h3 => recov_ok nm m n dm u par vp vh hs W h1 h2 h3 hok hN hu
  have HR2 : Hid (∀ v u, u < hs.length → ∀ W, Laid W → RRows W vp par → RBools W v gs → Calls Tryd.prog 29 #[vCd nm m n vp dm, v, .int .i64 u] W (Ret W (.bool (recB m n par gs u)))) :=
    fun v u hu W h1 h2 h3 => recov_ok nm m n dm u par vp v gs W h1 h2 h3 hok hN' (by omega)
  obtain ⟨N, hNe⟩ : ∃ N, N = hs.length := ⟨_, rfl⟩
  have hWI : widthI m n par = (N : Int) := by unfold widthI; rw [hok, hNe, hN]; simp
  have HWD := Lib.hid fun W h1 h2 => eraWidth_any nm m n dm par vp W h1 h2 (by omega) (by omega)
  rw [hWI] at HWD
  obtain ⟨K, hK⟩ : ∃ K, K = (basisL m n par hs).length := ⟨_, rfl⟩
  obtain ⟨K', hK'⟩ : ∃ K, K = (basisL m n par gs).length := ⟨_, rfl⟩
  have hK1 := V.len_n
  rw [← hK] at HB1 m1 m2 hK1
  rw [← hK'] at HB2 m1 m2
  have HM4 : Hid (∀ u, u < N → recB m n par hs u = true → recB m n par gs u = true) := fun u hu => m4 u (by omega)
  have HM3 := Lib.hid m3
  obtain ⟨A, c, rfl, hlen, hvc⟩ := hp.form
  obtain ⟨B, cB, rfl, -, -⟩ := hh
  rw [List.length_map, ← hNe] at HH HB1 HR1 ⊢
  rw [← hNe] at HR2
  have hNle : N ≤ 32 := by omega
  have hN1 : 1 ≤ N := by omega
  have hqN : q < N := by omega
  have HQ : Hid (z % N = q) := by show _ = _; rw [hqd, hNe]
  have HNE := Lib.hid hNe
  have hx0 : Ext w (w.alloc (.cells #[.string nm, .int .i64 m, .int .i64 n, .slice A par.length c, .int .i64 dm] 24)) := ext_alloc (ext_refl w) _
  have hc0 := CdAt.new w nm m n dm (.slice A par.length c) 24
  obtain ⟨W0, hW0⟩ : ∃ W0, W0 = w.alloc (.cells #[.string nm, .int .i64 m, .int .i64 n, .slice A par.length c, .int .i64 dm] 24) := ⟨_, rfl⟩
  have HW0 := Lib.hid hW0
  rw [← hW0] at hx0 hc0
  have t1 : ((N : Int) == 0) = false := by simp; omega
  have t2 : ((N : Int) != (N : Int)) = false := by simp
  have HLB : Hid ((hs.map Value.bool).length = N) := by show _ = _; rw [List.length_map, ← hNe]
  clear hp hok hN hN' hsm V V' hNe hWI hK hK' hW0 hqd hgs m3 m4 hGl hq
  go_enter Tryd.func6, Tryd.ntmps6
  go_wp2_with fail
  rw [← HW0.out]
  refine (sanity8_any _ (hl.ext hx0)).mono ?_
  rintro e w1 ⟨rfl, hx1⟩
  have hc1 := hc0.ext hx1
  obtain ⟨d0, d1, d2, d3, d4⟩ := hc1
  have hx2 := ext_trans hx0 hx1
  go_wp2_with fail
  refine (HWD.out _ (hl.ext hx2) (HP.out.ext hx2)).mono ?_
  rintro e w2 ⟨rfl, hx3⟩
  have hc2 := (hc0.ext hx1).ext hx3
  obtain ⟨d0, d1, d2, d3, d4⟩ := hc2
  have hx4 := ext_trans hx2 hx3
  go_wp2_with fail
  refine (small_any nm m n dm par _ _ (HP.out.ext hx4)).mono ?_
  rintro e w3 ⟨rfl, hx5⟩
  rw [HSM.out]
  have hc3 := ((hc0.ext hx1).ext hx3).ext hx5
  obtain ⟨d0, d1, d2, d3, d4⟩ := hc3
  have hx6 := ext_trans hx4 hx5
  have HH3 := Lib.hid (RBools.ext HH.out hx6)
  have HP3 := Lib.hid (HP.out.ext hx6)
  have hl3 := hl.ext hx6
  have HC3 := Lib.hid (((hc0.ext hx1).ext hx3).ext hx5)
  clear hc0 hx0 hx1 hx2 hx3 hx4 hx5
  have hq2 : (z : Int) % (N : Int) = (q : Int) := by rw [← Int.natCast_emod, HQ.out]
  have i1 : (0 : Int) ≤ (q : Int) := by omega
  have i2 : (q : Int) < (N : Int) := by omega
  have HO0 : Hid ((w3.alloc (.cells #[] 4)).ownsRow w3.heap.size 4 1 (.slice (some ⟨w3.heap.size, 0, none⟩) 0 0) 0 []) := own_empty _ _ _ _ (Nat.le_refl _)
  have hx3 : Ext w3 (w3.alloc (.cells #[] 4)) := ext_alloc (ext_refl w3) _
  have HSB : Hid (Seg w3 B (hs.map .bool)) := by
    obtain ⟨B', cB', e, -, h⟩ := HH3.out
    injection e with e
    rw [e]; exact h
  go_wp2_with (at_builtin; refine wpList_app rfl _ _ 44 rfl w3.heap.size 4 _ 1 1 Tryd.underlying44 info_bool rfl (by omega) _ 0 [] rfl HO0.out _ N cB (hs.map .bool) rfl (by rw [HLB.out]; omega) (HSB.out.ext hx3) (one_bools hs) (by simp only [maxLen]; omega) (by omega) (by simp) ?_; intro v1 w4 ho hg hat)
  rw [Nat.zero_add, List.nil_append] at ho
  clear hq2
  have hx7 : Ext w3 w4 := ext_grown hx3 hg (fun i hi => own_base' HO0.out i hi)
  obtain ⟨g, c2, rfl⟩ := own_some ho (by omega)
  have hg3 : w3.heap.size ≤ g := own_base' ho g rfl
  have HST := Lib.hid (ho.stored q (.bool true))
  have hfz := ho.frozenAt q
  obtain ⟨xq, hci⟩ : ∃ x, w4.cell? ⟨g, q, none⟩ = some (.bool x) := by
    have h1 := ho.cellAt q (by omega)
    have h2 : q < hs.length := by rw [← HNE.out]; exact hqN
    rw [h1]
    exact ⟨hs[q], by simp [h2]⟩
  obtain ⟨d0, d1, d2, d3, d4⟩ := HC3.out.ext hx7
  have hx8 : Hid (Ext w3 (w4.setCell ⟨g, q, none⟩ (.bool true))) := ext_grown hx7 HST.out.2 (fun i hi => by injection hi with hi; omega)
  have HG5 : Hid (RBools (w4.setCell ⟨g, q, none⟩ (.bool true)) (.slice (some ⟨g, 0, none⟩) N c2) gs) := by
    have := own_sl HST.out.1 (by rw [List.length_set, HLB.out, lim_val]; omega)
    rw [HGS.out] at this
    exact this
  clear ho hg hat HO0 hx3 HST hg3
  obtain ⟨f0, f1, f2, f3, f4⟩ := HC3.out.ext hx8.out
  have t5 : decide (K' < K) = false := by simp; omega
  have t6 : decide (K + 1 < K') = false := by simp; omega
  go_wp2_with fail
  rw [run_indexAt_slice (h := by kernel_rfl)]
  rw [if_pos ⟨i1, i2⟩]
  go_simp
  go_wp2_with fail
  refine (HB1.out _ (hl3.ext hx8.out) (HP3.out.ext hx8.out) (RBools.ext HH3.out hx8.out)).mono ?_
  rintro e w5 ⟨v', rfl, ho5, hx9⟩
  obtain ⟨A2, cc2, rfl, -⟩ := own_seg ho5 (by omega)
  have HC5 := Lib.hid ((HC3.out.ext hx8.out).ext hx9)
  have HG6 := Lib.hid (RBools.ext HG5.out hx9)
  have hx11 : Hid (Ext w3 w5) := ext_trans hx8.out hx9
  obtain ⟨d0, d1, d2, d3, d4⟩ := HC5.out
  clear ho5 hx9 hx8 HG5
  go_wp2_with fail
  refine (HB2.out _ _ (hl3.ext hx11.out) (HP3.out.ext hx11.out) HG6.out).mono ?_
  rintro e w6 ⟨v'', rfl, ho6, hx10⟩
  obtain ⟨A3, cc3, rfl, -⟩ := own_seg ho6 (by omega)
  have HC6 := Lib.hid (HC5.out.ext hx10)
  have HG7 := Lib.hid (RBools.ext HG6.out hx10)
  have hx12 : Hid (Ext w3 w6) := ext_trans hx11.out hx10
  obtain ⟨d0, d1, d2, d3, d4⟩ := HC6.out
  clear ho6 hx10 hx11 HG6 HC5
  go_wp2_with fail
  refine (HR2.out _ q hqN _ (hl3.ext hx12.out) (HP3.out.ext hx12.out) HG7.out).mono ?_
  rintro e w7 ⟨rfl, hx13⟩
  rw [HM3.out]
  have HC7 := Lib.hid (HC6.out.ext hx13)
  have HG8 := Lib.hid (RBools.ext HG7.out hx13)
  have hx14 : Hid (Ext w3 w7) := ext_trans hx12.out hx13
  clear hx13 hx12 HG7 HC6 d0 d1 d2 d3 d4
  go_wp2_with fail
  go_loopw [15] (fun i wr => ∃ k : Nat, k ≤ N ∧ i = .int .i64 k ∧ Ext w7 wr) (fun i _ => N - (intOf i).toNat)
  case atStart => exact ⟨0, Nat.zero_le _, rfl, ext_refl _⟩
  case round =>
    obtain ⟨k, hk, rfl, hx⟩ := hrel
    by_cases hlt : k < N
    · have hxw := Lib.hid (ext_trans hx14.out hx)
      have HCR := Lib.hid (HC7.out.ext hx)
      have HGR := Lib.hid (RBools.ext HG8.out hx)
      obtain ⟨d0, d1, d2, d3, d4⟩ := HCR.out
      go_wp2_with fail
      refine (HR1.out k hlt _ (hl3.ext hxw.out) (HP3.out.ext hxw.out) (RBools.ext HH3.out hxw.out)).mono ?_
      rintro e w8 ⟨rfl, hx15⟩
      obtain ⟨d0, d1, d2, d3, d4⟩ := HCR.out.ext hx15
      have hx17 := ext_trans hx hx15
      have hx16 := Lib.hid (ext_trans hxw.out hx15)
      have HGS8 := Lib.hid (RBools.ext HGR.out hx15)
      have HMM := Lib.hid (HM4.out k hlt)
      cases hr : recB m n par hs k with
      | false =>
        clear hr
        go_wp2_with fail
        go_roundw
        case rel => exact ⟨k + 1, by omega, by simp, hx17⟩
        case measure => simp [intOf]; omega
      | true =>
        have HM5 := Lib.hid (HMM.out hr)
        clear hr
        go_wp2_with fail
        refine (HR2.out _ k hlt _ (hl3.ext hx16.out) (HP3.out.ext hx16.out) HGS8.out).mono ?_
        rintro e w9 ⟨rfl, hx18⟩
        rw [HM5.out]
        have hx19 := ext_trans hx17 hx18
        go_wp2_with fail
        go_roundw
        case rel => exact ⟨k + 1, by omega, by simp, hx19⟩
        case measure => simp [intOf]; omega
    · have hk' : k = N := by omega
      clear hk'
      go_wp2_with fail
      go_ret
      exact ⟨rfl, ext_trans hx6 (ext_trans hx14.out hx)⟩

theorem u8_wf {z : Int} (h : (Lit.int .u8 z).wf = true) : 0 ≤ z ∧ z < 256 := by
  unfold Lit.wf at h
  rw [Bool.and_eq_true] at h
  have h1 : (0 : Int) ≤ z := of_decide_eq_true h.1
  have h2 : z ≤ 255 := of_decide_eq_true h.2
  omega
theorem lawM_any (nm : ByteArray) (f d dm : Int) (par : List (List Int)) (vp vh : Value) (hs : List Bool) (z : Int) (w : World) (hl : Laid w) (hp : RRows w vp par) (hh : RBools w vh hs) (hwf : (Lit.int .u8 z).wf = true) (hd0 : -9223372036854775808 ≤ d) (hd1 : d ≤ 9223372036854775807) :
    Calls Tryd.prog 6 #[vCd nm f d vp dm, vh, .int .u8 z] w (Ret w (.bool true)) := by
  have hz := u8_wf hwf
  cases hg : gdB f d par hs with
  | false => exact lawM_out nm f d dm par vp vh hs w hl hp hh hd0 hd1 z hg
  | true =>
    unfold gdB at hg
    rw [Bool.and_eq_true] at hg
    obtain ⟨m, n, rfl, rfl, hok, hN⟩ := hvB_facts hg.2
    obtain ⟨z', rfl⟩ : ∃ z' : Nat, z = (z' : Int) := ⟨z.toNat, by omega⟩
    exact lawM_in nm m n dm par vp vh hs w hl hp hh z' (by omega) hok hN hg.1

end Go.Proofs.YtgflflpeilfinaaDoor
