/- The statement ErasureDecodeMatchesSpec: its walk. -/
import Derived.Test.YtgflflpeilfinaaDoorR8i
set_option linter.unusedVariables false
set_option linter.unusedSimpArgs false
set_option linter.unusedSectionVars false
namespace Go.Proofs.YtgflflpeilfinaaDoor
open Go.RowKit

/-- A code and three things more, as one argument; how it lies in a block. -/
abbrev vIn (nm : ByteArray) (f d : Int) (vp : Value) (dm : Int) (vu vh x : Value) : Value := .agg #[.string nm, .int .i64 f, .int .i64 d, vp, .int .i64 dm, vu, vh, x]
structure InAt (w : World) (b : Nat) (nm : ByteArray) (f d dm : Int) (vp vu vh x : Value) : Prop where
  c : CdAt w b nm f d dm vp
  c5 : w.cell? ⟨b, 5, none⟩ = some vu
  c6 : w.cell? ⟨b, 6, none⟩ = some vh
  c7 : w.cell? ⟨b, 7, none⟩ = some x
theorem InAt.new (w : World) (nm : ByteArray) (f d dm : Int) (vp vu vh x : Value) (t : TypeId) : InAt (w.alloc (.cells #[.string nm, .int .i64 f, .int .i64 d, vp, .int .i64 dm, vu, vh, x] t)) w.heap.size nm f d dm vp vu vh x :=
  ⟨⟨row_cell (row_alloc w _ t _ rfl) 0 rfl, row_cell (row_alloc w _ t _ rfl) 1 rfl, row_cell (row_alloc w _ t _ rfl) 2 rfl, row_cell (row_alloc w _ t _ rfl) 3 rfl, row_cell (row_alloc w _ t _ rfl) 4 rfl⟩,
    row_cell (row_alloc w _ t _ rfl) 5 rfl, row_cell (row_alloc w _ t _ rfl) 6 rfl, row_cell (row_alloc w _ t _ rfl) 7 rfl⟩
theorem InAt.ext {w w' : World} {b : Nat} {nm : ByteArray} {f d dm : Int} {vp vu vh x : Value} (h : InAt w b nm f d dm vp vu vh x) (hx : Ext w w') : InAt w' b nm f d dm vp vu vh x :=
  ⟨h.c.ext hx, ext_cell hx h.c5, ext_cell hx h.c6, ext_cell hx h.c7⟩

theorem units_cases {hs : List Bool} (unit : Int) : (unit < 0 ∨ (hs.length : Int) ≤ unit) ∨ ∃ u : Nat, unit = (u : Int) ∧ u < hs.length := by
  by_cases h : unit < 0 ∨ (hs.length : Int) ≤ unit
  · exact .inl h
  · exact .inr ⟨unit.toNat, by omega, by omega⟩
theorem rcvs (nm : ByteArray) (f d dm unit : Int) (par : List (List Int)) (vp vu vh : Value) (us : List ByteArray) (hs : List Bool) (hsz : ∀ u ∈ us, u.size ≤ lim) (hd0 : -9223372036854775808 ≤ d) (hd1 : d ≤ 12) :
    ∃ s x, (∀ w, Laid w → RRows w vp par → RStrs w vu us → RBools w vh hs → Calls Tryd.prog 36 #[vCd nm f d vp dm, vu, vh, .int .i64 unit] w (Ret w (.tuple #[.string s, .int .i64 x]))) ∧
      ∀ w, RRows w vp par → RStrs w vu us → RBools w vh hs → Calls Tryd.prog 37 #[vCd nm f d vp dm, vu, vh, .int .i64 unit] w (Ret w (.tuple #[.string s, .int .i64 x])) := by
  cases hb : fitB f d par us hs with
  | false =>
    exact ⟨⟨#[]⟩, 1, fun w hl hp hu hh => recover_arg nm f d dm unit par vp vu vh us hs w hl hp hu hh hsz hd0 (by omega) hb, fun w hp hu hh => r8recover_arg nm f d dm unit par vp vu vh us hs w hp hu hh hsz hd1 hb⟩
  | true =>
    rcases units_cases (hs := hs) unit with hout | ⟨u, rfl, hu⟩
    · exact ⟨⟨#[]⟩, 1, fun w hl hp hu hh => recover_out nm f d dm unit par vp vu vh us hs w hl hp hu hh hsz hd0 (by omega) hb hout, fun w hp hu hh => r8recover_out nm f d dm unit par vp vu vh us hs w hp hu hh hsz hd1 hb hout⟩
    · obtain ⟨m, n, rfl, rfl, hok, h1, h2, h3⟩ := fitB_facts hb
      have hpost : ∀ (w : World) (e : Ending) (w' : World), RcvPost (recB m n par hs u) (valR m n par us hs u) w e w' → Ret w (.tuple #[.string (if recB m n par hs u then valR m n par us hs u else ⟨#[]⟩), .int .i64 (if recB m n par hs u then 0 else 11)]) e w' := by
        intro w e w' ⟨he, hx⟩
        cases hr : recB m n par hs u with
        | false => rw [hr] at he; exact ⟨he, hx⟩
        | true => rw [hr] at he; exact ⟨he, hx⟩
      refine ⟨if recB m n par hs u then valR m n par us hs u else ⟨#[]⟩, if recB m n par hs u then 0 else 11, fun w hl hp hu' hh => ?_, fun w hp hu' hh => ?_⟩
      · exact (recover_ok nm m n dm u par vp vu vh us hs w hl hp hu' hh hsz hb hu).mono (hpost w)
      · exact (r8recover_ok nm m n dm u par vp vu vh us hs w hp hu' hh hsz (by omega) hb hu).mono (hpost w)
theorem decos (nm : ByteArray) (f d dm : Int) (par : List (List Int)) (vp vu vh : Value) (us : List ByteArray) (hs : List Bool) (hsz : ∀ u ∈ us, u.size ≤ lim) (hd0 : -9223372036854775808 ≤ d) (hd1 : d ≤ 12) :
    ∃ L x, (∀ w, Laid w → RRows w vp par → RStrs w vu us → RBools w vh hs → Calls Tryd.prog 38 #[vCd nm f d vp dm, vu, vh] w (EncPost L x w)) ∧
      ∀ w, RRows w vp par → RStrs w vu us → RBools w vh hs → Calls Tryd.prog 39 #[vCd nm f d vp dm, vu, vh] w (EncPost L x w) := by
  cases hb : fitB f d par us hs with
  | false =>
    refine ⟨[], 1, fun w hl hp hu hh => ?_, fun w hp hu hh => ?_⟩
    · refine (decode_arg nm f d dm par vp vu vh us hs w hl hp hu hh hsz hd0 (by omega) hb).mono ?_
      rintro e w' ⟨rfl, hx⟩
      exact ⟨_, rfl, ⟨none, 0, rfl, by simp, .inl rfl⟩, hx⟩
    · refine (r8decode_arg nm f d dm par vp vu vh us hs w hp hu hh hsz hd1 hb).mono ?_
      rintro e w' ⟨rfl, hx⟩
      exact ⟨_, rfl, ⟨none, 0, rfl, by simp, .inl rfl⟩, hx⟩
  | true =>
    obtain ⟨m, n, rfl, rfl, hok, h1, h2, h3⟩ := fitB_facts hb
    have hpost : ∀ (w : World) (e : Ending) (w' : World), DecPost (allR m n par hs) (valsTo m n par us hs (n + par.length)) w e w' → EncPost (if allR m n par hs then valsTo m n par us hs (n + par.length) else []) (if allR m n par hs then 0 else 11) w e w' := by
      intro w e w' ⟨g1, g2, hx⟩
      cases hr : allR m n par hs with
      | false =>
        obtain rfl := g2 hr
        exact ⟨_, rfl, ⟨none, 0, rfl, by simp, .inl rfl⟩, hx⟩
      | true =>
        obtain ⟨v', rfl, ho⟩ := g1 hr
        exact ⟨_, rfl, ho, hx⟩
    refine ⟨if allR m n par hs then valsTo m n par us hs (n + par.length) else [], if allR m n par hs then 0 else 11, fun w hl hp hu' hh => ?_, fun w hp hu' hh => ?_⟩
    · exact (decode_ok nm m n dm par vp vu vh us hs w hl hp hu' hh hsz hb).mono (hpost w)
    · exact (r8decode_ok nm m n dm par vp vu vh us hs w hp hu' hh hsz (by omega) hb).mono (hpost w)

set_option maxRecDepth 100000 in
set_option maxHeartbeats 4000000 in
theorem lawX_any (nm : ByteArray) (f d dm : Int) (par : List (List Int)) (vp vu : Value) (us : List ByteArray) (vh : Value) (hs : List Bool) (unit : Int) (w : World) (hl : Laid w) (hp : RRows w vp par) (hu : RStrs w vu us) (hsz : ∀ u ∈ us, u.size ≤ lim) (hh : RBools w vh hs) (hd0 : -9223372036854775808 ≤ d) (hd1 : d ≤ 9223372036854775807) :
    Calls Tryd.prog 9 #[vIn nm f d vp dm vu vh (.int .i64 unit)] w (Ret w (.bool true)) := by
  have HP := Lib.hid hp
  have HU := Lib.hid hu
  have HH := Lib.hid hh
  have HFW := Lib.hid fun v W h => few_any us v W h hsz
  have HSZ := Lib.hid hsz
  obtain ⟨A, c, rfl, hlen, hvc⟩ := hp.form
  obtain ⟨B, cB, rfl, -, -⟩ := hh
  obtain ⟨D, cD, rfl⟩ := hu.form
  rw [List.length_map] at HH ⊢
  have hx0 : Ext w (w.alloc (.cells #[.string nm, .int .i64 f, .int .i64 d, .slice A par.length c, .int .i64 dm, .slice D us.length cD, .slice B hs.length cB, .int .i64 unit] 60)) := ext_alloc (ext_refl w) _
  have hc0 := InAt.new w nm f d dm (.slice A par.length c) (.slice D us.length cD) (.slice B hs.length cB) (.int .i64 unit) 60
  obtain ⟨W0, hW0⟩ : ∃ W0, W0 = w.alloc (.cells #[.string nm, .int .i64 f, .int .i64 d, .slice A par.length c, .int .i64 dm, .slice D us.length cD, .slice B hs.length cB, .int .i64 unit] 60) := ⟨_, rfl⟩
  have HW0 := Lib.hid hW0
  rw [← hW0] at hx0 hc0
  have hcase : smallB d par = false ∨ (smallB d par = true ∧ fewB us = false) ∨ (smallB d par = true ∧ fewB us = true ∧ 24 < hs.length) ∨ (smallB d par = true ∧ fewB us = true ∧ hs.length ≤ 24) := by
    cases smallB d par
    · exact .inl rfl
    · cases fewB us
      · exact .inr (.inl ⟨rfl, rfl⟩)
      · rcases Nat.lt_or_ge 24 hs.length with h | h
        · exact .inr (.inr (.inl ⟨rfl, rfl, h⟩))
        · exact .inr (.inr (.inr ⟨rfl, rfl, h⟩))
  clear hp hu hsz hW0
  rcases hcase with hsm | ⟨hsm, hfw⟩ | ⟨hsm, hfw, h24⟩ | ⟨hsm, hfw, h24⟩
  · have HSM := Lib.hid hsm
    clear hsm
    go_enter Tryd.func9, Tryd.ntmps9
    go_wp2_with fail
    rw [← HW0.out]
    refine (sanity8_any _ (hl.ext hx0)).mono ?_
    rintro e w1 ⟨rfl, hx1⟩
    obtain ⟨⟨d0, d1, d2, d3, d4⟩, d5, d6, d7⟩ := hc0.ext hx1
    have hx2 := ext_trans hx0 hx1
    go_wp2_with fail
    refine (small_any nm f d dm par _ _ (HP.out.ext hx2)).mono ?_
    rintro e w3 ⟨rfl, hx5⟩
    rw [HSM.out]
    go_wp2_with fail
    go_ret
    exact ⟨rfl, ext_trans hx2 hx5⟩
  · have HSM := Lib.hid hsm
    have HFF := Lib.hid hfw
    clear hsm hfw
    go_enter Tryd.func9, Tryd.ntmps9
    go_wp2_with fail
    rw [← HW0.out]
    refine (sanity8_any _ (hl.ext hx0)).mono ?_
    rintro e w1 ⟨rfl, hx1⟩
    obtain ⟨⟨d0, d1, d2, d3, d4⟩, d5, d6, d7⟩ := hc0.ext hx1
    have hx2 := ext_trans hx0 hx1
    go_wp2_with fail
    refine (small_any nm f d dm par _ _ (HP.out.ext hx2)).mono ?_
    rintro e w3 ⟨rfl, hx5⟩
    rw [HSM.out]
    have hx6 := ext_trans hx2 hx5
    obtain ⟨⟨d0, d1, d2, d3, d4⟩, d5, d6, d7⟩ := (hc0.ext hx1).ext hx5
    go_wp2_with fail
    refine (HFW.out _ _ (RStrs.ext HU.out hx6)).mono ?_
    rintro e w4 ⟨rfl, hx7⟩
    rw [HFF.out]
    go_wp2_with fail
    go_ret
    exact ⟨rfl, ext_trans hx6 hx7⟩
  · have HSM := Lib.hid hsm
    have HFF := Lib.hid hfw
    clear hsm hfw
    go_enter Tryd.func9, Tryd.ntmps9
    go_wp2_with fail
    rw [← HW0.out]
    refine (sanity8_any _ (hl.ext hx0)).mono ?_
    rintro e w1 ⟨rfl, hx1⟩
    obtain ⟨⟨d0, d1, d2, d3, d4⟩, d5, d6, d7⟩ := hc0.ext hx1
    have hx2 := ext_trans hx0 hx1
    go_wp2_with fail
    refine (small_any nm f d dm par _ _ (HP.out.ext hx2)).mono ?_
    rintro e w3 ⟨rfl, hx5⟩
    rw [HSM.out]
    have hx6 := ext_trans hx2 hx5
    obtain ⟨⟨d0, d1, d2, d3, d4⟩, d5, d6, d7⟩ := (hc0.ext hx1).ext hx5
    go_wp2_with fail
    refine (HFW.out _ _ (RStrs.ext HU.out hx6)).mono ?_
    rintro e w4 ⟨rfl, hx7⟩
    rw [HFF.out]
    obtain ⟨⟨d0, d1, d2, d3, d4⟩, d5, d6, d7⟩ := ((hc0.ext hx1).ext hx5).ext hx7
    go_wp2_with fail
    go_ret
    exact ⟨rfl, ext_trans hx6 hx7⟩
  · have hd12 : d ≤ 12 := by
      unfold smallB at hsm
      simp only [Bool.and_eq_true, decide_eq_true_eq] at hsm
      exact hsm.1
    have HSM := Lib.hid hsm
    have HFF := Lib.hid hfw
    obtain ⟨s, x, hr1, hr2⟩ := rcvs nm f d dm unit par (.slice A par.length c) (.slice D us.length cD) (.slice B hs.length cB) us hs HSZ.out hd0 hd12
    obtain ⟨T, y, hq1, hq2⟩ := decos nm f d dm par (.slice A par.length c) (.slice D us.length cD) (.slice B hs.length cB) us hs HSZ.out hd0 hd12
    have HR1 := Lib.hid hr1
    have HR2 := Lib.hid hr2
    have HQ1 := Lib.hid hq1
    have HQ2 := Lib.hid hq2
    have HST : Hid (∀ v u W, RStrs W v T → RStrs W u T → Calls Tryd.prog 23 #[v, u] W (Ret W (.bool true))) := fun v u W h1 h2 => by
      have := same_texts T T v u W h1 h2
      rwa [decide_eq_true rfl] at this
    have e1 : (x == x) = true := by simp
    have e2 : (y == y) = true := by simp
    clear hsm hfw hr1 hr2 hq1 hq2
    go_enter Tryd.func9, Tryd.ntmps9
    go_wp2_with fail
    rw [← HW0.out]
    refine (sanity8_any _ (hl.ext hx0)).mono ?_
    rintro e w1 ⟨rfl, hx1⟩
    obtain ⟨⟨d0, d1, d2, d3, d4⟩, d5, d6, d7⟩ := hc0.ext hx1
    have hx2 := ext_trans hx0 hx1
    go_wp2_with fail
    refine (small_any nm f d dm par _ _ (HP.out.ext hx2)).mono ?_
    rintro e w3 ⟨rfl, hx5⟩
    rw [HSM.out]
    have hx6 := ext_trans hx2 hx5
    obtain ⟨⟨d0, d1, d2, d3, d4⟩, d5, d6, d7⟩ := (hc0.ext hx1).ext hx5
    go_wp2_with fail
    refine (HFW.out _ _ (RStrs.ext HU.out hx6)).mono ?_
    rintro e w4 ⟨rfl, hx7⟩
    rw [HFF.out]
    have hx8 := Lib.hid (ext_trans hx6 hx7)
    have HC4 := Lib.hid (((hc0.ext hx1).ext hx5).ext hx7)
    clear d0 d1 d2 d3 d4 d5 d6 d7 hx0 hx1 hx2 hx5 hx6 hx7 hc0
    obtain ⟨⟨d0, d1, d2, d3, d4⟩, d5, d6, d7⟩ := HC4.out
    go_wp2_with fail
    refine (HR1.out _ (hl.ext hx8.out) (HP.out.ext hx8.out) (RStrs.ext HU.out hx8.out) (RBools.ext HH.out hx8.out)).mono ?_
    rintro e w5 ⟨rfl, hx9⟩
    have hx10 := Lib.hid (ext_trans hx8.out hx9)
    have HC5 := Lib.hid (HC4.out.ext hx9)
    clear d0 d1 d2 d3 d4 d5 d6 d7 hx9
    obtain ⟨⟨d0, d1, d2, d3, d4⟩, d5, d6, d7⟩ := HC5.out
    go_wp2_with fail
    refine (HR2.out _ (HP.out.ext hx10.out) (RStrs.ext HU.out hx10.out) (RBools.ext HH.out hx10.out)).mono ?_
    rintro e w6 ⟨rfl, hx11⟩
    have hx12 := Lib.hid (ext_trans hx10.out hx11)
    have HC6 := Lib.hid (HC5.out.ext hx11)
    clear d0 d1 d2 d3 d4 d5 d6 d7 hx11
    obtain ⟨⟨d0, d1, d2, d3, d4⟩, d5, d6, d7⟩ := HC6.out
    go_wp2_with fail
    refine (HQ1.out _ (hl.ext hx12.out) (HP.out.ext hx12.out) (RStrs.ext HU.out hx12.out) (RBools.ext HH.out hx12.out)).mono ?_
    rintro e w7 ⟨v1, rfl, hv1, hx13⟩
    have hx14 := Lib.hid (ext_trans hx12.out hx13)
    have HC7 := Lib.hid (HC6.out.ext hx13)
    have HV1 := Lib.hid hv1
    obtain ⟨A1, c1, rfl⟩ := hv1.form
    clear d0 d1 d2 d3 d4 d5 d6 d7 hx13 hv1
    obtain ⟨⟨d0, d1, d2, d3, d4⟩, d5, d6, d7⟩ := HC7.out
    go_wp2_with fail
    refine (HQ2.out _ (HP.out.ext hx14.out) (RStrs.ext HU.out hx14.out) (RBools.ext HH.out hx14.out)).mono ?_
    rintro e w8 ⟨v2, rfl, hv2, hx15⟩
    have hx16 := Lib.hid (ext_trans hx14.out hx15)
    have HV1' := Lib.hid (RStrs.ext HV1.out hx15)
    have HV2 := Lib.hid hv2
    obtain ⟨A2, c2, rfl⟩ := hv2.form
    clear d0 d1 d2 d3 d4 d5 d6 d7 hx15 hv2
    go_wp2_with fail
    refine (HST.out _ _ _ HV1'.out HV2.out).mono ?_
    rintro e w9 ⟨rfl, hx17⟩
    go_wp2_with fail
    go_ret
    exact ⟨rfl, ext_trans hx16.out hx17⟩

end Go.Proofs.YtgflflpeilfinaaDoor
