/- The statement ErasureBasisMatchesSpec: its walk. -/
import Derived.Test.YtgflflpeilfinaaDoorR8i
set_option linter.unusedVariables false
set_option linter.unusedSimpArgs false
set_option linter.unusedSectionVars false
namespace Go.Proofs.YtgflflpeilfinaaDoor
open Go.RowKit

/-- A list of numbers, or of terms, and an error. -/
def IntsPost (L : List Int) (x : Int) (w : World) (e : Ending) (w' : World) : Prop :=
  ∃ v', e = .returned (.tuple #[v', .int .i64 x]) ∧ RInts w' v' L ∧ Ext w w'
def TmsPost (L : List (Int × Int)) (x : Int) (w : World) (e : Ending) (w' : World) : Prop :=
  ∃ v', e = .returned (.tuple #[v', .int .i64 x]) ∧ RTerms w' v' L ∧ Ext w w'
theorem rterms_nil (w : World) : RTerms w (.slice none 0 0) [] := own_tm (w := w) (base := 0) (own_nil' w 0 _ 2) (by simp)

theorem unit_cases {hs : List Bool} (unit : Int) : (unit < 0 ∨ (hs.length : Int) ≤ unit) ∨ ∃ u : Nat, unit = (u : Int) ∧ u < hs.length := by
  by_cases h : unit < 0 ∨ (hs.length : Int) ≤ unit
  · exact .inl h
  · exact .inr ⟨unit.toNat, by omega, by omega⟩

theorem bass (nm : ByteArray) (f d dm : Int) (par : List (List Int)) (vp vh : Value) (hs : List Bool) (hd0 : -9223372036854775808 ≤ d) (hd1 : d ≤ 12) :
    ∃ L x, (∀ w, Laid w → RRows w vp par → RBools w vh hs → Calls Tryd.prog 28 #[vCd nm f d vp dm, vh] w (IntsPost L x w)) ∧
      ∀ w, RRows w vp par → RBools w vh hs → Calls Tryd.prog 31 #[vCd nm f d vp dm, vh] w (IntsPost L x w) := by
  cases hb : hvB f d par hs with
  | false =>
    refine ⟨[], 1, fun w hl hp hh => ?_, fun w hp hh => ?_⟩
    · refine (basis_err nm f d dm par vp vh hs w hl hp hh hd0 (by omega) hb).mono ?_
      rintro e w' ⟨rfl, hx⟩
      exact ⟨_, rfl, ⟨none, 0, rfl, by simp, .inl rfl⟩, hx⟩
    · refine (r8basis_err nm f d dm par vp vh hs w hp hh hd1 hb).mono ?_
      rintro e w' ⟨rfl, hx⟩
      exact ⟨_, rfl, ⟨none, 0, rfl, by simp, .inl rfl⟩, hx⟩
  | true =>
    obtain ⟨m, n, rfl, rfl, hok, hN⟩ := hvB_facts hb
    have V := Vd.of hok hN
    have hl32 : (basisL m n par hs).length ≤ lim := by have := V.len_n; have := V.n32; rw [lim_val]; omega
    refine ⟨nints (basisL m n par hs), 0, fun w hl hp hh => ?_, fun w hp hh => ?_⟩
    · refine (basis_ok nm m n dm par vp vh hs w hl hp hh hok hN).mono ?_
      rintro e w' ⟨v', rfl, ho, hx⟩
      exact ⟨_, rfl, own_ints ho hl32, hx⟩
    · refine (r8basis_ok nm m n dm par vp vh hs w hp hh (by omega) hok hN).mono ?_
      rintro e w' ⟨v', rfl, ho, hx⟩
      exact ⟨_, rfl, own_ints ho hl32, hx⟩

theorem combs (nm : ByteArray) (f d dm unit : Int) (par : List (List Int)) (vp vh : Value) (hs : List Bool) (hd0 : -9223372036854775808 ≤ d) (hd1 : d ≤ 12) :
    ∃ L x, (∀ w, Laid w → RRows w vp par → RBools w vh hs → Calls Tryd.prog 25 #[vCd nm f d vp dm, vh, .int .i64 unit] w (TmsPost L x w)) ∧
      (∀ w, RRows w vp par → RBools w vh hs → Calls Tryd.prog 32 #[vCd nm f d vp dm, vh, .int .i64 unit] w (TmsPost L x w)) ∧
      ∃ z, (∀ w, Laid w → RRows w vp par → RBools w vh hs → Calls Tryd.prog 29 #[vCd nm f d vp dm, vh, .int .i64 unit] w (Ret w (.bool z))) ∧
        ∀ w, RRows w vp par → RBools w vh hs → Calls Tryd.prog 34 #[vCd nm f d vp dm, vh, .int .i64 unit] w (Ret w (.bool z)) := by
  have bad : ∀ (h1 : ∀ w, Laid w → RRows w vp par → RBools w vh hs → Calls Tryd.prog 25 #[vCd nm f d vp dm, vh, .int .i64 unit] w (Ret w (.tuple #[.slice none 0 0, .int .i64 1])))
      (h2 : ∀ w, RRows w vp par → RBools w vh hs → Calls Tryd.prog 32 #[vCd nm f d vp dm, vh, .int .i64 unit] w (Ret w (.tuple #[.slice none 0 0, .int .i64 1]))),
      ∃ L x, (∀ w, Laid w → RRows w vp par → RBools w vh hs → Calls Tryd.prog 25 #[vCd nm f d vp dm, vh, .int .i64 unit] w (TmsPost L x w)) ∧
      (∀ w, RRows w vp par → RBools w vh hs → Calls Tryd.prog 32 #[vCd nm f d vp dm, vh, .int .i64 unit] w (TmsPost L x w)) ∧
      ∃ z, (∀ w, Laid w → RRows w vp par → RBools w vh hs → Calls Tryd.prog 29 #[vCd nm f d vp dm, vh, .int .i64 unit] w (Ret w (.bool z))) ∧
        ∀ w, RRows w vp par → RBools w vh hs → Calls Tryd.prog 34 #[vCd nm f d vp dm, vh, .int .i64 unit] w (Ret w (.bool z)) := by
    intro h1 h2
    refine ⟨[], 1, fun w hl hp hh => ?_, fun w hp hh => ?_, false, fun w hl hp hh => ?_, fun w hp hh => ?_⟩
    · refine (h1 w hl hp hh).mono ?_
      rintro e w' ⟨rfl, hx⟩
      exact ⟨_, rfl, rterms_nil _, hx⟩
    · refine (h2 w hp hh).mono ?_
      rintro e w' ⟨rfl, hx⟩
      exact ⟨_, rfl, rterms_nil _, hx⟩
    · exact recov_err nm f d dm unit par vp vh w hl hp fun W hx => h1 W (hl.ext hx) (hp.ext hx) (RBools.ext hh hx)
    · exact r8rec_err nm f d dm unit par vp vh w hp fun W hx => h2 W (hp.ext hx) (RBools.ext hh hx)
  cases hb : hvB f d par hs with
  | false =>
    refine bad (fun w hl hp hh => ?_) (fun w hp hh => ?_)
    · exact comb_err nm f d dm unit par vp vh hs w hl hp hh hd0 (by omega) hb
    · exact r8comb_err nm f d dm unit par vp vh w hp fun W hx => r8coef_err nm f d dm unit par vp vh W (hp.ext hx) fun W' hx' => r8basis_err nm f d dm par vp vh hs W' ((hp.ext hx).ext hx') (RBools.ext (RBools.ext hh hx) hx') hd1 hb
  | true =>
    obtain ⟨m, n, rfl, rfl, hok, hN⟩ := hvB_facts hb
    rcases unit_cases (hs := hs) unit with hout | ⟨u, rfl, hu⟩
    · refine bad (fun w hl hp hh => ?_) (fun w hp hh => ?_)
      · exact comb_out nm m n dm unit par vp vh hs w hl hp hh hok hN hout
      · exact r8comb_err nm m n dm unit par vp vh w hp fun W hx => r8coef_out nm m n dm unit par vp vh hs W (hp.ext hx) (RBools.ext hh hx) (by omega) hok hN hout
    · have V := Vd.of hok hN
      have htl : (cmbT m n par hs u).length ≤ lim := by have := V.tm_len (u := u); rw [lim_val]; omega
      have hpost : ∀ (w : World) (e : Ending) (w' : World), TermsPost (recB m n par hs u) (cmbT m n par hs u) w e w' → TmsPost (if recB m n par hs u then cmbT m n par hs u else []) (if recB m n par hs u then 0 else 11) w e w' := by
        intro w e w' ⟨h1, h2, hx⟩
        cases hr : recB m n par hs u with
        | false =>
          obtain rfl := h2 hr
          exact ⟨_, rfl, rterms_nil _, hx⟩
        | true =>
          obtain ⟨v', rfl, ho⟩ := h1 hr
          exact ⟨_, rfl, own_tm ho htl, hx⟩
      refine ⟨if recB m n par hs u then cmbT m n par hs u else [], if recB m n par hs u then 0 else 11, fun w hl hp hh => ?_, fun w hp hh => ?_, recB m n par hs u, fun w hl hp hh => ?_, fun w hp hh => ?_⟩
      · exact (comb_ok nm m n dm u par vp vh hs w hl hp hh hok hN hu).mono (hpost w)
      · exact (r8comb_ok nm m n dm u par vp vh hs w hp hh (by omega) hok hN hu).mono (hpost w)
      · exact recov_ok nm m n dm u par vp vh hs w hl hp hh hok hN hu
      · exact r8rec_ok nm m n dm u par vp vh hs w hp hh (by omega) hok hN hu

theorem Vd.all_iff {m n : Nat} {par : List (List Int)} {hs : List Bool} (V : Vd m n par hs) : allR m n par hs = decide ((basisL m n par hs).length = n) := by
  rw [Bool.eq_iff_iff, decide_eq_true_eq, ← V.rec_all]
  unfold allR
  rw [List.all_eq_true]
  exact ⟨fun h u hu => h u (List.mem_range.2 hu), fun h u hu => h u (List.mem_range.1 hu)⟩
theorem decs (nm : ByteArray) (f d dm : Int) (par : List (List Int)) (vp vh : Value) (hs : List Bool) (hd0 : -9223372036854775808 ≤ d) (hd1 : d ≤ 12) :
    ∃ z, (∀ w, Laid w → RRows w vp par → RBools w vh hs → Calls Tryd.prog 30 #[vCd nm f d vp dm, vh] w (Ret w (.bool z))) ∧
      ∀ w, RRows w vp par → RBools w vh hs → Calls Tryd.prog 35 #[vCd nm f d vp dm, vh] w (Ret w (.bool z)) := by
  cases hb : hvB f d par hs with
  | false =>
    exact ⟨false, fun w hl hp hh => decod_err nm f d dm par vp vh hs w hl hp hh hd0 (by omega) hb, fun w hp hh => r8dec_err nm f d dm par vp vh hs w hp hh hd1 hb⟩
  | true =>
    obtain ⟨m, n, rfl, rfl, hok, hN⟩ := hvB_facts hb
    have V := Vd.of hok hN
    refine ⟨allR m n par hs, fun w hl hp hh => ?_, fun w hp hh => r8dec_ok nm m n dm par vp vh hs w hp hh (by omega) hok hN⟩
    rw [V.all_iff]
    exact decod_ok nm m n dm par vp vh hs w hl hp hh hok hN

theorem RTerms.form {w : World} {v : Value} {L : List (Int × Int)} (h : RTerms w v L) : ∃ A c, v = .slice A L.length c := by
  obtain ⟨A, c, rfl, -, -⟩ := h
  exact ⟨A, c, rfl⟩

set_option maxRecDepth 100000 in
set_option maxHeartbeats 4000000 in
theorem lawB_any (nm : ByteArray) (f d dm : Int) (par : List (List Int)) (vp vh : Value) (hs : List Bool) (unit : Int) (w : World) (hl : Laid w) (hp : RRows w vp par) (hh : RBools w vh hs) (hwf : (Lit.int .i64 unit).wf = true) (hd0 : -9223372036854775808 ≤ d) (hd1 : d ≤ 9223372036854775807) :
    Calls Tryd.prog 8 #[vCd nm f d vp dm, vh, .int .i64 unit] w (Ret w (.bool true)) := by
  have HP := Lib.hid hp
  have HH := Lib.hid hh
  obtain ⟨A, c, rfl, hlen, hvc⟩ := hp.form
  obtain ⟨B, cB, rfl, -, -⟩ := hh
  rw [List.length_map] at HH ⊢
  have hx0 : Ext w (w.alloc (.cells #[.string nm, .int .i64 f, .int .i64 d, .slice A par.length c, .int .i64 dm] 24)) := ext_alloc (ext_refl w) _
  have hc0 := CdAt.new w nm f d dm (.slice A par.length c) 24
  obtain ⟨W0, hW0⟩ : ∃ W0, W0 = w.alloc (.cells #[.string nm, .int .i64 f, .int .i64 d, .slice A par.length c, .int .i64 dm] 24) := ⟨_, rfl⟩
  have HW0 := Lib.hid hW0
  rw [← hW0] at hx0 hc0
  have hcase : smallB d par = false ∨ (smallB d par = true ∧ 24 < hs.length) ∨ (smallB d par = true ∧ hs.length ≤ 24) := by
    cases smallB d par
    · exact .inl rfl
    · rcases Nat.lt_or_ge 24 hs.length with h | h
      · exact .inr (.inl ⟨rfl, h⟩)
      · exact .inr (.inr ⟨rfl, h⟩)
  clear hp hW0 hwf
  rcases hcase with hsm | ⟨hsm, h24⟩ | ⟨hsm, h24⟩
  · have HSM := Lib.hid hsm
    clear hsm
    go_enter Tryd.func8, Tryd.ntmps8
    go_wp2_with fail
    rw [← HW0.out]
    refine (sanity8_any _ (hl.ext hx0)).mono ?_
    rintro e w1 ⟨rfl, hx1⟩
    obtain ⟨d0, d1, d2, d3, d4⟩ := hc0.ext hx1
    have hx2 := ext_trans hx0 hx1
    go_wp2_with fail
    refine (small_any nm f d dm par _ _ (HP.out.ext hx2)).mono ?_
    rintro e w3 ⟨rfl, hx5⟩
    rw [HSM.out]
    go_wp2_with fail
    go_ret
    exact ⟨rfl, ext_trans hx2 hx5⟩
  · have HSM := Lib.hid hsm
    clear hsm
    go_enter Tryd.func8, Tryd.ntmps8
    go_wp2_with fail
    rw [← HW0.out]
    refine (sanity8_any _ (hl.ext hx0)).mono ?_
    rintro e w1 ⟨rfl, hx1⟩
    obtain ⟨d0, d1, d2, d3, d4⟩ := hc0.ext hx1
    have hx2 := ext_trans hx0 hx1
    go_wp2_with fail
    refine (small_any nm f d dm par _ _ (HP.out.ext hx2)).mono ?_
    rintro e w3 ⟨rfl, hx5⟩
    rw [HSM.out]
    go_wp2_with fail
    go_ret
    exact ⟨rfl, ext_trans hx2 hx5⟩
  · have hd12 : d ≤ 12 := by
      unfold smallB at hsm
      simp only [Bool.and_eq_true, decide_eq_true_eq] at hsm
      exact hsm.1
    have HSM := Lib.hid hsm
    obtain ⟨L, x, hb1, hb2⟩ := bass nm f d dm par (.slice A par.length c) (.slice B hs.length cB) hs hd0 hd12
    obtain ⟨T, y, hm1, hm2, z, hr1, hr2⟩ := combs nm f d dm unit par (.slice A par.length c) (.slice B hs.length cB) hs hd0 hd12
    obtain ⟨q, hq1, hq2⟩ := decs nm f d dm par (.slice A par.length c) (.slice B hs.length cB) hs hd0 hd12
    have HB1 := Lib.hid hb1
    have HB2 := Lib.hid hb2
    have HM1 := Lib.hid hm1
    have HM2 := Lib.hid hm2
    have HR1 := Lib.hid hr1
    have HR2 := Lib.hid hr2
    have HQ1 := Lib.hid hq1
    have HQ2 := Lib.hid hq2
    have HSI : Hid (∀ v u W, RInts W v L → RInts W u L → Calls Tryd.prog 18 #[v, u] W (Ret W (.bool true))) := fun v u W h1 h2 => by
      have := same_ints L L v u W h1 h2
      rwa [decide_eq_true rfl] at this
    have HST : Hid (∀ v u W, RTerms W v T → RTerms W u T → Calls Tryd.prog 33 #[v, u] W (Ret W (.bool true))) := fun v u W h1 h2 => by
      have := same_terms T T v u W h1 h2
      rwa [decide_eq_true rfl] at this
    have e1 : (x != x) = false := by simp
    have e2 : (y != y) = false := by simp
    have e3 : (z == z) = true := by simp
    have e4 : (q == q) = true := by simp
    clear hsm hb1 hb2 hm1 hm2 hr1 hr2 hq1 hq2
    go_enter Tryd.func8, Tryd.ntmps8
    go_wp2_with fail
    rw [← HW0.out]
    refine (sanity8_any _ (hl.ext hx0)).mono ?_
    rintro e w1 ⟨rfl, hx1⟩
    obtain ⟨d0, d1, d2, d3, d4⟩ := hc0.ext hx1
    have hx2 := ext_trans hx0 hx1
    go_wp2_with fail
    refine (small_any nm f d dm par _ _ (HP.out.ext hx2)).mono ?_
    rintro e w3 ⟨rfl, hx5⟩
    rw [HSM.out]
    have hx6 := Lib.hid (ext_trans hx2 hx5)
    have HC3 := Lib.hid ((hc0.ext hx1).ext hx5)
    clear d0 d1 d2 d3 d4 hx0 hx1 hx2 hx5 hc0
    obtain ⟨d0, d1, d2, d3, d4⟩ := HC3.out
    go_wp2_with fail
    refine (HB1.out _ (hl.ext hx6.out) (HP.out.ext hx6.out) (RBools.ext HH.out hx6.out)).mono ?_
    rintro e w4 ⟨v1, rfl, hv1, hx7⟩
    have HC4 := Lib.hid (HC3.out.ext hx7)
    have hx8 := Lib.hid (ext_trans hx6.out hx7)
    have HV1 := Lib.hid hv1
    obtain ⟨A1, c1, rfl⟩ := hv1.form
    clear d0 d1 d2 d3 d4 hx7 hv1
    obtain ⟨d0, d1, d2, d3, d4⟩ := HC4.out
    go_wp2_with fail
    refine (HB2.out _ (HP.out.ext hx8.out) (RBools.ext HH.out hx8.out)).mono ?_
    rintro e w5 ⟨v2, rfl, hv2, hx9⟩
    have HC5 := Lib.hid (HC4.out.ext hx9)
    have hx10 := Lib.hid (ext_trans hx8.out hx9)
    have HV1 := Lib.hid (RInts.ext HV1.out hx9)
    have HV2 := Lib.hid hv2
    obtain ⟨A2, c2, rfl⟩ := hv2.form
    clear d0 d1 d2 d3 d4 hx9 hv2
    obtain ⟨d0, d1, d2, d3, d4⟩ := HC5.out
    go_wp2_with fail
    refine (HM1.out _ (hl.ext hx10.out) (HP.out.ext hx10.out) (RBools.ext HH.out hx10.out)).mono ?_
    rintro e w6 ⟨v3, rfl, hv3, hx11⟩
    have HC6 := Lib.hid (HC5.out.ext hx11)
    have hx12 := Lib.hid (ext_trans hx10.out hx11)
    have HV1 := Lib.hid (RInts.ext HV1.out hx11)
    have HV2 := Lib.hid (RInts.ext HV2.out hx11)
    have HV3 := Lib.hid hv3
    obtain ⟨A3, c3, rfl⟩ := hv3.form
    clear d0 d1 d2 d3 d4 hx11 hv3
    obtain ⟨d0, d1, d2, d3, d4⟩ := HC6.out
    go_wp2_with fail
    refine (HM2.out _ (HP.out.ext hx12.out) (RBools.ext HH.out hx12.out)).mono ?_
    rintro e w7 ⟨v4, rfl, hv4, hx13⟩
    have HC7 := Lib.hid (HC6.out.ext hx13)
    have hx14 := Lib.hid (ext_trans hx12.out hx13)
    have HV1 := Lib.hid (RInts.ext HV1.out hx13)
    have HV2 := Lib.hid (RInts.ext HV2.out hx13)
    have HV3 := Lib.hid (RTerms.ext HV3.out hx13)
    have HV4 := Lib.hid hv4
    obtain ⟨A4, c4, rfl⟩ := hv4.form
    clear d0 d1 d2 d3 d4 hx13 hv4
    go_wp2_with fail
    refine (HSI.out _ _ _ HV1.out HV2.out).mono ?_
    rintro e w8 ⟨rfl, hx15⟩
    have hx16 := Lib.hid (ext_trans hx14.out hx15)
    go_wp2_with fail
    refine (HST.out _ _ _ (RTerms.ext HV3.out hx15) (RTerms.ext HV4.out hx15)).mono ?_
    rintro e w9 ⟨rfl, hx17⟩
    have hx18 := Lib.hid (ext_trans hx16.out hx17)
    obtain ⟨p0, p1, p2, p3, p4⟩ := (HC7.out.ext hx15).ext hx17
    have hxc : Ext w9 w9 := ext_refl w9
    clear hx15 hx17 HV1 HV2 HV3 HV4 HC7 HC6 HC5 HC4 HC3
    go_wp2_with fail
    go_region_held3 (fun w' => w'.cell? ⟨w.heap.size, 0, none⟩ = some (.string nm) ∧ w'.cell? ⟨w.heap.size, 1, none⟩ = some (.int .i64 f) ∧ w'.cell? ⟨w.heap.size, 2, none⟩ = some (.int .i64 d) ∧ w'.cell? ⟨w.heap.size, 3, none⟩ = some (.slice A par.length c) ∧ w'.cell? ⟨w.heap.size, 4, none⟩ = some (.int .i64 dm)) ((refine (fun (h : Ext w9 _) => ⟨ext_cell h p0, ext_cell h p1, ext_cell h p2, ext_cell h p3, ext_cell h p4⟩) ?_; first | exact hxc | exact ext_drew hxc))
      (first
        | (go_at_call 29
           with_reducible refine (HR1.out _ (hl.ext (ext_trans hx18.out (by first | exact hxc | exact ext_drew hxc))) (HP.out.ext (ext_trans hx18.out (by first | exact hxc | exact ext_drew hxc))) (RBools.ext HH.out (ext_trans hx18.out (by first | exact hxc | exact ext_drew hxc)))).mono ?_
           rintro e wa ⟨rfl, hxa⟩
           replace hxc : Ext w9 wa := by first | exact ext_trans hxc hxa | exact ext_trans (ext_drew hxc) hxa)
        | (go_at_call 34
           with_reducible refine (HR2.out _ (HP.out.ext (ext_trans hx18.out (by first | exact hxc | exact ext_drew hxc))) (RBools.ext HH.out (ext_trans hx18.out (by first | exact hxc | exact ext_drew hxc)))).mono ?_
           rintro e wa ⟨rfl, hxa⟩
           replace hxc : Ext w9 wa := by first | exact ext_trans hxc hxa | exact ext_trans (ext_drew hxc) hxa)
        | (go_at_call 30
           with_reducible refine (HQ1.out _ (hl.ext (ext_trans hx18.out (by first | exact hxc | exact ext_drew hxc))) (HP.out.ext (ext_trans hx18.out (by first | exact hxc | exact ext_drew hxc))) (RBools.ext HH.out (ext_trans hx18.out (by first | exact hxc | exact ext_drew hxc)))).mono ?_
           rintro e wa ⟨rfl, hxa⟩
           replace hxc : Ext w9 wa := by first | exact ext_trans hxc hxa | exact ext_trans (ext_drew hxc) hxa)
        | (go_at_call 35
           with_reducible refine (HQ2.out _ (HP.out.ext (ext_trans hx18.out (by first | exact hxc | exact ext_drew hxc))) (RBools.ext HH.out (ext_trans hx18.out (by first | exact hxc | exact ext_drew hxc)))).mono ?_
           rintro e wa ⟨rfl, hxa⟩
           replace hxc : Ext w9 wa := by first | exact ext_trans hxc hxa | exact ext_trans (ext_drew hxc) hxa))
    all_goals
      go_wp2_with fail
      go_ret
      exact ⟨rfl, ext_trans hx18.out hxc⟩

end Go.Proofs.YtgflflpeilfinaaDoor
