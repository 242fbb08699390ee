/- The walks of erasure.Recover, Decode. -/
import Derived.Test.YtgflflpeilfinaaDoorPureB
set_option linter.unusedVariables false
set_option linter.unusedSectionVars false
set_option linter.unusedSimpArgs false
namespace Go.Proofs.YtgflflpeilfinaaDoor
open Go.RowKit

theorem fit_any (nm : ByteArray) (f d dm : Int) (par : List (List Int)) (vp vu vh : Value) (us : List ByteArray) (hs : List Bool) (w : World) (hl : Laid w) (hp : RRows w vp par) (hu : RStrs w vu us) (hh : RBools w vh hs) (hsz : ∀ u ∈ us, u.size ≤ lim) (hd0 : -9223372036854775808 ≤ d) (hd1 : d ≤ 9223372036854775807) :
    Calls Tryd.prog 59 #[vCd nm f d vp dm, vu, vh] w (Ret w (.bool (fitB f d par us hs))) := by
  by_cases h : (okB f d par && (decide ((us.length : Int) = d + par.length) && decide ((hs.length : Int) = d + par.length))) = true
  · simp only [Bool.and_eq_true, decide_eq_true_eq] at h
    obtain ⟨hok, h1, h2⟩ := h
    obtain ⟨m, n, rfl, rfl, hm, hn1, hn2, hrows⟩ := okB_facts hok
    have e : fitB m n par us hs = uniB m (puTo us hs hs.length) := by
      unfold fitB; rw [hok, decide_eq_true h1, decide_eq_true h2]; rfl
    rw [e]
    exact fit_len nm m n dm par vp vu vh us hs w hl hp hu hh hsz hok (by omega) (by omega)
  · have h' : (okB f d par && (decide ((us.length : Int) = d + par.length) && decide ((hs.length : Int) = d + par.length))) = false := by simpa using h
    have e : fitB f d par us hs = false := by
      have : fitB f d par us hs = ((okB f d par && (decide ((us.length : Int) = d + par.length) && decide ((hs.length : Int) = d + par.length))) && uniB f (puTo us hs hs.length)) := by
        unfold fitB; simp only [Bool.and_assoc]
      rw [this, h']; rfl
    rw [e]
    exact fit_no nm f d dm par vp vu vh us hs w hl hp hu hh hd0 hd1 h'
theorem fitB_facts {f d : Int} {par : List (List Int)} {us : List ByteArray} {hs : List Bool} (h : fitB f d par us hs = true) : ∃ m n : Nat, f = m ∧ d = n ∧ okB m n par = true ∧ us.length = n + par.length ∧ hs.length = n + par.length ∧ uniB m (puTo us hs hs.length) = true := by
  unfold fitB at h
  simp only [Bool.and_eq_true, decide_eq_true_eq] at h
  obtain ⟨hok, h1, h2, h3⟩ := h
  obtain ⟨m, n, rfl, rfl, hm, hn1, hn2, hrows⟩ := okB_facts hok
  exact ⟨m, n, rfl, rfl, hok, by omega, by omega, h3⟩

/-- What Recover and Decode compute for a unit. -/
def valR (m n : Nat) (par : List (List Int)) (us : List ByteArray) (hs : List Bool) (u : Nat) : ByteArray := combR m (coefs (cmbT m n par hs u)) (picks us (cmbT m n par hs u)) (szU us hs)

set_option maxHeartbeats 1000000 in
/-- Recover where it refuses: by fit, or by what Combination says. -/
theorem recover_arg (nm : ByteArray) (f d dm unit : Int) (par : List (List Int)) (vp vu vh : Value) (us : List ByteArray) (hs : List Bool) (w : World) (hl : Laid w) (hp : RRows w vp par) (hu : RStrs w vu us) (hh : RBools w vh hs) (hsz : ∀ u ∈ us, u.size ≤ lim) (hd0 : -9223372036854775808 ≤ d) (hd1 : d ≤ 9223372036854775807) (hb : fitB f d par us hs = false) :
    Calls Tryd.prog 36 #[vCd nm f d vp dm, vu, vh, .int .i64 unit] w (Ret w (.tuple #[.string ⟨#[]⟩, .int .i64 1])) := by
  have HF := Lib.hid fun W h1 h2 h3 h4 => fit_any nm f d dm par vp vu vh us hs W h1 h2 h3 h4 hsz hd0 hd1
  rw [hb] at HF
  have HP := Lib.hid hp
  have HU := Lib.hid hu
  have HH := Lib.hid hh
  obtain ⟨A, c, rfl, hlen, hvc⟩ := hp.form
  have hx0 : Ext w (w.alloc (.cells #[.string nm, .int .i64 f, .int .i64 d, .slice A par.length c, .int .i64 dm] 24)) := ext_alloc (ext_refl w) _
  clear hp hu hh hsz hb
  go_enter Tryd.func36, Tryd.ntmps36
  go_wp2_with fail
  refine (HF.out _ (hl.ext hx0) (HP.out.ext hx0) (RStrs.ext HU.out hx0) (RBools.ext HH.out hx0)).mono ?_
  rintro e w1 ⟨rfl, hx1⟩
  go_wp2_with fail
  go_ret2
  exact ⟨rfl, ext_trans hx0 hx1⟩

set_option maxHeartbeats 1000000 in
theorem recover_out (nm : ByteArray) (f d dm unit : Int) (par : List (List Int)) (vp vu vh : Value) (us : List ByteArray) (hs : List Bool) (w : World) (hl : Laid w) (hp : RRows w vp par) (hu : RStrs w vu us) (hh : RBools w vh hs) (hsz : ∀ u ∈ us, u.size ≤ lim) (hd0 : -9223372036854775808 ≤ d) (hd1 : d ≤ 9223372036854775807) (hb : fitB f d par us hs = true)
    (hout : unit < 0 ∨ (hs.length : Int) ≤ unit) :
    Calls Tryd.prog 36 #[vCd nm f d vp dm, vu, vh, .int .i64 unit] w (Ret w (.tuple #[.string ⟨#[]⟩, .int .i64 1])) := by
  have HF := Lib.hid fun W h1 h2 h3 h4 => fit_any nm f d dm par vp vu vh us hs W h1 h2 h3 h4 hsz hd0 hd1
  rw [hb] at HF
  obtain ⟨m, n, rfl, rfl, hok, h1, h2, h3⟩ := fitB_facts hb
  have HC := Lib.hid fun W h1 h2' h3 => comb_out nm m n dm unit par vp vh hs W h1 h2' h3 hok h2 hout
  have HP := Lib.hid hp
  have HU := Lib.hid hu
  have HH := Lib.hid hh
  obtain ⟨A, c, rfl, hlen, hvc⟩ := hp.form
  have hx0 : Ext w (w.alloc (.cells #[.string nm, .int .i64 m, .int .i64 n, .slice A par.length c, .int .i64 dm] 24)) := ext_alloc (ext_refl w) _
  clear hp hu hh hsz hb hok h1 h2 h3 hout
  go_enter Tryd.func36, Tryd.ntmps36
  go_wp2_with fail
  refine (HF.out _ (hl.ext hx0) (HP.out.ext hx0) (RStrs.ext HU.out hx0) (RBools.ext HH.out hx0)).mono ?_
  rintro e w1 ⟨rfl, hx1⟩
  have hx2 := ext_trans hx0 hx1
  have c0 := ext_cell hx1 (a := ⟨w.heap.size, 0, none⟩) (v := .string nm) (by simp [go_sem])
  have c1 := ext_cell hx1 (a := ⟨w.heap.size, 1, none⟩) (v := .int .i64 m) (by simp [go_sem])
  have c2 := ext_cell hx1 (a := ⟨w.heap.size, 2, none⟩) (v := .int .i64 n) (by simp [go_sem])
  have c3 := ext_cell hx1 (a := ⟨w.heap.size, 3, none⟩) (v := .slice A par.length c) (by simp [go_sem])
  have c4 := ext_cell hx1 (a := ⟨w.heap.size, 4, none⟩) (v := .int .i64 dm) (by simp [go_sem])
  go_wp2_with fail
  refine (HC.out _ (hl.ext hx2) (HP.out.ext hx2) (RBools.ext HH.out hx2)).mono ?_
  rintro e w2 ⟨rfl, hx3⟩
  go_wp2_with fail
  go_ret2
  exact ⟨rfl, ext_trans hx2 hx3⟩

/-- What Recover answers of a unit of the stripe. -/
def rcvE (z : Bool) (v : ByteArray) : Ending := if z then .returned (.tuple #[.string v, .int .i64 0]) else .returned (.tuple #[.string ⟨#[]⟩, .int .i64 11])
def RcvPost (z : Bool) (v : ByteArray) (w : World) (e : Ending) (w' : World) : Prop := e = rcvE z v ∧ Ext w w'

set_option maxHeartbeats 1000000 in
theorem recover_ok (nm : ByteArray) (m n : Nat) (dm : Int) (u : Nat) (par : List (List Int)) (vp vu vh : Value) (us : List ByteArray) (hs : List Bool) (w : World) (hl : Laid w) (hp : RRows w vp par) (hu : RStrs w vu us) (hh : RBools w vh hs) (hsz : ∀ u ∈ us, u.size ≤ lim) (hb : fitB m n par us hs = true) (hul : u < hs.length) :
    Calls Tryd.prog 36 #[vCd nm m n vp dm, vu, vh, .int .i64 u] w (RcvPost (recB m n par hs u) (valR m n par us hs u) w) := by
  obtain ⟨m', n', em, en, hok, h1, h2, h3⟩ := fitB_facts hb
  obtain rfl : m = m' := by omega
  obtain rfl : n = n' := by omega
  have V := Vd.of hok h2
  have hn32 := V.n32
  have HF := Lib.hid fun W h1 h2 h3 h4 => fit_any nm m n dm par vp vu vh us hs W h1 h2 h3 h4 hsz (by omega) (by omega)
  rw [hb] at HF
  have HC := Lib.hid fun W h1 h2' h3 => comb_ok nm m n dm u par vp vh hs W h1 h2' h3 hok h2 hul
  have HSU : Hid (recB m n par hs u = true → ∀ vl W, Laid W → RStrs W vu us → RTerms W vl (cmbT m n par hs u) → Calls Tryd.prog 60 #[vCd nm m n vp dm, vu, vl] W (Ret W (.string (valR m n par us hs u)))) := by
    show _ → ∀ vl W, _ → _ → _ → _
    intro hr vl W g1 g2 g3
    have hsz' := V.sz h1 hsz h3 (by omega) hr
    obtain ⟨A, c, rfl, _, hvc⟩ := hp.form
    exact sum_any nm m n dm V.hm _ vu vl us (cmbT m n par hs u) (szU us hs) W g1 hvc g2 g3 (V.tm_ne (by omega) hr) V.tm_len (V.tmOk h1 h3 (by omega)) hsz'.1 hsz'.2
  have HTL := Lib.hid (V.tm_len (u := u))
  have HP := Lib.hid hp
  have HU := Lib.hid hu
  have HH := Lib.hid hh
  obtain ⟨A, c, rfl, hlen, hvc⟩ := hp.form
  have hx0 : Ext w (w.alloc (.cells #[.string nm, .int .i64 m, .int .i64 n, .slice A par.length c, .int .i64 dm] 24)) := ext_alloc (ext_refl w) _
  obtain ⟨z, hz⟩ : ∃ z, z = recB m n par hs u := ⟨_, rfl⟩
  rw [← hz] at HC HSU ⊢
  clear hp hu hh hsz hb hok h1 h2 h3 V em en hul hz
  go_enter Tryd.func36, Tryd.ntmps36
  go_wp2_with fail
  refine (HF.out _ (hl.ext hx0) (HP.out.ext hx0) (RStrs.ext HU.out hx0) (RBools.ext HH.out hx0)).mono ?_
  rintro e w1 ⟨rfl, hx1⟩
  have hx2 := ext_trans hx0 hx1
  have c0 := ext_cell hx1 (a := ⟨w.heap.size, 0, none⟩) (v := .string nm) (by simp [go_sem])
  have c1 := ext_cell hx1 (a := ⟨w.heap.size, 1, none⟩) (v := .int .i64 m) (by simp [go_sem])
  have c2 := ext_cell hx1 (a := ⟨w.heap.size, 2, none⟩) (v := .int .i64 n) (by simp [go_sem])
  have c3 := ext_cell hx1 (a := ⟨w.heap.size, 3, none⟩) (v := .slice A par.length c) (by simp [go_sem])
  have c4 := ext_cell hx1 (a := ⟨w.heap.size, 4, none⟩) (v := .int .i64 dm) (by simp [go_sem])
  go_wp2_with fail
  refine (HC.out _ (hl.ext hx2) (HP.out.ext hx2) (RBools.ext HH.out hx2)).mono ?_
  rintro e w2 hpost
  have hx4 := ext_trans hx2 hpost.2.2
  cases z with
  | false =>
    obtain rfl := hpost.2.1 rfl
    clear hpost
    go_wp2_with fail
    go_ret2
    exact ⟨rfl, hx4⟩
  | true =>
    have hx3 := hpost.2.2
    obtain ⟨v', rfl, ho⟩ := hpost.1 rfl
    have HRT := Lib.hid (own_tm ho (by have := HTL.out; rw [lim_val]; omega))
    have d0 := ext_cell hx3 c0
    have d1 := ext_cell hx3 c1
    have d2 := ext_cell hx3 c2
    have d3 := ext_cell hx3 c3
    have d4 := ext_cell hx3 c4
    clear hpost ho
    go_wp2_with fail
    refine (HSU.out (by first | rfl | trivial) v' _ (hl.ext hx4) (RStrs.ext HU.out hx4) HRT.out).mono ?_
    rintro e w3 ⟨rfl, hx5⟩
    go_wp2_with fail
    go_ret2
    exact ⟨rfl, ext_trans hx4 hx5⟩

end Go.Proofs.YtgflflpeilfinaaDoor

/- The walk of the examples that every statement of layer 8 plays first. -/
set_option linter.unusedVariables false
set_option linter.unusedSimpArgs false
namespace Go.Proofs.YtgflflpeilfinaaDoor
open Go.RowKit

def xPar : List (List Int) := [[1, 1, 1], [1, 2, 0]]
def xData : List ByteArray := [⟨#[1]⟩, ⟨#[2]⟩, ⟨#[4]⟩]
def xUnits : List ByteArray := [⟨#[1]⟩, ⟨#[]⟩, ⟨#[]⟩, ⟨#[]⟩, ⟨#[5]⟩]
def xHave : List Bool := [true, false, false, false, true]
theorem x_enc : encB (8 : Nat) (3 : Nat) xPar xData = true := by decide +kernel
theorem x_encL : encL 8 xPar xData = [⟨#[1]⟩, ⟨#[2]⟩, ⟨#[4]⟩, ⟨#[7]⟩, ⟨#[5]⟩] := by decide +kernel
theorem x_fit : fitB (8 : Nat) (3 : Nat) xPar xUnits xHave = true := by decide +kernel
theorem x_rec1 : recB 8 3 xPar xHave 1 = true := by decide +kernel
theorem x_rec2 : recB 8 3 xPar xHave 2 = false := by decide +kernel
theorem x_val1 : valR 8 3 xPar xUnits xHave 1 = ⟨#[2]⟩ := by decide +kernel
theorem x_width : widthI (8 : Nat) (3 : Nat) xPar = 5 := by decide +kernel


theorem sl_of_row {w : World} {g : Nat} {t : TypeId} {cs : Array Value} (h : w.heap[g]? = some (.cells cs t (0, 0))) (n : Nat) (hn : cs.size = n) (hl : n ≤ lim) : Sl w (.slice (some ⟨g, 0, none⟩) n n) cs.toList :=
  ⟨_, n, by simp [hn], by simpa [hn] using hl, .inr ⟨g, 0, rfl, fun j u hu => by rw [Nat.zero_add, cell_of_row w g j _ _ (0, 0) h]; simpa using hu⟩⟩

theorem x_encode (vp vu : Value) (W : World) (hl : Laid W) (hp : RRows W vp xPar) (hu : RStrs W vu xData) :
    Calls Tryd.prog 16 #[.agg #[.string ⟨#[]⟩, .int .i64 8, .int .i64 3, vp, .int .i64 0], vu] W fun e w' => ∃ g c, e = .returned (.tuple #[.slice (some ⟨g, 0, none⟩) 5 c, .int .i64 0]) ∧ w'.cell? ⟨g, 4, none⟩ = some (.string ⟨#[5]⟩) ∧ Ext W w' := by
  refine (encode_ok ⟨#[]⟩ 8 3 0 xPar vp vu xData W hl hp hu (by decide +kernel) x_enc).mono ?_
  rintro e w' ⟨v', rfl, ho, hx⟩
  rw [x_encL] at ho
  obtain ⟨g, c, rfl⟩ := own_some ho (by decide)
  refine ⟨g, c, rfl, ?_, hx⟩
  rw [ho.cellAt 4 (by decide)]
  rfl
theorem x_recover1 (vp vu vh : Value) (W : World) (hl : Laid W) (hp : RRows W vp xPar) (hu : RStrs W vu xUnits) (hh : RBools W vh xHave) :
    Calls Tryd.prog 36 #[.agg #[.string ⟨#[]⟩, .int .i64 8, .int .i64 3, vp, .int .i64 0], vu, vh, .int .i64 1] W (Ret W (.tuple #[.string ⟨#[2]⟩, .int .i64 0])) := by
  refine (recover_ok ⟨#[]⟩ 8 3 0 1 xPar vp vu vh xUnits xHave W hl hp hu hh (by decide +kernel) x_fit (by decide)).mono ?_
  rintro e w' ⟨he, hx⟩
  rw [x_rec1, x_val1] at he
  exact ⟨he, hx⟩
theorem x_recover2 (vp vu vh : Value) (W : World) (hl : Laid W) (hp : RRows W vp xPar) (hu : RStrs W vu xUnits) (hh : RBools W vh xHave) :
    Calls Tryd.prog 36 #[.agg #[.string ⟨#[]⟩, .int .i64 8, .int .i64 3, vp, .int .i64 0], vu, vh, .int .i64 2] W (Ret W (.tuple #[.string ⟨#[]⟩, .int .i64 11])) := by
  refine (recover_ok ⟨#[]⟩ 8 3 0 2 xPar vp vu vh xUnits xHave W hl hp hu hh (by decide +kernel) x_fit (by decide)).mono ?_
  rintro e w' ⟨he, hx⟩
  rw [x_rec2] at he
  exact ⟨he, hx⟩
theorem x_width5 (vp : Value) (W : World) (hl : Laid W) (hp : RRows W vp xPar) :
    Calls Tryd.prog 21 #[.agg #[.string ⟨#[]⟩, .int .i64 8, .int .i64 3, vp, .int .i64 0]] W (Ret W (.int .i64 5)) := by
  have := eraWidth_any ⟨#[]⟩ (8 : Nat) (3 : Nat) 0 xPar vp W hl hp (by decide) (by decide)
  rw [x_width] at this
  exact this

set_option maxRecDepth 100000 in
set_option maxHeartbeats 4000000 in
theorem sanity8_any (w : World) (hl : Laid w) : Calls Tryd.prog 11 #[] w (Ret w (.bool true)) := by
  go_enter Tryd.func11, Tryd.ntmps11
  go_wp2_with fail
  have k0 := row_alloc w #[.int .i64 1, .int .i64 1, .int .i64 1] 3 w.heap.size rfl
  have k1 := row_alloc (w.alloc (.cells #[.int .i64 1, .int .i64 1, .int .i64 1] 3)) #[.int .i64 1, .int .i64 2, .int .i64 0] 3 (w.heap.size + 1) (by simp)
  have hx0 : Ext w ((w.alloc (.cells #[.int .i64 1, .int .i64 1, .int .i64 1] 3)).alloc (.cells #[.int .i64 1, .int .i64 2, .int .i64 0] 3)) := ext_alloc (ext_alloc (ext_refl w) _) _
  have k0 := row_alloc_old k0 (.cells #[.int .i64 1, .int .i64 2, .int .i64 0] 3)
  obtain ⟨W2, hW2⟩ : ∃ W2, W2 = (w.alloc (.cells #[.int .i64 1, .int .i64 1, .int .i64 1] 3)).alloc (.cells #[.int .i64 1, .int .i64 2, .int .i64 0] 3) := ⟨_, rfl⟩
  have hs2 : W2.heap.size = w.heap.size + 1 + 1 := by rw [hW2]; simp
  rw [← hW2] at k0 k1 hx0 ⊢
  have k2 := row_alloc W2 #[.slice (some ⟨w.heap.size, 0, none⟩) 3 3, .slice (some ⟨w.heap.size + 1, 0, none⟩) 3 3] 29 (w.heap.size + 1 + 1) (by rw [hs2])
  have hx2 : Ext W2 (W2.alloc (.cells #[.slice (some ⟨w.heap.size, 0, none⟩) 3 3, .slice (some ⟨w.heap.size + 1, 0, none⟩) 3 3] 29)) := ext_alloc (ext_refl _) _
  have hRR : RRows (W2.alloc (.cells #[.slice (some ⟨w.heap.size, 0, none⟩) 3 3, .slice (some ⟨w.heap.size + 1, 0, none⟩) 3 3] 29)) (.slice (some ⟨w.heap.size + 1 + 1, 0, none⟩) 2 2) xPar :=
    ⟨_, sl_of_row k2 2 rfl (by decide), ⟨sl_of_row (row_ext k0 hx2) 3 rfl (by decide), ⟨sl_of_row (row_ext k1 hx2) 3 rfl (by decide), trivial⟩⟩⟩
  have hx3 := ext_trans hx0 hx2
  have hx4 := ext_trans hx3 (ext_alloc (ext_refl (W2.alloc (.cells #[.slice (some ⟨w.heap.size, 0, none⟩) 3 3, .slice (some ⟨w.heap.size + 1, 0, none⟩) 3 3] 29))) (.cells #[.string ⟨#[]⟩, .int .i64 8, .int .i64 3, .slice (some ⟨w.heap.size + 1 + 1, 0, none⟩) 2 2, .int .i64 0] 24))
  have hR4 := hRR.ext (ext_alloc (ext_refl _) (.cells #[.string ⟨#[]⟩, .int .i64 8, .int .i64 3, .slice (some ⟨w.heap.size + 1 + 1, 0, none⟩) 2 2, .int .i64 0] 24))
  have kc := row_alloc (W2.alloc (.cells #[.slice (some ⟨w.heap.size, 0, none⟩) 3 3, .slice (some ⟨w.heap.size + 1, 0, none⟩) 3 3] 29)) #[.string ⟨#[]⟩, .int .i64 8, .int .i64 3, .slice (some ⟨w.heap.size + 1 + 1, 0, none⟩) 2 2, .int .i64 0] 24 (w.heap.size + 1 + 1 + 1) (by simp [hs2])
  obtain ⟨W4, hW4⟩ : ∃ W4, W4 = (W2.alloc (.cells #[.slice (some ⟨w.heap.size, 0, none⟩) 3 3, .slice (some ⟨w.heap.size + 1, 0, none⟩) 3 3] 29)).alloc (.cells #[.string ⟨#[]⟩, .int .i64 8, .int .i64 3, .slice (some ⟨w.heap.size + 1 + 1, 0, none⟩) 2 2, .int .i64 0] 24) := ⟨_, rfl⟩
  have hs4 : W4.heap.size = w.heap.size + 1 + 1 + 1 + 1 := by rw [hW4]; simp [hs2]
  rw [← hW4] at hx4 hR4 kc ⊢
  rw [← hs4]
  obtain ⟨P, hP⟩ : ∃ P, P = w.heap.size + 1 + 1 + 1 := ⟨_, rfl⟩
  obtain ⟨Q, hQ⟩ : ∃ Q, Q = w.heap.size + 1 + 1 := ⟨_, rfl⟩
  rw [← hP] at kc ⊢
  rw [← hQ] at hR4 kc ⊢
  have HR4 := Lib.hid hR4
  have c0 := row_cell kc 0 (v := .string ⟨#[]⟩) rfl
  have c1 := row_cell kc 1 (v := .int .i64 8) rfl
  have c2 := row_cell kc 2 (v := .int .i64 3) rfl
  have c3 := row_cell kc 3 (v := .slice (some ⟨Q, 0, none⟩) 2 2) rfl
  have c4 := row_cell kc 4 (v := .int .i64 0) rfl
  have HX4 := Lib.hid hx4
  clear k0 k1 k2 hRR hx0 hx2 hx3 hx4 hR4 kc hs2 hs4 hW4 hW2 hP hQ
  have hxe : Ext W4 (W4.alloc (.cells #[.string ⟨#[1]⟩, .string ⟨#[2]⟩, .string ⟨#[4]⟩] 9)) := ext_alloc (ext_refl _) _
  have hUE : RStrs (W4.alloc (.cells #[.string ⟨#[1]⟩, .string ⟨#[2]⟩, .string ⟨#[4]⟩] 9)) (.slice (some ⟨W4.heap.size, 0, none⟩) 3 3) xData := sl_of_row (row_alloc _ _ _ _ rfl) 3 rfl (by decide)
  refine (x_encode _ _ _ ((hl.ext HX4.out).ext hxe) (HR4.out.ext hxe) hUE).mono ?_
  rintro e w5 ⟨g, cg, rfl, hg4, hx5⟩
  have hx6 := ext_trans hxe hx5
  have d0 := ext_cell hx6 c0
  have d1 := ext_cell hx6 c1
  have d2 := ext_cell hx6 c2
  have d3 := ext_cell hx6 c3
  have d4 := ext_cell hx6 c4
  have HX6 := Lib.hid hx6
  clear hxe hUE hx5 hx6
  go_wp2_with fail
  have hxr : Ext w5 ((w5.alloc (.cells #[.string ⟨#[1]⟩, .string ⟨#[]⟩, .string ⟨#[]⟩, .string ⟨#[]⟩, .string ⟨#[5]⟩] 9)).alloc (.cells #[.bool true, .bool false, .bool false, .bool false, .bool true] 4)) := ext_alloc (ext_alloc (ext_refl _) _) _
  refine (x_recover1 _ _ _ _ (((hl.ext HX4.out).ext HX6.out).ext hxr) ((HR4.out.ext HX6.out).ext hxr) (sl_of_row (row_alloc_old (row_alloc _ _ _ _ rfl) _) 5 rfl (by decide)) (sl_of_row (row_alloc _ _ _ _ (by simp)) 5 rfl (by decide))).mono ?_
  rintro e w6 ⟨rfl, hx7⟩
  have hx8 := ext_trans hxr hx7
  have e0 := ext_cell hx8 d0
  have e1 := ext_cell hx8 d1
  have e2 := ext_cell hx8 d2
  have e3 := ext_cell hx8 d3
  have e4 := ext_cell hx8 d4
  have hg6 := ext_cell hx8 hg4
  have HX8 := Lib.hid hx8
  clear hxr hx7 hx8
  go_wp2_with fail
  have hxr : Ext w6 ((w6.alloc (.cells #[.string ⟨#[1]⟩, .string ⟨#[]⟩, .string ⟨#[]⟩, .string ⟨#[]⟩, .string ⟨#[5]⟩] 9)).alloc (.cells #[.bool true, .bool false, .bool false, .bool false, .bool true] 4)) := ext_alloc (ext_alloc (ext_refl _) _) _
  refine (x_recover2 _ _ _ _ ((((hl.ext HX4.out).ext HX6.out).ext HX8.out).ext hxr) (((HR4.out.ext HX6.out).ext HX8.out).ext hxr) (sl_of_row (row_alloc_old (row_alloc _ _ _ _ rfl) _) 5 rfl (by decide)) (sl_of_row (row_alloc _ _ _ _ (by simp)) 5 rfl (by decide))).mono ?_
  rintro e w7 ⟨rfl, hx9⟩
  have hx10 := ext_trans hxr hx9
  have f0 := ext_cell hx10 e0
  have f1 := ext_cell hx10 e1
  have f2 := ext_cell hx10 e2
  have f3 := ext_cell hx10 e3
  have f4 := ext_cell hx10 e4
  have hg7 := ext_cell hx10 hg6
  have HX10 := Lib.hid hx10
  clear hxr hx9 hx10
  go_wp2_with fail
  refine (x_width5 _ _ ((((hl.ext HX4.out).ext HX6.out).ext HX8.out).ext HX10.out) (((HR4.out.ext HX6.out).ext HX8.out).ext HX10.out)).mono ?_
  rintro e w8 ⟨rfl, hx11⟩
  go_wp2_with fail
  go_ret
  exact ⟨rfl, ext_trans HX4.out (ext_trans HX6.out (ext_trans HX8.out (ext_trans HX10.out hx11)))⟩

end Go.Proofs.YtgflflpeilfinaaDoor
