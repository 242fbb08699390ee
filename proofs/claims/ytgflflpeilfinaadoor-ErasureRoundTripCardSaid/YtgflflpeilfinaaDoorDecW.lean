/- The walk of erasure.Decode. -/
import Derived.Test.YtgflflpeilfinaaDoorLawE
set_option linter.unusedVariables false
set_option linter.unusedSimpArgs false
set_option linter.unusedSectionVars false
namespace Go.Proofs.YtgflflpeilfinaaDoor
open Go.RowKit

def DecPost (z : Bool) (L : List ByteArray) (w : World) (e : Ending) (w' : World) : Prop :=
  (z = true → ∃ v', e = .returned (.tuple #[v', .int .i64 0]) ∧ RStrs w' v' L) ∧ (z = false → e = .returned (.tuple #[.slice none 0 0, .int .i64 11])) ∧ Ext w w'
theorem DecPost.lost {z : Bool} {L : List ByteArray} {w w' : World} {e : Ending} (hz : z = false) (he : e = .returned (.tuple #[.slice none 0 0, .int .i64 11])) (hx : Ext w w') : DecPost z L w e w' :=
  ⟨(fun h => absurd (hz.symm.trans h) (by decide)), fun _ => he, hx⟩
theorem DecPost.found {z : Bool} {L : List ByteArray} {w w' : World} {v' : Value} (hz : z = true) (ho : RStrs w' v' L) (hx : Ext w w') : DecPost z L w (.returned (.tuple #[v', .int .i64 0])) w' :=
  ⟨fun _ => ⟨v', rfl, ho⟩, (fun h => absurd (hz.symm.trans h) (by decide)), hx⟩
/-- All units are recoverable; what they are. -/
def allR (m n : Nat) (par : List (List Int)) (hs : List Bool) : Bool := (List.range (n + par.length)).all (recB m n par hs)
def valsTo (m n : Nat) (par : List (List Int)) (us : List ByteArray) (hs : List Bool) (k : Nat) : List ByteArray := (List.range k).map (valR m n par us hs)
theorem valsTo_succ (m n : Nat) (par : List (List Int)) (us : List ByteArray) (hs : List Bool) (k : Nat) : valsTo m n par us hs (k + 1) = valsTo m n par us hs k ++ [valR m n par us hs k] := by
  unfold valsTo
  rw [List.range_succ, List.map_append]
  rfl

set_option maxHeartbeats 1000000 in
theorem decode_arg (nm : ByteArray) (f d dm : Int) (par : List (List Int)) (vp vu vh : Value) (us : List ByteArray) (hs : List Bool) (w : World) (hl : Laid w) (hp : RRows w vp par) (hu : RStrs w vu us) (hh : RBools w vh hs) (hsz : ∀ u ∈ us, u.size ≤ lim) (hd0 : -9223372036854775808 ≤ d) (hd1 : d ≤ 9223372036854775807) (hb : fitB f d par us hs = false) :
    Calls Tryd.prog 38 #[vCd nm f d vp dm, vu, vh] w (Ret w (.tuple #[.slice none 0 0, .int .i64 1])) := by
  have HF := Lib.hid fun W h1 h2 h3 h4 => fit_any nm f d dm par vp vu vh us hs W h1 h2 h3 h4 hsz hd0 hd1
  rw [hb] at HF
  have HP := Lib.hid hp
  have HU := Lib.hid hu
  have HH := Lib.hid hh
  obtain ⟨A, c, rfl, hlen, hvc⟩ := hp.form
  have hx0 : Ext w (w.alloc (.cells #[.string nm, .int .i64 f, .int .i64 d, .slice A par.length c, .int .i64 dm] 24)) := ext_alloc (ext_refl w) _
  clear hp hu hh hsz hb
  go_enter Tryd.func38, Tryd.ntmps38
  go_wp2_with fail
  refine (HF.out _ (hl.ext hx0) (HP.out.ext hx0) (RStrs.ext HU.out hx0) (RBools.ext HH.out hx0)).mono ?_
  rintro e w1 ⟨rfl, hx1⟩
  go_wp2_with fail
  go_ret2
  exact ⟨rfl, ext_trans hx0 hx1⟩

set_option maxRecDepth 100000 in
set_option maxHeartbeats 2000000 in
theorem decode_ok (nm : ByteArray) (m n : Nat) (dm : Int) (par : List (List Int)) (vp vu vh : Value) (us : List ByteArray) (hs : List Bool) (w : World) (hl : Laid w) (hp : RRows w vp par) (hu : RStrs w vu us) (hh : RBools w vh hs) (hsz : ∀ u ∈ us, u.size ≤ lim) (hb : fitB m n par us hs = true) :
    Calls Tryd.prog 38 #[vCd nm m n vp dm, vu, vh] w (DecPost (allR m n par hs) (valsTo m n par us hs (n + par.length)) w) := by
  obtain ⟨m', n', em, en, hok, h1, h2, h3⟩ := fitB_facts hb
  obtain rfl : m = m' := by omega
  obtain rfl : n = n' := by omega
  have V := Vd.of hok h2
  have hn32 := V.n32
  have HF := Lib.hid fun W h1 h2 h3 h4 => fit_any nm m n dm par vp vu vh us hs W h1 h2 h3 h4 hsz (by omega) (by omega)
  rw [hb] at HF
  have HSP := Lib.hid fun W h1 h2' h3 => spanOf_ok nm m n dm par vp vh hs W h1 h2' h3 hok h2
  have HTM : Hid (∀ u, u < n + par.length → ∀ S W, Laid W → RRows W vp par → SpanAt W S nm m n vp dm (basisL m n par hs) (spanL m n par hs) → Calls Tryd.prog 53 #[.pointer (some ⟨S, 0, none⟩), .int .i64 u] W (TermsPost (recB m n par hs u) (cmbT m n par hs u) W)) :=
    fun u hu S W g1 g2 g3 => terms_any nm m n dm par vp (basisL m n par hs) (spanL m n par hs) u S W g1 g2 hok hu g3 V.span
  have HSU : Hid (∀ u, u < n + par.length → recB m n par hs u = true → ∀ vl W, Laid W → RStrs W vu us → RTerms W vl (cmbT m n par hs u) → Calls Tryd.prog 60 #[vCd nm m n vp dm, vu, vl] W (Ret W (.string (valR m n par us hs u)))) := by
    show ∀ u, _ → _ → ∀ vl W, _ → _ → _ → _
    intro u hu' hr vl W g1 g2 g3
    have hsz' := V.sz h1 hsz h3 (by omega) hr
    obtain ⟨A, c, rfl, _, hvc⟩ := hp.form
    exact sum_any nm m n dm V.hm _ vu vl us (cmbT m n par hs u) (szU us hs) W g1 hvc g2 g3 (V.tm_ne (by omega) hr) V.tm_len (V.tmOk h1 h3 (by omega)) hsz'.1 hsz'.2
  have HTL : Hid (∀ u, (cmbT m n par hs u).length ≤ lim) := fun u => by have := V.tm_len (u := u); rw [lim_val]; omega
  have HP := Lib.hid hp
  have HU := Lib.hid hu
  have HH := Lib.hid hh
  obtain ⟨A, c, rfl, hlen, hvc⟩ := hp.form
  obtain ⟨B, cB, rfl⟩ := hu.form
  obtain ⟨N, hN⟩ : ∃ N, N = n + par.length := ⟨_, rfl⟩
  rw [h1, ← hN] at HU HF HSU ⊢
  rw [← hN] at HTM hn32
  have HNE := Lib.hid hN
  have HALL : Hid (allR m n par hs = (List.range N).all (recB m n par hs)) := by show _ = _; rw [hN]; rfl
  have hx0 : Ext w (w.alloc (.cells #[.string nm, .int .i64 m, .int .i64 n, .slice A par.length c, .int .i64 dm] 24)) := ext_alloc (ext_refl w) _
  have hc0 := CdAt.new w nm m n dm (.slice A par.length c) 24
  obtain ⟨W0, hW0⟩ : ∃ W0, W0 = w.alloc (.cells #[.string nm, .int .i64 m, .int .i64 n, .slice A par.length c, .int .i64 dm] 24) := ⟨_, rfl⟩
  have HW0 := Lib.hid hW0
  rw [← hW0] at hx0 hc0
  clear hp hu hh hsz hb hok h1 h2 h3 V em en hW0 hN
  go_enter Tryd.func38, Tryd.ntmps38
  go_wp2_with fail
  rw [← HW0.out]
  refine (HF.out _ (hl.ext hx0) (HP.out.ext hx0) (RStrs.ext HU.out hx0) (RBools.ext HH.out hx0)).mono ?_
  rintro e w1 ⟨rfl, hx1⟩
  have hx2 := ext_trans hx0 hx1
  obtain ⟨d0, d1, d2, d3, d4⟩ := hc0.ext hx1
  go_wp2_with fail
  refine (HSP.out _ (hl.ext hx2) (HP.out.ext hx2) (RBools.ext HH.out hx2)).mono ?_
  rintro e w2 ⟨S, rfl, hS, hS1, hx3⟩
  have HS := Lib.hid hS
  have hx4 := Lib.hid (ext_trans hx2 hx3)
  have HC2 := Lib.hid ((hc0.ext hx1).ext hx3)
  clear hS d0 d1 d2 d3 d4 hc0 hx0 hx1 hx2 hx3 hS1
  go_wp2_with fail
  go_loopw [10, 27] (fun v i wr => ∃ k : Nat, k ≤ N ∧ i = .int .i64 k ∧ Hid (∀ j, j < k → recB m n par hs j = true) ∧ Hid (wr.ownsRow w2.heap.size 9 1 v k ((valsTo m n par us hs k).map .string)) ∧ Ext w2 wr) (fun _ i _ => N - (intOf i).toNat)
  case atStart => exact ⟨0, Nat.zero_le _, rfl, fun j h => absurd h (by omega), own_nil' _ _ _ _, ext_refl _⟩
  case round =>
    obtain ⟨k, hk, rfl, hall, ho, hx⟩ := hrel
    by_cases hlt : k < N
    · have hxw := Lib.hid (ext_trans hx4.out hx)
      have hT := HTM.out k hlt S wr (hl.ext hxw.out) (HP.out.ext hxw.out) (HS.out.ext hx)
      have hSk := Lib.hid (HSU.out k hlt)
      have HVT := Lib.hid (valsTo_succ m n par us hs k)
      obtain ⟨z, hz⟩ : ∃ z, z = recB m n par hs k := ⟨_, rfl⟩
      obtain ⟨val, hval⟩ : ∃ v, v = valR m n par us hs k := ⟨_, rfl⟩
      rw [← hz] at hT hSk
      rw [← hval] at hSk HVT
      have HT := Lib.hid hT
      have HZ := Lib.hid hz
      clear hT hz hval
      go_wp2_with fail
      refine HT.out.mono ?_
      rintro e w3 hpost
      have hx5 := ext_trans hx hpost.2.2
      cases z with
      | false =>
        obtain rfl := hpost.2.1 rfl
        have HLO : Hid (allR m n par hs = false) := by
          show _ = _
          rw [HALL.out, List.all_eq_false]
          exact ⟨k, List.mem_range.2 hlt, by rw [← HZ.out]; decide⟩
        clear hpost
        go_wp2_with fail
        go_ret2
        exact DecPost.lost HLO.out rfl (ext_trans hx4.out hx5)
      | true =>
        have hx6 := hpost.2.2
        obtain ⟨v', rfl, ho'⟩ := hpost.1 rfl
        have HRT := Lib.hid (own_tm ho' (HTL.out k))
        have HO3 := Lib.hid (own_ext ho.out hx6)
        have hxz := Lib.hid (ext_trans hxw.out hx6)
        obtain ⟨d0, d1, d2, d3, d4⟩ := HC2.out.ext hx5
        have HALK : Hid (∀ j, j < k + 1 → recB m n par hs j = true) := by
          show ∀ j, _ → _
          intro j hj
          rcases Nat.lt_or_ge j k with h | h
          · exact hall.out j h
          · obtain rfl : j = k := by omega
            exact HZ.out.symm
        clear hpost ho' hx6
        go_wp2_with fail
        refine (hSk.out (by first | rfl | trivial) v' _ (hl.ext hxz.out) (RStrs.ext HU.out hxz.out) HRT.out).mono ?_
        rintro e w4 ⟨rfl, hx7⟩
        have HO4 := Lib.hid (own_ext HO3.out hx7)
        have hx8 := ext_trans hx5 hx7
        clear d0 d1 d2 d3 d4
        go_wp2_with (at_builtin; refine wpList_app rfl _ _ 25 rfl w2.heap.size 9 _ 1 16 Tryd.underlying25 info_str rfl (by omega) _ k _ rfl (HO4.out.alloc _) _ 1 1 [.string val] rfl (by simp) (.inr ⟨w4.heap.size, 0, rfl, fun j u hu => by (rw [World.cell?_alloc_at _ _ _ _ rfl, Nat.zero_add]; simpa using hu)⟩) (by simp [Value.oneCell']) (by simp only [maxLen]; omega) (by omega) (by have := hx8.size; simp; omega) ?_; intro v7 w7 ho7 hg7 hat7)
        have HO7 : Hid (w7.ownsRow w2.heap.size 9 1 v7 (k + 1) ((valsTo m n par us hs (k + 1)).map .string)) := by
          show World.ownsRow _ _ _ _ _ _ _
          rw [HVT.out, List.map_append]
          simpa using ho7
        have hx9 : Ext w2 w7 := ext_grown (ext_alloc hx8 _) hg7 (fun i hi => own_base' HO4.out i hi)
        clear ho7 hg7 hat7
        go_wp2_with fail
        go_roundw
        case rel => exact ⟨k + 1, by omega, by simp, HALK, HO7, hx9⟩
        case measure => simp [intOf]; omega
    · have hkN : k = N := by omega
      have HF1 : Hid (allR m n par hs = true) := by
        show _ = _
        rw [HALL.out, List.all_eq_true]
        intro j hj
        exact hall.out j (by rw [hkN]; exact List.mem_range.1 hj)
      have HF2 : Hid (RStrs wr u10 (valsTo m n par us hs N)) := by
        have := own_strs' ho.out (by rw [lim_val]; omega)
        rw [hkN] at this
        exact this
      clear hkN
      go_wp2_with fail
      go_ret2
      exact DecPost.found HF1.out HF2.out (ext_trans hx4.out hx)

end Go.Proofs.YtgflflpeilfinaaDoor
