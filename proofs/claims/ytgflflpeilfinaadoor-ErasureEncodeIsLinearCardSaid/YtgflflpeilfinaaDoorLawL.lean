/- The statement ErasureEncodeIsLinear: its walk. -/
import Derived.Test.YtgflflpeilfinaaDoorLawE
import Derived.Test.YtgflflpeilfinaaDoorPureL
set_option linter.unusedVariables false
set_option linter.unusedSimpArgs false
set_option linter.unusedSectionVars false
namespace Go.Proofs.YtgflflpeilfinaaDoor
open Go.RowKit

def encO (f d : Int) (par : List (List Int)) (data : List ByteArray) : List ByteArray := if encB f d par data then encL f.toNat par data else []
def encX (f d : Int) (par : List (List Int)) (data : List ByteArray) : Int := if encB f d par data then 0 else 1
theorem enc_any (nm : ByteArray) (f d dm : Int) (par : List (List Int)) (vp vu : Value) (data : List ByteArray) (hsz : ∀ u ∈ data, u.size ≤ lim) (hdl : data.length ≤ 1000000) (hpl : par.length ≤ 8) (hd0 : -9223372036854775808 ≤ d) (hd1 : d ≤ 12) (w : World) (hl : Laid w) (hp : RRows w vp par) (hu : RStrs w vu data) :
    Calls Tryd.prog 16 #[vCd nm f d vp dm, vu] w (EncPost (encO f d par data) (encX f d par data) w) := by
  unfold encO encX
  cases he : encB f d par data with
  | false =>
    refine (encode_err nm f d dm par vp vu data w hl hp hd0 (by omega) hu hsz he).mono ?_
    rintro e w' ⟨rfl, hx⟩
    exact ⟨_, rfl, ⟨none, 0, rfl, by simp, .inl rfl⟩, hx⟩
  | true =>
    have hok : okB f d par = true := by unfold encB at he; rw [Bool.and_eq_true] at he; exact he.1
    obtain ⟨m, n, rfl, rfl, hm, hn1, hn2, -⟩ := okB_facts hok
    have hl32 : (encL m par data).length ≤ lim := by unfold encL; rw [List.length_append, List.length_map, lim_val]; omega
    refine (encode_ok nm m n dm par vp vu data w hl hp hu hsz he).mono ?_
    rintro e w' ⟨v', rfl, ho, hx⟩
    exact ⟨_, rfl, own_strs' ho hl32, hx⟩

/-- What the three stripes have to do with each other. -/
theorem lin_facts (f d : Int) (par : List (List Int)) (a b : List ByteArray) (hab : a.length = b.length) (hs : ∀ j (h1 : j < a.length) (h2 : j < b.length), a[j].size = b[j].size) (hsz : ∀ u ∈ a, u.size ≤ 64) :
    ∃ (L1 L2 L3 : List ByteArray) (x : Int) (M : Nat), encO f d par a = L1 ∧ encO f d par b = L2 ∧ encO f d par (List.zipWith xorS a b) = L3 ∧ encX f d par a = x ∧ encX f d par b = x ∧ encX f d par (List.zipWith xorS a b) = x ∧
      L1.length = M ∧ L2.length = M ∧ L3.length = M ∧ M ≤ 32 ∧
      ∀ k (h1 : k < L1.length) (h2 : k < L2.length) (h3 : k < L3.length), L1[k].size = L2[k].size ∧ L1[k].size ≤ lim ∧ xorS L1[k] L2[k] = L3[k] := by
  have hsab : a.map ByteArray.size = b.map ByteArray.size := by
    apply List.ext_getElem
    · simpa using hab
    · intro j h1 h2
      simp only [List.getElem_map]
      exact hs j (by simpa using h1) (by simpa using h2)
  have e1 : encB f d par b = encB f d par a := (encB_sizes hsab).symm
  have e2 : encB f d par (List.zipWith xorS a b) = encB f d par a := encB_sizes (zip_sizes hab)
  cases he : encB f d par a with
  | false =>
    refine ⟨[], [], [], 1, 0, ?_, ?_, ?_, ?_, ?_, ?_, rfl, rfl, rfl, by omega, fun k h1 => absurd h1 (by simp)⟩ <;> simp only [encO, encX, e1, e2, he] <;> rfl
  | true =>
    have hok : okB f d par = true := by unfold encB at he; rw [Bool.and_eq_true] at he; exact he.1
    obtain ⟨m, n, rfl, rfl, hm, hn1, hn2, -⟩ := okB_facts hok
    have A := Dt.of he
    have B := Dt.of (e1.trans he)
    have S := Dt.of (e2.trans he)
    obtain ⟨sz, hsz0⟩ : ∃ sz, sz = (a[0]?.getD ByteArray.empty).size := ⟨_, rfl⟩
    have h0a : 0 < a.length := by rw [A.len]; exact A.n1
    have h0b : 0 < b.length := by rw [B.len]; exact A.n1
    have eb : (b[0]?.getD ByteArray.empty).size = sz := by
      rw [hsz0, List.getElem?_eq_getElem h0a, List.getElem?_eq_getElem h0b]
      exact (hs 0 h0a h0b).symm
    have es : ((List.zipWith xorS a b)[0]?.getD ByteArray.empty).size = sz := by
      rw [List.getElem?_zipWith, List.getElem?_eq_getElem h0a, List.getElem?_eq_getElem h0b]
      simp only [Option.getD_some]
      rw [xorS_size, hsz0, List.getElem?_eq_getElem h0a]
      rfl
    rw [← hsz0] at A
    rw [eb] at B
    rw [es] at S
    have hle : sz ≤ 64 := by
      have := hsz a[0] (List.getElem_mem _)
      rw [hsz0, List.getElem?_eq_getElem h0a]
      exact this
    refine ⟨encL m par a, encL m par b, encL m par (List.zipWith xorS a b), 0, n + par.length, ?_, ?_, ?_, ?_, ?_, ?_, A.len_enc, B.len_enc, S.len_enc, hn2, fun k h1 h2 h3 => ?_⟩
    · simp only [encO, he]; rfl
    · simp only [encO, e1, he]; rfl
    · simp only [encO, e2, he]; rfl
    · simp only [encX, he]; rfl
    · simp only [encX, e1, he]; rfl
    · simp only [encX, e2, he]; rfl
    have hk : k < n + par.length := by rw [← A.len_enc]; exact h1
    have g1 : (encL m par a).getD k ByteArray.empty = (encL m par a)[k] := by simp [h1]
    have g2 : (encL m par b).getD k ByteArray.empty = (encL m par b)[k] := by simp [h2]
    have g3 : (encL m par (List.zipWith xorS a b)).getD k ByteArray.empty = (encL m par (List.zipWith xorS a b))[k] := by simp [h3]
    have s1 := A.sz_enc hk
    have s2 := B.sz_enc hk
    have l := enc_lin A B S hk
    rw [g1] at s1 l
    rw [g2] at s2 l
    rw [g3] at l
    exact ⟨by rw [s1, s2], by rw [s1, lim_val]; omega, l.symm⟩
theorem zip_take {a b : List ByteArray} {k : Nat} (h1 : k < a.length) (h2 : k < b.length) : List.zipWith xorS (a.take (k + 1)) (b.take (k + 1)) = List.zipWith xorS (a.take k) (b.take k) ++ [xorS a[k] b[k]] := by
  rw [List.take_succ_eq_append_getElem h1, List.take_succ_eq_append_getElem h2, List.zipWith_append (by simp; omega)]
  rfl

theorem few_facts {us : List ByteArray} (h : fewB us = true) : us.length ≤ 24 ∧ ∀ u ∈ us, u.size ≤ 64 := by
  unfold fewB at h
  rw [Bool.and_eq_true, decide_eq_true_eq, List.all_eq_true] at h
  exact ⟨h.1, fun u hu => by simpa using h.2 u hu⟩

set_option maxRecDepth 100000 in
set_option maxHeartbeats 2000000 in
theorem lawL_out (nm : ByteArray) (f d dm : Int) (par : List (List Int)) (vp va vb : Value) (a b : List ByteArray) (w : World) (hl : Laid w) (hp : RRows w vp par) (ha : RStrs w va a) (hza : ∀ u ∈ a, u.size ≤ lim) (hb : RStrs w vb b) (hzb : ∀ u ∈ b, u.size ≤ lim)
    (hg : smallB d par = false ∨ (smallB d par = true ∧ fewB a = false) ∨ (smallB d par = true ∧ fewB a = true ∧ fewB b = false) ∨ (smallB d par = true ∧ fewB a = true ∧ fewB b = true ∧ a.length ≠ b.length)) :
    Calls Tryd.prog 4 #[vCd nm f d vp dm, va, vb] w (Ret w (.bool true)) := by
  have HP := Lib.hid hp
  have HA := Lib.hid ha
  have HB := Lib.hid hb
  have HFA := Lib.hid fun v W h => few_any a v W h hza
  have HFB := Lib.hid fun v W h => few_any b v W h hzb
  obtain ⟨A, c, rfl, hlen, hvc⟩ := hp.form
  obtain ⟨B, cB, rfl⟩ := ha.form
  obtain ⟨D, cD, rfl⟩ := hb.form
  have hx0 : Ext w (w.alloc (.cells #[.string nm, .int .i64 f, .int .i64 d, .slice A par.length c, .int .i64 dm] 24)) := ext_alloc (ext_refl w) _
  have hc0 := CdAt.new w nm f d dm (.slice A par.length c) 24
  obtain ⟨W0, hW0⟩ : ∃ W0, W0 = w.alloc (.cells #[.string nm, .int .i64 f, .int .i64 d, .slice A par.length c, .int .i64 dm] 24) := ⟨_, rfl⟩
  have HW0 := Lib.hid hW0
  rw [← hW0] at hx0 hc0
  clear hp ha hb hza hzb hW0
  rcases hg with hsm | ⟨hsm, hfa⟩ | ⟨hsm, hfa, hfb⟩ | ⟨hsm, hfa, hfb, hne⟩
  · have HSM := Lib.hid hsm
    clear hsm
    go_enter Tryd.func4, Tryd.ntmps4
    go_wp2_with fail
    rw [← HW0.out]
    refine (sanity8_any _ (hl.ext hx0)).mono ?_
    rintro e w1 ⟨rfl, hx1⟩
    obtain ⟨d0, d1, d2, d3, d4⟩ := hc0.ext hx1
    have hx2 := ext_trans hx0 hx1
    go_wp2_with fail
    refine (small_any nm f d dm par _ _ (HP.out.ext hx2)).mono ?_
    rintro e w3 ⟨rfl, hx5⟩
    rw [HSM.out]
    go_wp2_with fail
    go_ret
    exact ⟨rfl, ext_trans hx2 hx5⟩
  · have HSM := Lib.hid hsm
    have HFF := Lib.hid hfa
    clear hsm hfa
    go_enter Tryd.func4, Tryd.ntmps4
    go_wp2_with fail
    rw [← HW0.out]
    refine (sanity8_any _ (hl.ext hx0)).mono ?_
    rintro e w1 ⟨rfl, hx1⟩
    obtain ⟨d0, d1, d2, d3, d4⟩ := hc0.ext hx1
    have hx2 := ext_trans hx0 hx1
    go_wp2_with fail
    refine (small_any nm f d dm par _ _ (HP.out.ext hx2)).mono ?_
    rintro e w3 ⟨rfl, hx5⟩
    rw [HSM.out]
    have hx6 := ext_trans hx2 hx5
    go_wp2_with fail
    refine (HFA.out _ _ (RStrs.ext HA.out hx6)).mono ?_
    rintro e w4 ⟨rfl, hx7⟩
    rw [HFF.out]
    go_wp2_with fail
    go_ret
    exact ⟨rfl, ext_trans hx6 hx7⟩
  · have HSM := Lib.hid hsm
    have HFF := Lib.hid hfa
    have HFG := Lib.hid hfb
    clear hsm hfa hfb
    go_enter Tryd.func4, Tryd.ntmps4
    go_wp2_with fail
    rw [← HW0.out]
    refine (sanity8_any _ (hl.ext hx0)).mono ?_
    rintro e w1 ⟨rfl, hx1⟩
    obtain ⟨d0, d1, d2, d3, d4⟩ := hc0.ext hx1
    have hx2 := ext_trans hx0 hx1
    go_wp2_with fail
    refine (small_any nm f d dm par _ _ (HP.out.ext hx2)).mono ?_
    rintro e w3 ⟨rfl, hx5⟩
    rw [HSM.out]
    have hx6 := ext_trans hx2 hx5
    go_wp2_with fail
    refine (HFA.out _ _ (RStrs.ext HA.out hx6)).mono ?_
    rintro e w4 ⟨rfl, hx7⟩
    rw [HFF.out]
    have hx8 := ext_trans hx6 hx7
    go_wp2_with fail
    refine (HFB.out _ _ (RStrs.ext HB.out hx8)).mono ?_
    rintro e w5 ⟨rfl, hx9⟩
    rw [HFG.out]
    go_wp2_with fail
    go_ret
    exact ⟨rfl, ext_trans hx8 hx9⟩
  · have HSM := Lib.hid hsm
    have HFF := Lib.hid hfa
    have HFG := Lib.hid hfb
    have t1 : ((a.length : Int) != (b.length : Int)) = true := by simp; omega
    clear hsm hfa hfb hne
    go_enter Tryd.func4, Tryd.ntmps4
    go_wp2_with fail
    rw [← HW0.out]
    refine (sanity8_any _ (hl.ext hx0)).mono ?_
    rintro e w1 ⟨rfl, hx1⟩
    obtain ⟨d0, d1, d2, d3, d4⟩ := hc0.ext hx1
    have hx2 := ext_trans hx0 hx1
    go_wp2_with fail
    refine (small_any nm f d dm par _ _ (HP.out.ext hx2)).mono ?_
    rintro e w3 ⟨rfl, hx5⟩
    rw [HSM.out]
    have hx6 := ext_trans hx2 hx5
    go_wp2_with fail
    refine (HFA.out _ _ (RStrs.ext HA.out hx6)).mono ?_
    rintro e w4 ⟨rfl, hx7⟩
    rw [HFF.out]
    have hx8 := ext_trans hx6 hx7
    go_wp2_with fail
    refine (HFB.out _ _ (RStrs.ext HB.out hx8)).mono ?_
    rintro e w5 ⟨rfl, hx9⟩
    rw [HFG.out]
    go_wp2_with fail
    go_ret
    exact ⟨rfl, ext_trans hx8 hx9⟩

set_option maxRecDepth 100000 in
set_option maxHeartbeats 4000000 in
theorem lawL_in (nm : ByteArray) (f d dm : Int) (par : List (List Int)) (vp va vb : Value) (a b : List ByteArray) (w : World) (hl : Laid w) (hp : RRows w vp par) (ha : RStrs w va a) (hb : RStrs w vb b) (hd0 : -9223372036854775808 ≤ d) (hd1 : d ≤ 9223372036854775807)
    (hsm : smallB d par = true) (hfa : fewB a = true) (hfb : fewB b = true) (hab : a.length = b.length) :
    Calls Tryd.prog 4 #[vCd nm f d vp dm, va, vb] w (Ret w (.bool true)) := by
  obtain ⟨ha24, haz⟩ := few_facts hfa
  obtain ⟨hb24, hbz⟩ := few_facts hfb
  have haz' : ∀ u ∈ a, u.size ≤ lim := fun u hu => by have := haz u hu; rw [lim_val]; omega
  have hbz' : ∀ u ∈ b, u.size ≤ lim := fun u hu => by have := hbz u hu; rw [lim_val]; omega
  have hd12 : d ≤ 12 ∧ par.length ≤ 8 := by
    unfold smallB at hsm
    simp only [Bool.and_eq_true, decide_eq_true_eq] at hsm
    exact ⟨hsm.1, hsm.2.1⟩
  have HP := Lib.hid hp
  have HA := Lib.hid ha
  have HB := Lib.hid hb
  have HFA := Lib.hid fun v W h => few_any a v W h haz'
  have HFB := Lib.hid fun v W h => few_any b v W h hbz'
  have HEN : Hid (∀ (data : List ByteArray) vu, data.length ≤ 24 → (∀ u ∈ data, u.size ≤ 64) → ∀ W, Laid W → RRows W vp par → RStrs W vu data → Calls Tryd.prog 16 #[vCd nm f d vp dm, vu] W (EncPost (encO f d par data) (encX f d par data) W)) :=
    fun data vu h1 h2 W h3 h4 h5 => enc_any nm f d dm par vp vu data (fun u hu => by have := h2 u hu; rw [lim_val]; omega) (by omega) hd12.2 hd0 hd12.1 W h3 h4 h5
  have HLF := Lib.hid fun hs => lin_facts f d par a b hab hs haz
  have HAZ := Lib.hid haz
  have HBZ := Lib.hid hbz
  have HAB := Lib.hid hab
  obtain ⟨A, c, rfl, hlen, hvc⟩ := hp.form
  obtain ⟨B, cB, rfl⟩ := ha.form
  obtain ⟨D, cD, rfl⟩ := hb.form
  obtain ⟨N, hN⟩ : ∃ N, N = a.length := ⟨_, rfl⟩
  rw [← hab, ← hN] at HB
  rw [← hab, ← hN]
  rw [← hN] at HA ha24
  have HN := Lib.hid hN
  have HFF := Lib.hid hfa
  have HFG := Lib.hid hfb
  have HSM := Lib.hid hsm
  have hx0 : Ext w (w.alloc (.cells #[.string nm, .int .i64 f, .int .i64 d, .slice A par.length c, .int .i64 dm] 24)) := ext_alloc (ext_refl w) _
  have hc0 := CdAt.new w nm f d dm (.slice A par.length c) 24
  obtain ⟨W0, hW0⟩ : ∃ W0, W0 = w.alloc (.cells #[.string nm, .int .i64 f, .int .i64 d, .slice A par.length c, .int .i64 dm] 24) := ⟨_, rfl⟩
  have HW0 := Lib.hid hW0
  rw [← hW0] at hx0 hc0
  have t1 : ((N : Int) != (N : Int)) = false := by simp
  clear hp ha hb haz hbz haz' hbz' hW0 hsm hfa hfb hab hN hd12 hb24
  go_enter Tryd.func4, Tryd.ntmps4
  go_wp2_with fail
  rw [← HW0.out]
  refine (sanity8_any _ (hl.ext hx0)).mono ?_
  rintro e w1 ⟨rfl, hx1⟩
  obtain ⟨d0, d1, d2, d3, d4⟩ := hc0.ext hx1
  have hx2 := ext_trans hx0 hx1
  go_wp2_with fail
  refine (small_any nm f d dm par _ _ (HP.out.ext hx2)).mono ?_
  rintro e w3 ⟨rfl, hx5⟩
  rw [HSM.out]
  have hx6 := ext_trans hx2 hx5
  go_wp2_with fail
  refine (HFA.out _ _ (RStrs.ext HA.out hx6)).mono ?_
  rintro e w4 ⟨rfl, hx7⟩
  rw [HFF.out]
  have hx8 := ext_trans hx6 hx7
  go_wp2_with fail
  refine (HFB.out _ _ (RStrs.ext HB.out hx8)).mono ?_
  rintro e w5 ⟨rfl, hx9⟩
  rw [HFG.out]
  have hx10 := Lib.hid (ext_trans hx8 hx9)
  have HC5 := Lib.hid ((((hc0.ext hx1).ext hx5).ext hx7).ext hx9)
  have HA5 := Lib.hid (RStrs.ext HA.out hx10.out)
  have HB5 := Lib.hid (RStrs.ext HB.out hx10.out)
  clear hx0 hx1 hx2 hx5 hx6 hx7 hx8 hx9 d0 d1 d2 d3 d4 hc0
  go_wp2_with fail
  go_loopw [8, 9] (fun v i wr => ∃ k : Nat, k ≤ N ∧ i = .int .i64 k ∧ Hid (∀ j (h1 : j < a.length) (h2 : j < b.length), j < k → a[j].size = b[j].size) ∧ Hid (wr.ownsRow w5.heap.size 9 1 v k ((List.zipWith xorS (a.take k) (b.take k)).map .string)) ∧ Ext w5 wr) (fun _ i _ => N - (intOf i).toNat)
  case atStart => exact ⟨0, Nat.zero_le _, rfl, fun j _ _ h => absurd h (by omega), own_nil' _ _ _ _, ext_refl _⟩
  case round =>
    obtain ⟨k, hk, rfl, hsz, ho, hx⟩ := hrel
    by_cases hlt : k < N
    · have hka : k < a.length := by rw [← HN.out]; exact hlt
      have hkb : k < b.length := by rw [← HAB.out]; exact hka
      obtain ⟨ba, oa, hA, ca⟩ := (RStrs.ext HA5.out hx).get k hka
      obtain ⟨bb, ob, hB, cb⟩ := (RStrs.ext HB5.out hx).get k hkb
      subst hA hB
      obtain ⟨p, hp⟩ : ∃ p, p = a[k] := ⟨_, rfl⟩
      obtain ⟨q, hq⟩ : ∃ q, q = b[k] := ⟨_, rfl⟩
      rw [← hp] at ca
      rw [← hq] at cb
      have hp64 : p.size ≤ 64 := by rw [hp]; exact HAZ.out _ (List.getElem_mem _)
      have i1 : (0 : Int) ≤ (k : Int) := by omega
      have i2 : (k : Int) < (N : Int) := by omega
      by_cases hpq : p.size = q.size
      · have HXO := Lib.hid fun W => r5xor_ok p q W hpq (by rw [lim_val]; omega)
        obtain ⟨s, hs⟩ : ∃ s, s = xorS p q := ⟨_, rfl⟩
        rw [← hs] at HXO
        have HZT : Hid (List.zipWith xorS (a.take (k + 1)) (b.take (k + 1)) = List.zipWith xorS (a.take k) (b.take k) ++ [s]) := by
          show _ = _
          rw [zip_take hka hkb, ← hp, ← hq, ← hs]
        have HSZ : Hid (∀ j (h1 : j < a.length) (h2 : j < b.length), j < k + 1 → a[j].size = b[j].size) := by
          show ∀ j h1 h2, _ → _
          intro j h1 h2 h
          rcases Nat.lt_or_ge j k with h' | h'
          · exact hsz.out j h1 h2 h'
          · obtain rfl : j = k := by omega
            rw [← hp, ← hq]; exact hpq
        have hxc : Ext wr wr := ext_refl wr
        clear hpq hs hp hq hp64
        go_wp2_with fail
        go_region_held3 (fun w' => w'.cell? ⟨ba, oa + k, none⟩ = some (.string p) ∧ w'.cell? ⟨bb, ob + k, none⟩ = some (.string q)) ((refine (fun (h : Ext wr _) => ⟨ext_cell h ca, ext_cell h cb⟩) ?_; first | exact hxc | exact ext_drew hxc))
          (first
            | (go_at_call 24
               with_reducible refine (HXO.out _).mono ?_
               rintro e wa ⟨rfl, hxa⟩
               replace hxc : Ext wr wa := by first | exact ext_trans hxc hxa | exact ext_trans (ext_drew hxc) hxa))
        all_goals
          have hx2 := ext_trans hx hxc
          have HOA := Lib.hid (own_ext ho.out hxc)
          clear ca cb
          go_wp2_with (at_builtin; refine wpList_app rfl _ _ 25 rfl w5.heap.size 9 _ 1 16 Tryd.underlying25 info_str rfl (by omega) _ k _ rfl (HOA.out.alloc _) _ 1 1 [.string s] rfl (by simp) (.inr ⟨wa.heap.size, 0, rfl, fun j u hu => by (rw [World.cell?_alloc_at _ _ _ _ rfl, Nat.zero_add]; simpa using hu)⟩) (by simp [Value.oneCell']) (by simp only [maxLen]; omega) (by omega) (by have := hx2.size; simp; omega) ?_; intro v7 w7 ho7 hg7 hat7)
          have HO7 : Hid (w7.ownsRow w5.heap.size 9 1 v7 (k + 1) ((List.zipWith xorS (a.take (k + 1)) (b.take (k + 1))).map .string)) := by
            show World.ownsRow _ _ _ _ _ _ _
            rw [HZT.out, List.map_append]
            simpa using ho7
          have hx7 : Ext w5 w7 := ext_grown (ext_alloc hx2 _) hg7 (fun i hi => own_base' HOA.out i hi)
          clear ho7 hg7 hat7
          go_wp2_with fail
          go_roundw
          case rel => exact ⟨k + 1, by omega, by simp, HSZ, HO7, hx7⟩
          case measure => simp [intOf]; omega
      · have HXO := Lib.hid fun W => r5xor_err p q W hpq
        have hxc : Ext wr wr := ext_refl wr
        clear hpq hp hq hp64
        go_wp2_with fail
        go_region_held3 (fun w' => w'.cell? ⟨ba, oa + k, none⟩ = some (.string p) ∧ w'.cell? ⟨bb, ob + k, none⟩ = some (.string q)) ((refine (fun (h : Ext wr _) => ⟨ext_cell h ca, ext_cell h cb⟩) ?_; first | exact hxc | exact ext_drew hxc))
          (first
            | (go_at_call 24
               with_reducible refine (HXO.out _).mono ?_
               rintro e wa ⟨rfl, hxa⟩
               replace hxc : Ext wr wa := by first | exact ext_trans hxc hxa | exact ext_trans (ext_drew hxc) hxa))
        all_goals
          clear ca cb
          go_wp2_with fail
          go_ret
          exact ⟨rfl, ext_trans hx10.out (ext_trans hx hxc)⟩
    · have hkN : N = k := by omega
      obtain ⟨L1, L2, L3, x, M, e1, e2, e3, e4, e5, e6, l1, l2, l3, hM, hX⟩ := HLF.out (fun j h1 h2 => hsz.out j h1 h2 (by rw [← hkN, HN.out]; exact h1))
      have HSL : Hid (RStrs wr u8 (List.zipWith xorS a b)) := by
        have h := ho.out
        rw [← hkN, HN.out, List.take_length] at h
        rw [List.take_of_length_le (by rw [HAB.out]; exact Nat.le_refl _)] at h
        exact own_strs' h (by rw [lim_val]; have := HN.out; omega)
      have HZL : Hid ((List.zipWith xorS a b).length = N) := by
        show _ = _
        rw [List.length_zipWith, ← HAB.out, ← HN.out]; simp
      have HE1 := HEN.out a (.slice B N cB) (by rw [← HN.out]; omega) HAZ.out
      have HE2 := HEN.out b (.slice D N cD) (by rw [← HAB.out, ← HN.out]; omega) HBZ.out
      have HE3 := HEN.out (List.zipWith xorS a b) u8 (by rw [HZL.out]; omega) (fun u hu => by
        obtain ⟨i, hi, rfl⟩ := List.getElem_of_mem hu
        have hi' : i < a.length := by rw [HZL.out, HN.out] at hi; exact hi
        rw [List.getElem_zipWith, xorS_size]
        exact HAZ.out _ (List.getElem_mem _))
      rw [e1, e4] at HE1
      rw [e2, e5] at HE2
      rw [e3, e6] at HE3
      have HE1 := Lib.hid HE1
      have HE2 := Lib.hid HE2
      have HE3 := Lib.hid HE3
      have HXX := Lib.hid hX
      have HL1 := Lib.hid l1
      have HL2 := Lib.hid l2
      have HL3 := Lib.hid l3
      have s1 : (x != x) = false := by simp
      have s2 : ((M : Int) != (M : Int)) = false := by simp
      obtain ⟨d0, d1, d2, d3, d4⟩ := HC5.out.ext hx
      have hxw := Lib.hid (ext_trans hx10.out hx)
      have HCr := Lib.hid (HC5.out.ext hx)
      have HSF := HSL.out.form
      obtain ⟨E, cE, hE⟩ := HSF
      rw [HZL.out] at hE
      subst hE
      have hg1 : ¬ (k : Int) < (N : Int) := by omega
      clear hkN e1 e2 e3 e4 e5 e6 hX l1 l2 l3 hsz ho HLF
      go_wp2_with fail
      refine (HE1.out _ (hl.ext hxw.out) (HP.out.ext hxw.out) (RStrs.ext HA5.out hx)).mono ?_
      rintro e w6 ⟨v1, rfl, hv1, hy1⟩
      obtain ⟨d0, d1, d2, d3, d4⟩ := HCr.out.ext hy1
      have hz1 := Lib.hid (ext_trans hxw.out hy1)
      have HV1 := Lib.hid hv1
      obtain ⟨A1, c1, rfl⟩ := hv1.form
      rw [HL1.out] at HV1 ⊢
      clear hv1
      go_wp2_with fail
      refine (HE2.out _ (hl.ext hz1.out) (HP.out.ext hz1.out) (RStrs.ext (RStrs.ext HB5.out hx) hy1)).mono ?_
      rintro e w7 ⟨v2, rfl, hv2, hy2⟩
      obtain ⟨d0, d1, d2, d3, d4⟩ := (HCr.out.ext hy1).ext hy2
      have hz2 := Lib.hid (ext_trans hz1.out hy2)
      have HV2 := Lib.hid hv2
      have HV1' := Lib.hid (RStrs.ext HV1.out hy2)
      obtain ⟨A2, c2, rfl⟩ := hv2.form
      rw [HL2.out] at HV2 ⊢
      clear hv2
      go_wp2_with fail
      refine (HE3.out _ (hl.ext hz2.out) (HP.out.ext hz2.out) (RStrs.ext (RStrs.ext HSL.out hy1) hy2)).mono ?_
      rintro e w8 ⟨v3, rfl, hv3, hy3⟩
      have hz3 := Lib.hid (ext_trans hz2.out hy3)
      have HV3 := Lib.hid hv3
      have HV1'' := Lib.hid (RStrs.ext HV1'.out hy3)
      have HV2' := Lib.hid (RStrs.ext HV2.out hy3)
      obtain ⟨A3, c3, rfl⟩ := hv3.form
      rw [HL3.out] at HV3 ⊢
      clear hv3 d0 d1 d2 d3 d4 hy1 hy2 hy3 hx
      go_wp2_with fail
      go_loopw [18] (fun i wr => ∃ k : Nat, k ≤ M ∧ i = .int .i64 k ∧ Ext w8 wr) (fun i _ => M - (intOf i).toNat)
      case atStart => exact ⟨0, Nat.zero_le _, rfl, ext_refl _⟩
      case round =>
        obtain ⟨j, hj, rfl, hx⟩ := hrel
        by_cases hlt2 : j < M
        · have hj1 : j < L1.length := by rw [HL1.out]; exact hlt2
          have hj2 : j < L2.length := by rw [HL2.out]; exact hlt2
          have hj3 : j < L3.length := by rw [HL3.out]; exact hlt2
          obtain ⟨b1, o1, hA1, q1⟩ := (RStrs.ext HV1''.out hx).get j hj1
          obtain ⟨b2, o2, hA2, q2⟩ := (RStrs.ext HV2'.out hx).get j hj2
          obtain ⟨b3, o3, hA3, q3⟩ := (RStrs.ext HV3.out hx).get j hj3
          subst hA1 hA2 hA3
          obtain ⟨x1, x2, x3⟩ := HXX.out j hj1 hj2 hj3
          have HXO := r5xor_ok L1[j] L2[j]
          rw [x3] at HXO
          obtain ⟨p, hp⟩ : ∃ p, p = L1[j] := ⟨_, rfl⟩
          obtain ⟨q, hq⟩ : ∃ q, q = L2[j] := ⟨_, rfl⟩
          obtain ⟨s, hs⟩ : ∃ s, s = L3[j] := ⟨_, rfl⟩
          rw [← hp] at q1 HXO x1 x2
          rw [← hq] at q2 HXO x1
          rw [← hs] at q3 HXO
          have HXO := Lib.hid fun W => HXO W x1 x2
          have i1 : (0 : Int) ≤ (j : Int) := by omega
          have i2 : (j : Int) < (M : Int) := by omega
          have hxc : Ext wr wr := ext_refl wr
          clear hp hq hs x1 x2 x3
          go_wp2_with fail
          go_region_held3 (fun w' => w'.cell? ⟨b1, o1 + j, none⟩ = some (.string p) ∧ w'.cell? ⟨b2, o2 + j, none⟩ = some (.string q)) ((refine (fun (h : Ext wr _) => ⟨ext_cell h q1, ext_cell h q2⟩) ?_; first | exact hxc | exact ext_drew hxc))
            (first
              | (go_at_call 24
                 with_reducible refine (HXO.out _).mono ?_
                 rintro e wa ⟨rfl, hxa⟩
                 replace hxc : Ext wr wa := by first | exact ext_trans hxc hxa | exact ext_trans (ext_drew hxc) hxa))
          all_goals
            have hx2 := ext_trans hx hxc
            have q4 := ext_cell hxc q3
            clear q1 q2 q3
            go_wp2_with fail
            go_roundw
            case rel => exact ⟨j + 1, by omega, by simp, hx2⟩
            case measure => simp [intOf]; omega
        · have hjM : ¬ (j : Int) < (M : Int) := by omega
          go_wp2_with fail
          go_ret
          exact ⟨rfl, ext_trans hz3.out hx⟩

theorem lawL_any (nm : ByteArray) (f d dm : Int) (par : List (List Int)) (vp va : Value) (a : List ByteArray) (vb : Value) (b : List ByteArray) (w : World) (hl : Laid w) (hp : RRows w vp par) (ha : RStrs w va a) (hza : ∀ u ∈ a, u.size ≤ lim) (hb : RStrs w vb b) (hzb : ∀ u ∈ b, u.size ≤ lim) (hd0 : -9223372036854775808 ≤ d) (hd1 : d ≤ 9223372036854775807) :
    Calls Tryd.prog 4 #[vCd nm f d vp dm, va, vb] w (Ret w (.bool true)) := by
  cases h1 : smallB d par with
  | false => exact lawL_out nm f d dm par vp va vb a b w hl hp ha hza hb hzb (.inl h1)
  | true =>
    cases h2 : fewB a with
    | false => exact lawL_out nm f d dm par vp va vb a b w hl hp ha hza hb hzb (.inr (.inl ⟨h1, h2⟩))
    | true =>
      cases h3 : fewB b with
      | false => exact lawL_out nm f d dm par vp va vb a b w hl hp ha hza hb hzb (.inr (.inr (.inl ⟨h1, h2, h3⟩)))
      | true =>
        by_cases h4 : a.length = b.length
        · exact lawL_in nm f d dm par vp va vb a b w hl hp ha hb hd0 hd1 h1 h2 h3 h4
        · exact lawL_out nm f d dm par vp va vb a b w hl hp ha hza hb hzb (.inr (.inr (.inr ⟨h1, h2, h3, h4⟩)))

end Go.Proofs.YtgflflpeilfinaaDoor
