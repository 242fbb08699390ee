/- The statement ErasureRoundTrip: its walk. -/
import Derived.Test.YtgflflpeilfinaaDoorLawX
import Derived.Test.YtgflflpeilfinaaDoorPureL
import Derived.Test.YtgflflpeilfinaaDoorStead
set_option linter.unusedVariables false
set_option linter.unusedSimpArgs false
set_option linter.unusedSectionVars false
namespace Go.Proofs.YtgflflpeilfinaaDoor
open Go.RowKit

/-- A stripe whose units that are not present are noise. -/
def noisy (L : List ByteArray) (hs : List Bool) (noise : ByteArray) (k : Nat) : List ByteArray := (List.range k).map fun i => if hs.getD i false then L.getD i ByteArray.empty else noise
theorem noisy_succ (L : List ByteArray) (hs : List Bool) (noise : ByteArray) (k : Nat) : noisy L hs noise (k + 1) = noisy L hs noise k ++ [if hs.getD k false then L.getD k ByteArray.empty else noise] := by
  unfold noisy
  rw [List.range_succ, List.map_append]
  rfl
theorem noisy_at {L : List ByteArray} {hs : List Bool} {noise : ByteArray} {N v : Nat} (hv : v < N) (h : hs.getD v false = true) : (noisy L hs noise N).getD v ByteArray.empty = L.getD v ByteArray.empty := by
  unfold noisy
  rw [List.getD_eq_getElem?_getD, List.getElem?_map, List.getElem?_range hv]
  show (if hs.getD v false = true then L.getD v ByteArray.empty else noise) = _
  rw [if_pos h]
theorem uniB_of {m sz : Nat} {l : List ByteArray} (h : ∀ u ∈ l, u.size = sz) (he : m = 8 ∨ sz % 2 = 0) : uniB m l = true := by
  unfold uniB
  rw [List.all_eq_true]
  intro u hu
  have h0 : (l[0]?.getD ByteArray.empty).size = sz := by
    cases l with
    | nil => simp at hu
    | cons a l => exact h a (by simp)
  unfold uniOne
  rw [h0, h u hu]
  simp only [decide_true, Bool.true_and, Bool.or_eq_true, decide_eq_true_eq]
  rcases he with e | e
  · left; rw [e]; rfl
  · right; exact e
theorem trip_facts {m n sz : Nat} {par : List (List Int)} {hs : List Bool} (V : Vd m n par hs) {data : List ByteArray} (D : Dt m n par data sz) (noise : ByteArray) :
    uniB m (puTo (noisy (encL m par data) hs noise (n + par.length)) hs hs.length) = true ∧
      ∀ u, u < n + par.length → recB m n par hs u = true → valR m n par (noisy (encL m par data) hs noise (n + par.length)) hs u = (encL m par data).getD u ByteArray.empty := by
  have hat : ∀ v, hs.getD v false = true → (noisy (encL m par data) hs noise (n + par.length)).getD v ByteArray.empty = (encL m par data).getD v ByteArray.empty := fun v hv =>
    noisy_at (V.pres_lt (mem_presL.2 hv)) hv
  have hsz : ∀ u ∈ puTo (noisy (encL m par data) hs noise (n + par.length)) hs hs.length, u.size = sz := by
    intro u hu
    unfold puTo at hu
    obtain ⟨v, hv, rfl⟩ := List.mem_map.1 hu
    have hp := (presTo_lt v hv).2
    rw [hat v hp]
    exact D.sz_enc (V.pres_lt (mem_presL.2 hp))
  have hev : m = 8 ∨ sz % 2 = 0 := by
    have he := D.even
    rcases D.hm with e | e
    · exact .inl e
    · right; rw [e] at he; exact he
  have hun := uniB_of hsz hev
  refine ⟨hun, fun u hu hr => ?_⟩
  have hszU : szU (noisy (encL m par data) hs noise (n + par.length)) hs = sz := by
    obtain ⟨t, ht⟩ := List.exists_mem_of_ne_nil _ (V.tm_ne hu hr)
    obtain ⟨v, c, -, hb, -, -⟩ := V.tm hu t ht
    have hvp := V.basis.sub v hb
    have h1 := (uni_all hun hvp).1
    rw [← h1, hat v (mem_presL.1 hvp)]
    exact D.sz_enc (V.base_lt hb)
  unfold valR
  rw [hszU]
  exact V.back D hat hu hr

attribute [local go_sem] OpGives_value OpGives_enter
theorem lost_pres {m n : Nat} {par : List (List Int)} {hs : List Bool} (V : Vd m n par hs) {u : Nat} (hu : u < n + par.length) (h : recB m n par hs u = false) : hs.getD u false = false := by
  cases h' : hs.getD u false with
  | false => rfl
  | true => rw [V.rec_pres hu h'] at h; cases h

set_option maxRecDepth 100000 in
set_option maxHeartbeats 4000000 in
theorem lawT_out (nm : ByteArray) (f d dm : Int) (par : List (List Int)) (vp vu : Value) (us : List ByteArray) (vh : Value) (hs : List Bool) (noise : ByteArray) (w : World) (hl : Laid w) (hp : RRows w vp par) (hu : RStrs w vu us) (hsz : ∀ u ∈ us, u.size ≤ lim) (hh : RBools w vh hs) (hd0 : -9223372036854775808 ≤ d) (hd1 : d ≤ 9223372036854775807)
    (hg : smallB d par = false ∨ (smallB d par = true ∧ fewB us = false) ∨ (smallB d par = true ∧ fewB us = true ∧ (hs.length : Int) ≠ widthI f d par) ∨ (smallB d par = true ∧ fewB us = true ∧ (hs.length : Int) = widthI f d par ∧ 64 < noise.size)) :
    Calls Tryd.prog 10 #[vIn nm f d vp dm vu vh (.string noise)] w (Ret w (.bool true)) := by
  have HP := Lib.hid hp
  have HU := Lib.hid hu
  have HH := Lib.hid hh
  have HFW := Lib.hid fun v W h => few_any us v W h hsz
  have HWD := Lib.hid fun W h1 h2 => eraWidth_any nm f d dm par vp W h1 h2 hd0 hd1
  obtain ⟨A, c, rfl, hlen, hvc⟩ := hp.form
  obtain ⟨B, cB, rfl, -, -⟩ := hh
  obtain ⟨D, cD, rfl⟩ := hu.form
  rw [List.length_map] at HH ⊢
  have hx0 : Ext w (w.alloc (.cells #[.string nm, .int .i64 f, .int .i64 d, .slice A par.length c, .int .i64 dm, .slice D us.length cD, .slice B hs.length cB, .string noise] 65)) := ext_alloc (ext_refl w) _
  have hc0 := InAt.new w nm f d dm (.slice A par.length c) (.slice D us.length cD) (.slice B hs.length cB) (.string noise) 65
  obtain ⟨W0, hW0⟩ : ∃ W0, W0 = w.alloc (.cells #[.string nm, .int .i64 f, .int .i64 d, .slice A par.length c, .int .i64 dm, .slice D us.length cD, .slice B hs.length cB, .string noise] 65) := ⟨_, rfl⟩
  have HW0 := Lib.hid hW0
  rw [← hW0] at hx0 hc0
  obtain ⟨N, hN⟩ : ∃ N, N = widthI f d par := ⟨_, rfl⟩
  rw [← hN] at HWD hg
  clear hp hu hsz hW0 hN
  rcases hg with hsm | ⟨hsm, hfw⟩ | ⟨hsm, hfw, hne⟩ | ⟨hsm, hfw, heq, h64⟩
  · have HSM := Lib.hid hsm
    clear hsm
    go_enter Tryd.func10, Tryd.ntmps10
    go_wp2_with fail
    rw [← HW0.out]
    refine (sanity8_any _ (hl.ext hx0)).mono ?_
    rintro e w1 ⟨rfl, hx1⟩
    obtain ⟨⟨d0, d1, d2, d3, d4⟩, d5, d6, d7⟩ := hc0.ext hx1
    have hx2 := ext_trans hx0 hx1
    have hxc : Ext w1 w1 := ext_refl w1
    go_wp2_with fail
    have HC1 := Lib.hid (hc0.ext hx1)
    clear d0 d1 d2 d3 d4 d5 d6 d7
    refine wp_steady (fun W => Ext w1 W) (by kernel_rfl) (by kernel_rfl) (ext_drew hxc) ?_
    repeat (first
      | (refine wpSt_step (fun K hK => ?_)
         go_simp
         refine hK _ ?_
         clear hK K)
      | (refine wpSt_step (fun K hK => ?_)
         go_simp
         apply Exists.intro
         apply And.intro
         focus
           intro W hW
           obtain ⟨⟨d0, d1, d2, d3, d4⟩, d5, d6, d7⟩ := HC1.out.ext hW
           unfold OpAt
           go_simp
           first
             | rfl
             | (refine (small_any nm f d dm par _ _ (HP.out.ext (ext_trans hx2 hW))).mono ?_
                rintro e w3 ⟨rfl, hx5⟩
                rw [HSM.out]
                exact ⟨rfl, ext_trans hW hx5⟩)
         refine hK _ ?_
         clear hK K))
    refine wpSt_nil ?_
    intro w3 hx3
    go_wp2_with fail
    go_ret
    exact ⟨rfl, ext_trans hx2 hx3⟩
  · have HSM := Lib.hid hsm
    have HFF := Lib.hid hfw
    clear hsm hfw
    go_enter Tryd.func10, Tryd.ntmps10
    go_wp2_with fail
    rw [← HW0.out]
    refine (sanity8_any _ (hl.ext hx0)).mono ?_
    rintro e w1 ⟨rfl, hx1⟩
    have hx2 := ext_trans hx0 hx1
    have hxc : Ext w1 w1 := ext_refl w1
    have HC1 := Lib.hid (hc0.ext hx1)
    go_wp2_with fail
    refine wp_steady (fun W => Ext w1 W) (by kernel_rfl) (by kernel_rfl) (ext_drew hxc) ?_
    repeat (first
      | (refine wpSt_step (fun K hK => ?_)
         go_simp
         refine hK _ ?_
         clear hK K)
      | (refine wpSt_step (fun K hK => ?_)
         go_simp
         apply Exists.intro
         apply And.intro
         focus
           intro W hW
           obtain ⟨⟨d0, d1, d2, d3, d4⟩, d5, d6, d7⟩ := HC1.out.ext hW
           unfold OpAt
           go_simp
           first
             | rfl
             | (refine (small_any nm f d dm par _ _ (HP.out.ext (ext_trans hx2 hW))).mono ?_
                rintro e w3 ⟨rfl, hx5⟩
                rw [HSM.out]
                exact ⟨rfl, ext_trans hW hx5⟩)
             | (refine (HFW.out _ _ (RStrs.ext HU.out (ext_trans hx2 hW))).mono ?_
                rintro e w3 ⟨rfl, hx5⟩
                rw [HFF.out]
                exact ⟨rfl, ext_trans hW hx5⟩)
         refine hK _ ?_
         clear hK K))
    refine wpSt_nil ?_
    intro w3 hx3
    go_wp2_with fail
    go_ret
    exact ⟨rfl, ext_trans hx2 hx3⟩
  · have HSM := Lib.hid hsm
    have HFF := Lib.hid hfw
    have t1 : ((hs.length : Int) != N) = true := by simpa using hne
    clear hsm hfw hne
    go_enter Tryd.func10, Tryd.ntmps10
    go_wp2_with fail
    rw [← HW0.out]
    refine (sanity8_any _ (hl.ext hx0)).mono ?_
    rintro e w1 ⟨rfl, hx1⟩
    have hx2 := ext_trans hx0 hx1
    have hxc : Ext w1 w1 := ext_refl w1
    have HC1 := Lib.hid (hc0.ext hx1)
    go_wp2_with fail
    refine wp_steady (fun W => Ext w1 W) (by kernel_rfl) (by kernel_rfl) (ext_drew hxc) ?_
    repeat (first
      | (refine wpSt_step (fun K hK => ?_)
         go_simp
         refine hK _ ?_
         clear hK K)
      | (refine wpSt_step (fun K hK => ?_)
         go_simp
         apply Exists.intro
         apply And.intro
         focus
           intro W hW
           obtain ⟨⟨d0, d1, d2, d3, d4⟩, d5, d6, d7⟩ := HC1.out.ext hW
           unfold OpAt
           go_simp
           first
             | rfl
             | (refine (small_any nm f d dm par _ _ (HP.out.ext (ext_trans hx2 hW))).mono ?_
                rintro e w3 ⟨rfl, hx5⟩
                rw [HSM.out]
                exact ⟨rfl, ext_trans hW hx5⟩)
             | (refine (HFW.out _ _ (RStrs.ext HU.out (ext_trans hx2 hW))).mono ?_
                rintro e w3 ⟨rfl, hx5⟩
                rw [HFF.out]
                exact ⟨rfl, ext_trans hW hx5⟩)
             | (refine (HWD.out _ (hl.ext (ext_trans hx2 hW)) (HP.out.ext (ext_trans hx2 hW))).mono ?_
                rintro e w3 ⟨rfl, hx5⟩
                exact ⟨rfl, ext_trans hW hx5⟩)
         refine hK _ ?_
         clear hK K))
    refine wpSt_nil ?_
    intro w3 hx3
    go_wp2_with fail
    go_ret
    exact ⟨rfl, ext_trans hx2 hx3⟩
  · have HSM := Lib.hid hsm
    have HFF := Lib.hid hfw
    have t1 : ((hs.length : Int) != N) = false := by simpa using heq
    clear hsm hfw heq
    go_enter Tryd.func10, Tryd.ntmps10
    go_wp2_with fail
    rw [← HW0.out]
    refine (sanity8_any _ (hl.ext hx0)).mono ?_
    rintro e w1 ⟨rfl, hx1⟩
    have hx2 := ext_trans hx0 hx1
    have hxc : Ext w1 w1 := ext_refl w1
    have HC1 := Lib.hid (hc0.ext hx1)
    go_wp2_with fail
    refine wp_steady (fun W => Ext w1 W) (by kernel_rfl) (by kernel_rfl) (ext_drew hxc) ?_
    repeat (first
      | (refine wpSt_step (fun K hK => ?_)
         go_simp
         refine hK _ ?_
         clear hK K)
      | (refine wpSt_step (fun K hK => ?_)
         go_simp
         apply Exists.intro
         apply And.intro
         focus
           intro W hW
           obtain ⟨⟨d0, d1, d2, d3, d4⟩, d5, d6, d7⟩ := HC1.out.ext hW
           unfold OpAt
           go_simp
           first
             | rfl
             | (refine (small_any nm f d dm par _ _ (HP.out.ext (ext_trans hx2 hW))).mono ?_
                rintro e w3 ⟨rfl, hx5⟩
                rw [HSM.out]
                exact ⟨rfl, ext_trans hW hx5⟩)
             | (refine (HFW.out _ _ (RStrs.ext HU.out (ext_trans hx2 hW))).mono ?_
                rintro e w3 ⟨rfl, hx5⟩
                rw [HFF.out]
                exact ⟨rfl, ext_trans hW hx5⟩)
             | (refine (HWD.out _ (hl.ext (ext_trans hx2 hW)) (HP.out.ext (ext_trans hx2 hW))).mono ?_
                rintro e w3 ⟨rfl, hx5⟩
                exact ⟨rfl, ext_trans hW hx5⟩)
         refine hK _ ?_
         clear hK K))
    refine wpSt_nil ?_
    intro w3 hx3
    go_wp2_with fail
    go_ret
    exact ⟨rfl, ext_trans hx2 hx3⟩

end Go.Proofs.YtgflflpeilfinaaDoor
