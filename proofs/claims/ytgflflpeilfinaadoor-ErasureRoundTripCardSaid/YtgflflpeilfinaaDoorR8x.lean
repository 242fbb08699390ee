/- The walks of the reference of layer 8: times, inverse, eliminate. -/
import Derived.Test.YtgflflpeilfinaaDoorLinB
import Derived.Test.YtgflflpeilfinaaDoorR8f
import Derived.Test.YtgflflpeilfinaaDoorSpanB
import Derived.StillTailTactics
set_option linter.unusedVariables false
set_option linter.unusedSimpArgs false
set_option linter.unusedSectionVars false
namespace Go.Proofs.YtgflflpeilfinaaDoor
open Go.RowKit

set_option maxHeartbeats 400000 in
theorem r8times_any (m a b : Nat) (hm : Fm m) (ha : a < 2 ^ m) (hb : b < 2 ^ m) (w : World) :
    Calls Tryd.prog 103 #[.int .i64 m, .int .i64 a, .int .i64 b] w fun e w' => e = .returned (.int .i64 (gmul m a b : Nat)) ∧ w = w' := by
  have HT := Lib.hid fun W => r5mul_ok m a b hm ha hb W
  clear hm ha hb
  go_enter Tryd.func103, Tryd.ntmps103
  go_wp2_with fail
  refine (HT.out _).mono ?_
  rintro e w' ⟨rfl, rfl⟩
  go_wp2_with fail
  go_ret
  exact ⟨rfl, rfl⟩
set_option maxHeartbeats 400000 in
theorem r8inv_any (m a : Nat) (hm : Fm m) (ha : a < 2 ^ m) (h0 : a ≠ 0) (w : World) :
    Calls Tryd.prog 102 #[.int .i64 m, .int .i64 a] w fun e w' => e = .returned (.int .i64 (ginv m a : Nat)) ∧ w = w' := by
  have HT := Lib.hid fun W => r5inv_ok m a hm ha h0 W
  clear hm ha h0
  go_enter Tryd.func102, Tryd.ntmps102
  go_wp2_with fail
  refine (HT.out _).mono ?_
  rintro e w' ⟨rfl, rfl⟩
  go_wp2_with fail
  go_ret
  exact ⟨rfl, rfl⟩

/-- The headers of a system's rows, and a row. -/
def hdrs (R C : Nat) (g c : Nat → Nat) : List Value := (List.range R).map fun p => Value.slice (some ⟨g p, 0, none⟩) C (c p)
def rowL (C : Nat) (A : Nat → Nat → Nat) (p : Nat) : List Nat := (List.range C).map (A p)
theorem hdrs_get {R C : Nat} {g c : Nat → Nat} {p : Nat} (h : p < R) : (hdrs R C g c)[p]? = some (.slice (some ⟨g p, 0, none⟩) C (c p)) := by simp [hdrs, h]
theorem rowL_get {C : Nat} {A : Nat → Nat → Nat} {p q : Nat} (h : q < C) : (nvs (rowL C A p))[q]? = some (.int .i64 (A p q : Nat)) := by simp [rowL, nvs, nints, ivs, h]

/-- A system as it lies in memory. -/
structure Sys (B : Nat) (w : World) (S G cap m R C : Nat) (g c : Nat → Nat) (A : Nat → Nat → Nat) : Prop where
  s0 : w.cell? ⟨S, 0, none⟩ = some (.int .i64 m)
  s1 : w.cell? ⟨S, 1, none⟩ = some (.slice (some ⟨G, 0, none⟩) R cap)
  hd : w.ownsRow B 29 1 (.slice (some ⟨G, 0, none⟩) R cap) R (hdrs R C g c)
  rw : ∀ p, p < R → w.ownsRow B 3 1 (.slice (some ⟨g p, 0, none⟩) C (c p)) C (nvs (rowL C A p))
  lt : S < B
  inj : ∀ p q, p < R → q < R → g p = g q → p = q
  gG : ∀ p, p < R → g p ≠ G
section
variable {B S G cap m R C : Nat} {w w' : World} {g c : Nat → Nat} {A A' : Nat → Nat → Nat} (H : Sys B w S G cap m R C g c A)
include H
theorem Sys.ext (hx : Ext w w') : Sys B w' S G cap m R C g c A :=
  ⟨ext_cell hx H.s0, ext_cell hx H.s1, own_ext H.hd hx, fun p hp => own_ext (H.rw p hp) hx, H.lt, H.inj, H.gG⟩
theorem Sys.congr (h : ∀ p q, p < R → q < C → A p q = A' p q) : Sys B w S G cap m R C g c A' :=
  ⟨H.s0, H.s1, H.hd, fun p hp => by
    have e : rowL C A p = rowL C A' p := List.map_congr_left fun q hq => h p q hp (List.mem_range.1 hq)
    rw [← e]; exact H.rw p hp, H.lt, H.inj, H.gG⟩
theorem Sys.hcell {p : Nat} (hp : p < R) : w.cell? ⟨G, p, none⟩ = some (.slice (some ⟨g p, 0, none⟩) C (c p)) := by
  rw [H.hd.cellAt p (by omega)]; exact hdrs_get hp
theorem Sys.cell {p q : Nat} (hp : p < R) (hq : q < C) : w.cell? ⟨g p, q, none⟩ = some (.int .i64 (A p q : Nat)) := by
  rw [(H.rw p hp).cellAt q (by omega)]; exact rowL_get hq
theorem Sys.sz : B ≤ w.heap.size := by have := H.hd.lt G rfl; have := own_base' H.hd G rfl; omega
theorem Sys.base {p : Nat} (hp : p < R) : B ≤ g p := own_base' (H.rw p hp) _ rfl
theorem Sys.baseG : B ≤ G := own_base' H.hd _ rfl
theorem Sys.set {p q : Nat} (hp : p < R) (hq : q < C) (x : Nat) (h1 : A' p q = x) (h2 : ∀ p' q', p' < R → q' < C → ¬ (p' = p ∧ q' = q) → A' p' q' = A p' q') :
    Sys B (w.setCell ⟨g p, q, none⟩ (.int .i64 (x : Int))) S G cap m R C g c A' ∧ Below B w (w.setCell ⟨g p, q, none⟩ (.int .i64 (x : Int))) := by
  have hg := grown_set w ⟨g p, q, none⟩ (.int .i64 (x : Int))
  have hb := H.base hp
  have hl := H.lt
  refine ⟨⟨hg.cell H.s0 (by intro e; injection e with e; simp at e; omega), hg.cell H.s1 (by intro e; injection e with e; simp at e; omega), own_off H.hd hg (Ne.symm (H.gG p hp)), fun p' hp' => ?_, H.lt, H.inj, H.gG⟩, ?_⟩
  · by_cases e : p' = p
    · subst e
      have := ((H.rw p' hp').stored q (.int .i64 (x : Int))).1
      rw [nvs_list_set] at this
      have e2 : (rowL C A p').set q x = rowL C A' p' := by
        apply List.ext_getElem?
        intro k
        rw [List.getElem?_set]
        by_cases hk : k < C
        · by_cases h : q = k
          · subst h
            rw [if_pos rfl, if_pos (by simp [rowL, hk])]
            simp [rowL, hk, h1]
          · rw [if_neg h]
            simp [rowL, hk, h2 p' k hp hk (fun hh => h hh.2.symm)]
        · have hk2 : ¬ q = k := by omega
          rw [if_neg hk2]
          simp [rowL, hk]
      rwa [e2] at this
    · have e2 : rowL C A' p' = rowL C A p' := List.map_congr_left fun q' hq' => h2 p' q' hp' (List.mem_range.1 hq') (fun hh => e hh.1)
      rw [e2]
      exact own_off (H.rw p' hp') hg (fun e' => e (H.inj p' p hp' hp e'))
  · exact Below.grown (Below.refl _ _) hg (by have := H.hd.lt G rfl; omega) (fun k hk => by injection hk with hk; simp at hk; omega)
theorem Sys.swap {i r : Nat} (hi : i < R) (hr : r < R) :
    Sys B ((w.setCell ⟨G, i, none⟩ (.slice (some ⟨g r, 0, none⟩) C (c r))).setCell ⟨G, r, none⟩ (.slice (some ⟨g i, 0, none⟩) C (c i))) S G cap m R C (fun p => if p = i then g r else if p = r then g i else g p) (fun p => if p = i then c r else if p = r then c i else c p) (swapM A i r) ∧
      Below B w ((w.setCell ⟨G, i, none⟩ (.slice (some ⟨g r, 0, none⟩) C (c r))).setCell ⟨G, r, none⟩ (.slice (some ⟨g i, 0, none⟩) C (c i))) := by
  have hg1 := grown_set w ⟨G, i, none⟩ (.slice (some ⟨g r, 0, none⟩) C (c r))
  have hg := hg1.trans (grown_set (w.setCell ⟨G, i, none⟩ (.slice (some ⟨g r, 0, none⟩) C (c r))) ⟨G, r, none⟩ (.slice (some ⟨g i, 0, none⟩) C (c i)))
  have hb := H.baseG
  have hl := H.lt
  refine ⟨⟨hg.cell H.s0 (by intro e; injection e with e; simp at e; omega), hg.cell H.s1 (by intro e; injection e with e; simp at e; omega), ?_, fun p hp => ?_, H.lt, fun p q hp hq e => ?_, fun p hp => ?_⟩, ?_⟩
  · have h1 := (H.hd.stored i (.slice (some ⟨g r, 0, none⟩) C (c r))).1
    have h2 := (h1.stored r (.slice (some ⟨g i, 0, none⟩) C (c i))).1
    have e : ((hdrs R C g c).set i (.slice (some ⟨g r, 0, none⟩) C (c r))).set r (.slice (some ⟨g i, 0, none⟩) C (c i)) = hdrs R C (fun p => if p = i then g r else if p = r then g i else g p) (fun p => if p = i then c r else if p = r then c i else c p) := by
      apply List.ext_getElem?
      intro k
      rw [List.getElem?_set, List.getElem?_set]
      by_cases hk : k < R
      · have hl1 : (hdrs R C g c).length = R := by simp [hdrs]
        rw [List.length_set, hl1, hdrs_get hk, hdrs_get hk]
        by_cases h1 : r = k
        · subst h1
          rw [if_pos rfl, if_pos hk]
          by_cases h2 : r = i
          · subst h2; simp
          · simp [h2]
        · rw [if_neg h1]
          by_cases h2 : i = k
          · subst h2
            simp [hk]
          · rw [if_neg h2, if_neg (Ne.symm h2), if_neg (Ne.symm h1), if_neg (Ne.symm h2), if_neg (Ne.symm h1)]
      · rw [if_neg (by omega), if_neg (by omega)]
        simp [hdrs, hk]
    rwa [e] at h2
  · by_cases h1 : p = i
    · simp only [if_pos h1]
      have e2 : rowL C (swapM A i r) p = rowL C A r := List.map_congr_left fun q _ => by simp [swapM, h1]
      rw [e2]
      exact own_off (H.rw r hr) hg (H.gG r hr)
    · by_cases h2 : p = r
      · simp only [if_neg h1, if_pos h2]
        have e2 : rowL C (swapM A i r) p = rowL C A i := List.map_congr_left fun q _ => by simp only [swapM, if_neg h1, if_pos h2]
        rw [e2]
        exact own_off (H.rw i hi) hg (H.gG i hi)
      · simp only [if_neg h1, if_neg h2]
        have e2 : rowL C (swapM A i r) p = rowL C A p := List.map_congr_left fun q _ => by simp only [swapM, if_neg h1, if_neg h2]
        rw [e2]
        exact own_off (H.rw p hp) hg (H.gG p hp)
  · obtain ⟨σ, hσ⟩ : ∃ σ : Nat → Nat, ∀ p, (p = i ∧ σ p = r) ∨ (p ≠ i ∧ p = r ∧ σ p = i) ∨ (p ≠ i ∧ p ≠ r ∧ σ p = p) :=
      ⟨fun p => if p = i then r else if p = r then i else p, fun p => by
        by_cases h1 : p = i
        · left; simp [h1]
        · by_cases h2 : p = r
          · right; left; exact ⟨h1, h2, by simp only [if_neg h1, if_pos h2]⟩
          · right; right; exact ⟨h1, h2, by simp only [if_neg h1, if_neg h2]⟩⟩
    have e1 : ∀ p, (if p = i then g r else if p = r then g i else g p) = g (σ p) := fun p => by
      rcases hσ p with ⟨h1, h2⟩ | ⟨h1, h2, h3⟩ | ⟨h1, h2, h3⟩
      · rw [if_pos h1, h2]
      · rw [if_neg h1, if_pos h2, h3]
      · rw [if_neg h1, if_neg h2, h3]
    have hs : ∀ p, p < R → σ p < R := fun p hp => by rcases hσ p with h | h | h <;> omega
    have e2 := H.inj _ _ (hs p hp) (hs q hq) (by rw [← e1, ← e1]; exact e)
    rcases hσ p with h | h | h <;> rcases hσ q with h' | h' | h' <;> omega
  · split
    · exact H.gG r hr
    · split
      · exact H.gG i hi
      · exact H.gG p hp
  · exact Below.grown (Below.refl _ _) hg (by have := H.hd.lt G rfl; omega) (fun k hk => by injection hk with hk; simp at hk; omega)
end

theorem pivRow_at {R : Nat} {A : Nat → Nat → Nat} {j r i : Nat} (h : pivRow R A j r = some i) : r ≤ i ∧ i < R ∧ A i j ≠ 0 ∧ ∀ p, r ≤ p → p < i → A p j = 0 := by
  obtain ⟨h1, h2, h3⟩ := pivRow_some_of h
  refine ⟨h1, h2, h3, fun p hp hpi => ?_⟩
  unfold pivRow at h
  rw [List.find?_range_eq_some] at h
  have := h.2.2 p hpi
  simp only [Bool.not_eq_true', Bool.and_eq_false_iff, decide_eq_false_iff_not] at this
  rcases this with h | h
  · exact absurd hp h
  · exact Classical.byContradiction h

theorem rest1x {F C : World → Prop} {goal : Prop} (h1 : (∀ W, F W → C W) → goal) (h2 : ∀ W, F W → C W) : goal := h1 h2
set_option maxRecDepth 100000 in
set_option maxHeartbeats 4000000 in
theorem r8elim_any (m R C k i B S G cap : Nat) (g c : Nat → Nat) (A : Nat → Nat → Nat) (hm : Fm m) (hR : R ≤ 32) (hC : C ≤ 33) (hk : k < R) (hkC : k < C) (hA : Bd m R C A) (hp : pivRow R A k k = some i) (w : World) (hs : Sys B w S G cap m R C g c A) :
    Calls Tryd.prog 83 #[.pointer (some ⟨S, 0, none⟩), .int .i64 k, .int .i64 k] w fun e w' => e = .returned (.bool true) ∧ (∃ g' c', Sys B w' S G cap m R C g' c' (stepM m A k k i)) ∧ Below B w w' := by
  obtain ⟨hi1, hi2, hi3, hi4⟩ := pivRow_at hp
  have HM := Lib.hid hm
  have HA := Lib.hid hA
  have HZ := Lib.hid hi4
  have HS := Lib.hid hs
  have HMP := Lib.hid (pow_lt hm)
  obtain ⟨x, hx⟩ : ∃ x, x = A i k := ⟨_, rfl⟩
  have hx0' : x ≠ 0 := by rw [hx]; exact hi3
  have hxl : x < 2 ^ m := by rw [hx]; exact hA i k hi2 hkC
  have HX := Lib.hid hx
  clear hm hA hp hi3 hi4 hs hx
  go_enter Tryd.func83, Tryd.ntmps83
  go_wp2_with fail
  go_loopw [7] (fun v wr => ∃ p : Nat, k ≤ p ∧ p ≤ i ∧ v = .int .i64 p ∧ Ext w wr) (fun v _ => i - (intOf v).toNat)
  case atStart => exact ⟨k, Nat.le_refl _, hi1, rfl, ext_refl _⟩
  case round =>
    obtain ⟨p, hp1, hp2, rfl, hx⟩ := hrel
    have hsr := Lib.hid (HS.out.ext hx)
    have hpR : p < R := by omega
    have s1 := hsr.out.s1
    have sh := hsr.out.hcell hpR
    have sc := hsr.out.cell hpR hkC
    by_cases hlt : p < i
    · rw [HZ.out p hp1 hlt] at sc
      go_wp2_with fail
      go_roundw
      case rel => exact ⟨p + 1, by omega, by omega, by simp, hx⟩
      case measure => simp [intOf]; omega
    · obtain rfl : p = i := by omega
      rw [← HX.out] at sc
      have t1 : ((x : Int) == 0) = false := by simpa using hx0'
      have t2 : ((p : Int) == (R : Int)) = false := by rw [beq_eq_false_iff_ne]; omega
      have skh := hsr.out.hcell hk
      have hf1 := hsr.out.hd.frozenAt p
      have hf2 := hsr.out.hd.frozenAt k
      go_wp2_with fail
      apply rest1x (F := fun W => ∃ W0, Ext wr W0 ∧ W = W0.setCell ⟨G, p, none⟩ (.slice (some ⟨g k, 0, none⟩) C (c k)))
      case h1 =>
        intro REST
        go_region_law (fail)
        all_goals exact REST _ ⟨_, ext_drew (ext_refl _), rfl⟩
      case h2 =>
        intro W ⟨W0, hx0, hW⟩
        subst hW
        have hs0 := Lib.hid (hsr.out.ext hx0)
        obtain ⟨hsw1, hsw2⟩ := hs0.out.swap hi2 hk
        have HS1 := Lib.hid hsw1
        have HB1 := Lib.hid (((ext_trans hx hx0).mono HS.out.sz).trans hsw2)
        clear hsw1 hsw2 sh sc s1 skh hf1 hf2
        have hGS : G ≠ S := by have := HS.out.baseG; have := HS.out.lt; omega
        have hg0 := grown_set W0 ⟨G, p, none⟩ (.slice (some ⟨g k, 0, none⟩) C (c k))
        have s1 := hg0.cell (ext_cell hx0 hsr.out.s1) (by intro e; injection e with e; exact hGS e.symm)
        have hf2 := ((hs0.out.hd.stored p (.slice (some ⟨g k, 0, none⟩) C (c k))).1).frozenAt k
        have sk : (W0.setCell ⟨G, p, none⟩ (.slice (some ⟨g k, 0, none⟩) C (c k))).cell? ⟨G, k, none⟩ = some (.slice (some ⟨g k, 0, none⟩) C (c k)) := by
          rw [((hs0.out.hd.stored p (.slice (some ⟨g k, 0, none⟩) C (c k))).1).cellAt k (by omega), List.getElem?_set]
          by_cases e : p = k
          · rw [if_pos e, if_pos (by simp [hdrs]; omega)]
          · rw [if_neg e, hdrs_get hk]
        clear hg0
        go_wp2_with fail
        obtain ⟨W1, hW1⟩ : ∃ W1, W1 = (W0.setCell ⟨G, p, none⟩ (.slice (some ⟨g k, 0, none⟩) C (c k))).setCell ⟨G, k, none⟩ (.slice (some ⟨g p, 0, none⟩) C (c p)) := ⟨_, rfl⟩
        rw [← hW1] at HS1 HB1 ⊢
        obtain ⟨A1, hA1⟩ : ∃ A1, A1 = swapM A p k := ⟨_, rfl⟩
        obtain ⟨g1, hg1⟩ : ∃ g1 : Nat → Nat, g1 = fun q => if q = p then g k else if q = k then g p else g q := ⟨_, rfl⟩
        obtain ⟨c1, hc1⟩ : ∃ c1 : Nat → Nat, c1 = fun q => if q = p then c k else if q = k then c p else c q := ⟨_, rfl⟩
        have eg : g p = g1 k := by
          rw [hg1]
          by_cases e : k = p
          · simp [e]
          · simp [e]
        have ec : c p = c1 k := by
          rw [hc1]
          by_cases e : k = p
          · simp [e]
          · simp [e]
        rw [← hA1, ← hg1, ← hc1] at HS1
        rw [eg, ec]
        have ex : A1 k k = x := by
          rw [hA1, HX.out]
          unfold swapM
          by_cases e : k = p
          · rw [if_pos e, e]
          · rw [if_neg e, if_pos rfl]
        have HBD1 : Hid (Bd m R C A1) := by rw [hA1]; exact Bd.swap HM.out HA.out hi2 hk
        have HA1 := Lib.hid hA1
        have HEX := Lib.hid ex
        have r0 := HS1.out.s0
        have rc := HS1.out.cell hk hkC
        rw [ex] at rc
        have HINV := Lib.hid fun W => r8inv_any m x HM.out hxl hx0' W
        clear hW1 hA1 hg1 hc1 eg ec ex s1 hf2 sk HS hsr hs0 hx0 hx
        go_wp2_with fail
        go_quiet ((go_at_call 102; exact Calls.quiet_of_same ((HINV.out _).mono fun e w' h => ⟨h.1, h.2.symm⟩)))
        have hx2 : Ext W1 (W1.drewN nq) := drewN_ext (ext_refl W1) nq
        have HS2 := Lib.hid (HS1.out.ext hx2)
        have HB2 := Lib.hid (HB1.out.trans (hx2.mono HS1.out.sz))
        obtain ⟨W2, hW2⟩ : ∃ W2, W2 = W1.drewN nq := ⟨_, rfl⟩
        rw [← hW2] at HS2 HB2 ⊢
        obtain ⟨f, hf⟩ : ∃ f, f = ginv m x := ⟨_, rfl⟩
        have hfl : f < 2 ^ m := by rw [hf]; exact ginv_lt HM.out hxl
        rw [← hf]
        have HF := Lib.hid hf
        have HS3 : Hid (Sys B W2 S G cap m R C g1 c1 (scaleTo m A1 k f 0)) := HS2.out.congr fun p q _ _ => by simp [scaleTo]
        clear hf hx2 hW2 HINV r0 rc HS1 HB1 HS2
        go_wp2_with fail
        go_loopw [10] (fun jv wr => ∃ j : Nat, j ≤ C ∧ jv = .int .i64 j ∧ Hid (Sys B wr S G cap m R C g1 c1 (scaleTo m A1 k f j)) ∧ Hid (Below B w wr)) (fun jv _ => C - (intOf jv).toNat)
        case atStart => exact ⟨0, Nat.zero_le _, rfl, HS3.out, HB2.out⟩
        case round =>
          obtain ⟨j, hj, rfl, hs, hb⟩ := hrel
          by_cases hjC : j < C
          · have hx2 : Ext wr wr.drew := ext_drew (ext_refl wr)
            have HSd := Lib.hid (hs.out.ext hx2)
            have HBd := Lib.hid (hb.out.trans (hx2.mono hs.out.sz))
            obtain ⟨wd, hwd⟩ : ∃ wd, wd = wr.drew := ⟨_, rfl⟩
            rw [← hwd] at HSd HBd
            have HWD := Lib.hid hwd
            have hyl := HBD1.out k j hk hjC
            obtain ⟨y, hy⟩ : ∃ y, y = A1 k j := ⟨_, rfl⟩
            have r0 := HSd.out.s0
            have rc := HSd.out.cell hk hjC
            have rf := (HSd.out.rw k hk).frozenAt j
            rw [show scaleTo m A1 k f j k j = y by rw [hy]; simp [scaleTo]] at rc
            rw [← hy] at hyl
            have HT := Lib.hid fun W => r8times_any m f y HM.out hfl hyl W
            obtain ⟨z, hz⟩ : ∃ z, z = gmul m f y := ⟨_, rfl⟩
            have HST := HSd.out.set (A' := scaleTo m A1 k f (j + 1)) hk hjC z (by rw [hz, hy]; simp [scaleTo]) (fun p q hp hq hne => by
              simp only [scaleTo]
              by_cases h1 : p = k ∧ q < j
              · rw [if_pos h1, if_pos ⟨h1.1, by omega⟩]
              · rw [if_neg h1, if_neg (by omega)])
            have HS4 := Lib.hid HST.1
            have HB4 := Lib.hid (HBd.out.trans HST.2)
            rw [← hz] at HT
            clear hz hy HST hwd hx2 hyl
            go_wp2_with fail
            refine wp_region_still_tail 13 (by kernel_rfl) (by kernel_rfl) ?_
            simp only [List.take_succ_cons, List.take_zero, List.drop_succ_cons, List.drop_zero]
            change wpStill _ _ wr.drew (fun a' => wpList _ _ _ _ a' wr.drew) _ _
            rw [← HWD.out]
            repeat still_step
            still_call ((HT.out _).mono fun e w' h => ⟨h.1, h.2.symm⟩)
            repeat still_step
            refine wpStill_nil ?_
            go_wp2_with fail
            go_roundw
            case rel => exact ⟨j + 1, by omega, by simp, HS4, HB4⟩
            case measure => simp [intOf]; omega
          · obtain rfl : j = C := by omega
            obtain ⟨A2, hA2⟩ : ∃ A2, A2 = scaleM m A1 k f := ⟨_, rfl⟩
            have HBD2 : Hid (Bd m R j A2) := by rw [hA2]; exact Bd.scale HM.out HBD1.out hfl
            have HSE : Hid (Sys B wr S G cap m R j g1 c1 (elimTo m A2 k k 0)) := hs.out.congr fun p q _ hq => by simp [scaleTo, scaleM, elimTo, hA2, hq]
            have HA2 := Lib.hid hA2
            clear hA2 hs HS3 HB2
            go_wp2_with fail
            go_loopw [11] (fun qv wr => ∃ q : Nat, q ≤ R ∧ qv = .int .i64 q ∧ Hid (Sys B wr S G cap m R j g1 c1 (elimTo m A2 k k q)) ∧ Hid (Below B w wr)) (fun qv _ => R - (intOf qv).toNat)
            case atStart => exact ⟨0, Nat.zero_le _, rfl, HSE.out, hb.out⟩
            case round =>
              obtain ⟨q, hq, rfl, hs, hb⟩ := hrel
              have s1 := hs.out.s1
              by_cases hqR : q < R
              · have sh := hs.out.hcell hqR
                have sc := hs.out.cell hqR hkC
                obtain ⟨y, hy⟩ : ∃ y, y = A2 q k := ⟨_, rfl⟩
                have hyl := HBD2.out q k hqR hkC
                rw [show elimTo m A2 k k q q k = y by rw [hy]; simp [elimTo]] at sc
                rw [← hy] at hyl
                by_cases hqk : q = k
                · have t3 : ((q : Int) == (k : Int)) = true := by simp [hqk]
                  have HSN : Hid (Sys B wr S G cap m R j g1 c1 (elimTo m A2 k k (q + 1))) := hs.out.congr fun p q' _ _ => by
                    simp only [elimTo]
                    by_cases h1 : p ≠ k ∧ p < q
                    · rw [if_pos h1, if_pos ⟨h1.1, by omega⟩]
                    · rw [if_neg h1, if_neg (by omega)]
                  clear hqk hy
                  go_wp2_with fail
                  go_roundw
                  case rel => exact ⟨q + 1, by omega, by simp, HSN, hb⟩
                  case measure => simp [intOf]; omega
                · have t3 : ((q : Int) == (k : Int)) = false := by rw [beq_eq_false_iff_ne]; omega
                  by_cases hy0 : y = 0
                  · have HSN : Hid (Sys B wr S G cap m R j g1 c1 (elimTo m A2 k k (q + 1))) := hs.out.congr fun p q' hp hq' => by
                      simp only [elimTo]
                      by_cases h1 : p ≠ k ∧ p < q
                      · rw [if_pos h1, if_pos ⟨h1.1, by omega⟩]
                      · rw [if_neg h1]
                        by_cases h2 : p = q
                        · rw [if_pos ⟨by omega, by omega⟩, h2, ← hy, hy0, zero_gmul HM.out (HBD2.out k q' hk hq'), Nat.xor_zero]
                        · rw [if_neg (by omega)]
                    rw [hy0] at sc
                    clear hqk hy
                    go_wp2_with fail
                    go_roundw
                    case rel => exact ⟨q + 1, by omega, by simp, HSN, hb⟩
                    case measure => simp [intOf]; omega
                  · have t4 : ((y : Int) == 0) = false := by simpa using hy0
                    have HSI : Hid (Sys B wr S G cap m R j g1 c1 (addTo m (elimTo m A2 k k q) q k y 0)) := hs.out.congr fun p q' _ _ => by simp [addTo]
                    have HY := Lib.hid hy
                    clear hy
                    go_wp2_with fail
                    go_loopw [13] (fun iv wr => ∃ i : Nat, i ≤ j ∧ iv = .int .i64 i ∧ Hid (Sys B wr S G cap m R j g1 c1 (addTo m (elimTo m A2 k k q) q k y i)) ∧ Hid (Below B w wr)) (fun iv _ => j - (intOf iv).toNat)
                    case atStart => exact ⟨0, Nat.zero_le _, rfl, HSI.out, hb.out⟩
                    case round =>
                      obtain ⟨i, hi, rfl, hs, hb⟩ := hrel
                      by_cases hij : i < j
                      · have hx2 : Ext wr wr.drew := ext_drew (ext_refl wr)
                        have HSd := Lib.hid (hs.out.ext hx2)
                        have HBd := Lib.hid (hb.out.trans (hx2.mono hs.out.sz))
                        obtain ⟨wd, hwd⟩ : ∃ wd, wd = wr.drew := ⟨_, rfl⟩
                        rw [← hwd] at HSd HBd
                        have HWD := Lib.hid hwd
                        obtain ⟨u, hu⟩ : ∃ u, u = A2 k i := ⟨_, rfl⟩
                        obtain ⟨v, hv⟩ : ∃ v, v = A2 q i := ⟨_, rfl⟩
                        have hul : u < 2 ^ m := by rw [hu]; exact HBD2.out k i hk hij
                        have hvl : v < 2 ^ m := by rw [hv]; exact HBD2.out q i hqR hij
                        have hkq : ¬ k = q := fun e => hqk e.symm
                        have r0 := HSd.out.s0
                        have r1 := HSd.out.s1
                        have rh := HSd.out.hcell hqR
                        have rc := HSd.out.cell hqR hij
                        have rk := HSd.out.cell hk hij
                        have rf := (HSd.out.rw q hqR).frozenAt i
                        rw [show addTo m (elimTo m A2 k k q) q k y i q i = v by rw [hv]; simp [addTo, elimTo]] at rc
                        rw [show addTo m (elimTo m A2 k k q) q k y i k i = u by rw [hu]; simp [addTo, elimTo, hkq]] at rk
                        have HT := Lib.hid fun W => r8times_any m y u HM.out hyl hul W
                        have hgl := gmul_lt (b := u) HM.out hyl
                        obtain ⟨z, hz⟩ : ∃ z, z = gmul m y u := ⟨_, rfl⟩
                        rw [← hz] at HT hgl
                        have X1 : bits .xor .i64 (v : Int) (z : Int) = ((v ^^^ z : Nat) : Int) := xor_i64 _ _ (by have := HMP.out; omega) (by have := HMP.out; omega)
                        have HST := HSd.out.set (A' := addTo m (elimTo m A2 k k q) q k y (i + 1)) hqR hij (v ^^^ z) (by rw [hz, hu, hv]; simp [addTo, elimTo]) (fun p q' hp hq' hne => by
                          simp only [addTo]
                          by_cases h1 : p = q ∧ q' < i
                          · rw [if_pos h1, if_pos ⟨h1.1, by omega⟩]
                          · rw [if_neg h1, if_neg (by omega)])
                        have HS4 := Lib.hid HST.1
                        have HB4 := Lib.hid (HBd.out.trans HST.2)
                        clear hz hu hv HST hwd hx2 hyl hul hvl hgl s1 sh sc
                        go_wp2_with fail
                        refine wp_region_still_tail 30 (by kernel_rfl) (by kernel_rfl) ?_
                        simp only [List.take_succ_cons, List.take_zero, List.drop_succ_cons, List.drop_zero]
                        change wpStill _ _ wr.drew (fun a' => wpList _ _ _ _ a' wr.drew) _ _
                        rw [← HWD.out]
                        repeat still_step
                        still_call ((HT.out _).mono fun e w' h => ⟨h.1, h.2.symm⟩)
                        repeat still_step
                        refine wpStill_nil ?_
                        go_wp2_with fail
                        go_roundw
                        case rel => exact ⟨i + 1, by omega, by simp, HS4, HB4⟩
                        case measure => simp [intOf]; omega
                      · obtain rfl : i = j := by omega
                        have HSN : Hid (Sys B wr S G cap m R i g1 c1 (elimTo m A2 k k (q + 1))) := hs.out.congr fun p q' hp hq' => by
                          simp only [addTo, elimTo]
                          by_cases h1 : p = q
                          · subst h1
                            simp [hqk, hq', ← HY.out]
                          · rw [if_neg (fun h => h1 h.1)]
                            by_cases h2 : p ≠ k ∧ p < q
                            · rw [if_pos h2, if_pos ⟨h2.1, by omega⟩]
                            · rw [if_neg h2, if_neg (by omega)]
                        clear hqk s1 sh sc
                        go_wp2_with fail
                        go_roundw
                        case rel => exact ⟨q + 1, by omega, by simp, HSN, hb⟩
                        case measure => simp [intOf]; omega
              · obtain rfl : q = R := by omega
                have HSF : Hid (Sys B wr S G cap m q j g1 c1 (stepM m A k k p)) := hs.out.congr fun p' q' hp' hq' => by
                  have h1 : stepM m A k k p = elimM m A2 k k := by
                    unfold stepM
                    rw [← HA1.out, HEX.out, ← HF.out, ← HA2.out]
                  rw [h1]
                  simp [elimTo, elimM, hp']
                go_wp2_with fail
                go_ret
                exact ⟨rfl, ⟨_, _, HSF.out⟩, hb.out⟩

end Go.Proofs.YtgflflpeilfinaaDoor
