/- The walk of the reference of layer 8: Express, over a system whose steps are given. -/
import Derived.Test.YtgflflpeilfinaaDoorR8x
set_option linter.unusedVariables false
set_option linter.unusedSimpArgs false
set_option linter.unusedSectionVars false
namespace Go.Proofs.YtgflflpeilfinaaDoor
open Go.RowKit

theorem own_types {w : World} {b1 b2 : Nat} {e1 e2 : TypeId} {s1 s2 n1 n2 : Nat} {v1 v2 : Value} {x1 x2 : List Value} (h1 : w.ownsRow b1 e1 s1 v1 n1 x1) (h2 : w.ownsRow b2 e2 s2 v2 n2 x2) (hne : e1 ≠ e2) : v1.ownBlock = none ∨ v1.ownBlock ≠ v2.ownBlock := by
  rcases h1.2 with ⟨rfl, _⟩ | ⟨g, cap, cur, rfl, _, hg, _⟩
  · left; rfl
  · right
    rcases h2.2 with ⟨rfl, _⟩ | ⟨g', cap', cur', rfl, _, hg', _⟩
    · simp [Value.ownBlock]
    · simp only [Value.ownBlock]
      intro e
      injection e with e
      subst e
      rw [hg] at hg'
      injection hg' with hg'
      injection hg' with _ hg'
      exact hne hg'
theorem own_keep {w w' : World} {base : Nat} {e : TypeId} {size n : Nat} {v : Value} {xs : List Value} {row : Option Nat} (h : w.ownsRow base e size v n xs) (hg : w.grownBy w' row) (hne : v.ownBlock = none ∨ v.ownBlock ≠ row) : w'.ownsRow base e size v n xs :=
  h.kept hg hne

def ExPost (z : Bool) (L : List Nat) (w : World) (e : Ending) (w' : World) : Prop :=
  (z = true → ∃ v', e = .returned (.tuple #[v', .bool true]) ∧ RInts w' v' (nints L)) ∧ (z = false → e = .returned (.tuple #[.slice none 0 0, .bool false])) ∧ Ext w w'
theorem ExPost.lost {z : Bool} {L : List Nat} {w w' : World} {e : Ending} (hz : z = false) (he : e = .returned (.tuple #[.slice none 0 0, .bool false])) (hx : Ext w w') : ExPost z L w e w' :=
  ⟨(fun h => absurd (hz.symm.trans h) (by decide)), fun _ => he, hx⟩
theorem ExPost.found {z : Bool} {L : List Nat} {w w' : World} {v' : Value} (hz : z = true) (ho : RInts w' v' (nints L)) (hx : Ext w w') : ExPost z L w (.returned (.tuple #[v', .bool true])) w' :=
  ⟨fun _ => ⟨v', rfl, ho⟩, (fun h => absurd (hz.symm.trans h) (by decide)), hx⟩

/-- A system under way: j rows lie there. -/
structure SysB (B : Nat) (w : World) (S m j C : Nat) (v : Value) (g c : Nat → Nat) (A : Nat → Nat → Nat) : Prop where
  row : w.heap[S]? = some (.cells #[.int .i64 m, v] 110 (0, 0))
  hd : w.ownsRow B 29 1 v j (hdrs j C g c)
  rw : ∀ p, p < j → w.ownsRow B 3 1 (.slice (some ⟨g p, 0, none⟩) C (c p)) C (nvs (rowL C A p))
  lt : S < B
  inj : ∀ p q, p < j → q < j → g p = g q → p = q
theorem SysB.ext {B S m j C : Nat} {w w' : World} {v : Value} {g c : Nat → Nat} {A : Nat → Nat → Nat} (H : SysB B w S m j C v g c A) (hx : Ext w w') : SysB B w' S m j C v g c A :=
  ⟨row_ext H.row hx, own_ext H.hd hx, fun p hp => own_ext (H.rw p hp) hx, H.lt, H.inj⟩
theorem hdrs_succ (j C : Nat) (g c : Nat → Nat) (ge ce : Nat) : hdrs j C g c ++ [.slice (some ⟨ge, 0, none⟩) C ce] = hdrs (j + 1) C (fun p => if p = j then ge else g p) (fun p => if p = j then ce else c p) := by
  unfold hdrs
  rw [List.range_succ, List.map_append]
  congr 1
  · refine List.map_congr_left fun p hp => ?_
    have : p ≠ j := by have := List.mem_range.1 hp; omega
    simp [this]
  · simp
theorem SysB.push {B Bj S m j C ge ce : Nat} {w w7 : World} {v v1 : Value} {g c : Nat → Nat} {A : Nat → Nat → Nat} (H : SysB B w S m j C v g c A)
    (he : w.ownsRow Bj 3 1 (.slice (some ⟨ge, 0, none⟩) C ce) C (nvs (rowL C A j))) (hB : B ≤ Bj) (hf : ∀ p, p < j → g p < Bj)
    (ho7 : w7.ownsRow B 29 1 v1 (j + 1) (hdrs j C g c ++ [.slice (some ⟨ge, 0, none⟩) C ce])) (hg7 : w.grownBy w7 v.ownBlock) :
    SysB B (w7.setCell ⟨S, 1, none⟩ v1) S m (j + 1) C v1 (fun p => if p = j then ge else g p) (fun p => if p = j then ce else c p) A := by
  have hbe : Bj ≤ ge := own_base' he ge rfl
  have hs := grown_set w7 ⟨S, 1, none⟩ v1
  have hS7 : w7.heap[S]? = some (.cells #[.int .i64 m, v] 110 (0, 0)) := by
    rw [hg7.block S (Array.getElem?_eq_some_iff.1 H.row).1 (fun e => by have := own_base' H.hd S e.symm; have := H.lt; omega)]
    exact H.row
  refine ⟨?_, ?_, fun p hp => ?_, H.lt, fun p q hp hq e => ?_⟩
  · have := set_cells hS7 (i := 1) v1
    simpa using this
  · rw [← hdrs_succ]
    exact own_far ho7 hs H.lt
  · refine own_far ?_ hs H.lt
    by_cases h : p = j
    · subst h
      simp only [if_true]
      exact own_keep (own_le hB he) hg7 (own_types he H.hd (by decide))
    · simp only [if_neg h]
      exact own_keep (H.rw p (by omega)) hg7 (own_types (H.rw p (by omega)) H.hd (by decide))
  · by_cases h1 : p = j <;> by_cases h2 : q = j
    · omega
    · simp only [if_pos h1, if_neg h2] at e
      have := hf q (by omega); omega
    · simp only [if_neg h1, if_pos h2] at e
      have := hf p (by omega); omega
    · simp only [if_neg h1, if_neg h2] at e
      exact H.inj p q (by omega) (by omega) e
theorem SysB.toSys {B S m n C G cap : Nat} {w : World} {g c : Nat → Nat} {A : Nat → Nat → Nat} (H : SysB B w S m n C (.slice (some ⟨G, 0, none⟩) n cap) g c A) : Sys B w S G cap m n C g c A :=
  ⟨row_cell H.row 0 rfl, row_cell H.row 1 rfl, H.hd, H.rw, H.lt, H.inj, fun p hp e => by
    rcases own_types (H.rw p hp) H.hd (by decide) with h | h
    · simp [Value.ownBlock] at h
    · simp [Value.ownBlock] at h
      exact h e⟩

/-- The steps of an elimination. -/
structure Elim (m n K : Nat) (M : Nat → Nat → Nat → Nat) : Prop where
  hm : Fm m
  n1 : 1 ≤ n
  n32 : n ≤ 32
  kn : K ≤ n
  bd : ∀ k, k ≤ K → Bd m n (K + 1) (M k)
  step : ∀ k, k < K → ∃ i, pivRow n (M k) k k = some i ∧ M (k + 1) = stepM m (M k) k k i
def elOk (n K : Nat) (M : Nat → Nat → Nat → Nat) : Bool := (List.range n).all fun p => decide (p < K) || decide (M K p K = 0)
def elTo (K : Nat) (M : Nat → Nat → Nat → Nat) (k : Nat) : List Nat := (List.range k).map fun k => M K k K
theorem elTo_succ (K : Nat) (M : Nat → Nat → Nat → Nat) (k : Nat) : elTo K M (k + 1) = elTo K M k ++ [M K k K] := by
  unfold elTo
  rw [List.range_succ, List.map_append]
  rfl
/-- The first q elements of a row. -/
def rowQ (A : Nat → Nat → Nat) (p q : Nat) : List Nat := (List.range q).map (A p)
theorem rowQ_succ (A : Nat → Nat → Nat) (p q : Nat) : rowQ A p (q + 1) = rowQ A p q ++ [A p q] := by
  unfold rowQ
  rw [List.range_succ, List.map_append]
  rfl
theorem nvs_append (a b : List Nat) : nvs (a ++ b) = nvs a ++ nvs b := by simp [nvs, nints, ivs]

set_option maxRecDepth 100000 in
set_option maxHeartbeats 4000000 in
theorem r8express_any (m n K : Nat) (M : Nat → Nat → Nat → Nat) (hE : Elim m n K M) (rows : List (List Nat)) (t : List Nat) (hrl : rows.length = K) (hrn : ∀ r ∈ rows, r.length = n) (htl : t.length = n)
    (hM : ∀ p q, p < n → q ≤ K → M 0 p q = if q < K then ate (rows.getD q []) p else ate t p) (vr vt : Value) (w : World) (hr : RRows w vr (rows.map nints)) (ht : RInts w vt (nints t)) :
    Calls Tryd.prog 57 #[.int .i64 m, vr, vt] w (ExPost (elOk n K M) (elTo K M K) w) := by
  have HR := Lib.hid hr
  have HT := Lib.hid ht
  have HE := Lib.hid hE
  have HMM := Lib.hid hM
  have HRN := Lib.hid hrn
  have HRL := Lib.hid hrl
  have HTL := Lib.hid htl
  obtain ⟨A, cA, rfl, -, -⟩ := hr.form
  rw [List.length_map, hrl] at HR ⊢
  obtain ⟨D, cD, rfl, -, -⟩ := ht
  rw [show (List.map (Value.int .i64) (nints t)).length = n by simp [nints, htl]] at HT ⊢
  have hn1 := hE.n1
  have hn32 := hE.n32
  have hkn := hE.kn
  have hx0 : Ext w (w.alloc (.cells #[.int .i64 m, .slice none 0 0] 110)) := ext_alloc (ext_refl w) _
  have hrow := row_alloc w #[.int .i64 m, .slice none 0 0] 110 w.heap.size rfl
  have hsz0 : (w.alloc (.cells #[.int .i64 m, .slice none 0 0] 110)).heap.size = w.heap.size + 1 := by simp
  obtain ⟨S, hS⟩ : ∃ S, S = w.heap.size := ⟨_, rfl⟩
  obtain ⟨B, hB⟩ : ∃ B, B = S + 1 := ⟨_, rfl⟩
  have HS := Lib.hid hS
  have HBE := Lib.hid hB
  have hSB : S < B := by omega
  have HBS : Hid (w.heap.size ≤ B) := by show _ ≤ _; omega
  have HB0 : Hid (B = (w.alloc (.cells #[.int .i64 m, .slice none 0 0] 110)).heap.size) := by show _ = _; omega
  rw [← hS] at hrow
  have HSB0 : Hid (SysB B (w.alloc (.cells #[.int .i64 m, .slice none 0 0] 110)) S m 0 (K + 1) (.slice none 0 0) (fun _ => 0) (fun _ => 0) (M 0)) :=
    ⟨hrow, own_nil' _ _ _ _, fun p hp => absurd hp (by omega), hSB, fun p q hp => absurd hp (by omega)⟩
  clear hE hrl hrn htl hM hr hrow hsz0 hS hB
  go_enter Tryd.func57, Tryd.ntmps57
  go_wp2_with fail
  rw [← HS.out]
  obtain ⟨W0, hW0⟩ : ∃ W0, W0 = w.alloc (.cells #[.int .i64 m, .slice none 0 0] 110) := ⟨_, rfl⟩
  rw [← hW0] at hx0 HSB0 HB0 ⊢
  clear hW0
  go_loopw [9] (fun jv wr => ∃ (j : Nat) (v : Value) (g c : Nat → Nat), j ≤ n ∧ jv = .int .i64 j ∧ Hid (SysB B wr S m j (K + 1) v g c (M 0)) ∧ Hid (Ext w wr)) (fun jv _ => n - (intOf jv).toNat)
  case atStart => exact ⟨0, _, _, _, Nat.zero_le _, rfl, HSB0.out, hx0⟩
  case round =>
    obtain ⟨j, v, g, c, hj, rfl, hs, hx⟩ := hrel
    obtain ⟨Av, cv, rfl, -⟩ := own_seg hs.out.hd (by omega)
    by_cases hjn : j < n
    · go_wp2_with fail
      obtain ⟨W1, hW1⟩ : ∃ W1, W1 = wr := ⟨_, rfl⟩
      rw [← hW1] at hs hx ⊢
      clear hW1
      go_loopw [10, 11] (fun ev kv wr => ∃ k : Nat, k ≤ K ∧ kv = .int .i64 k ∧ Hid (wr.ownsRow W1.heap.size 3 1 ev k (nvs (rowQ (M 0) j k))) ∧ Ext W1 wr) (fun _ kv _ => K - (intOf kv).toNat)
      case atStart => exact ⟨0, Nat.zero_le _, rfl, own_nil' _ _ _ _, ext_refl _⟩
      case round =>
        obtain ⟨k, hk, rfl, ho, hx1⟩ := hrel
        have hxr := Lib.hid (ext_trans hx.out hx1)
        have hsz1 := hx1.size
        by_cases hkK : k < K
        · have hkl : k < rows.length := by rw [HRL.out]; exact hkK
          obtain ⟨-, b, o, rv, hA, hcell, hrv⟩ := (HR.out.ext hxr.out).get k (by simpa using hkl)
          subst hA
          rw [List.getElem_map] at hrv
          obtain ⟨Ar, cr, rfl, hlr, hsr⟩ := hrv
          have hrn := HRN.out _ (List.getElem_mem hkl)
          rw [show (List.map (Value.int .i64) (nints rows[k])).length = n by simp [nints, hrn]] at hcell
          obtain ⟨br, orr, hAr, hcr⟩ := hsr.get (by simp [nints, hrn]; omega)
          subst hAr
          obtain ⟨x, hxe⟩ : ∃ x, x = M 0 j k := ⟨_, rfl⟩
          have hcx : wr.cell? ⟨br, orr + j, none⟩ = some (.int .i64 (x : Nat)) := by
            rw [hcr j (by simp [nints, hrn]; omega), hxe, HMM.out j k hjn (by omega), if_pos hkK]
            have e : rows.getD k [] = rows[k] := by simp [hkl]
            rw [e, ate_get (by omega)]
            simp [nints]
          have HRQ : Hid (nvs (rowQ (M 0) j (k + 1)) = nvs (rowQ (M 0) j k) ++ [.int .i64 (x : Nat)]) := by
            show _ = _
            rw [rowQ_succ, nvs_append, hxe]; rfl
          have HO1 := Lib.hid (ho.out.alloc (.cells #[.int .i64 (x : Int)] 3))
          have i1 : (0 : Int) ≤ (k : Int) := by omega
          have i2 : (k : Int) < (K : Int) := by omega
          have i3 : (0 : Int) ≤ (j : Int) := by omega
          have i4 : (j : Int) < (n : Int) := by omega
          clear hxe hlr hsr hcr hrn
          go_wp2_with (at_builtin; refine wpList_app rfl _ _ 29 rfl W1.heap.size 3 _ 1 8 Tryd.underlying29 info_int rfl (by omega) _ k _ rfl HO1.out _ 1 1 [.int .i64 (x : Int)] rfl (by simp) (seg_new _ _ _) (by simp [Value.oneCell']) (by simp only [maxLen]; omega) (by omega) (by simp; omega) ?_; intro v7 w7 ho7 hg7 hat7)
          have HO7 : Hid (w7.ownsRow W1.heap.size 3 1 v7 (k + 1) (nvs (rowQ (M 0) j (k + 1)))) := by
            show World.ownsRow _ _ _ _ _ _ _
            rw [HRQ.out]
            exact ho7
          have hx7 : Ext W1 w7 := ext_grown (ext_alloc hx1 _) hg7 (fun i hi => own_base' HO1.out i hi)
          clear ho7 hg7 hat7
          go_wp2_with fail
          go_roundw
          case rel => exact ⟨k + 1, by omega, by simp, HO7.out, hx7⟩
          case measure => simp [intOf]; omega
        · obtain rfl : k = K := by omega
          obtain ⟨bd, od, hD, hcd⟩ := (RInts.ext HT.out hxr.out).get j (by simp [nints, HTL.out]; omega)
          subst hD
          obtain ⟨x, hxe⟩ : ∃ x, x = M 0 j k := ⟨_, rfl⟩
          have hcx : wr.cell? ⟨bd, od + j, none⟩ = some (.int .i64 (x : Nat)) := by
            rw [hcd, hxe, HMM.out j k hjn (Nat.le_refl _), if_neg (by omega), ate_get (by rw [HTL.out]; omega)]
            simp [nints]
          have HRQ : Hid (nvs (rowL (k + 1) (M 0) j) = nvs (rowQ (M 0) j k) ++ [.int .i64 (x : Nat)]) := by
            show _ = _
            rw [show rowL (k + 1) (M 0) j = rowQ (M 0) j (k + 1) from rfl, rowQ_succ, nvs_append, hxe]; rfl
          have HO1 := Lib.hid (ho.out.alloc (.cells #[.int .i64 (x : Int)] 3))
          have i3 : (0 : Int) ≤ (j : Int) := by omega
          have i4 : (j : Int) < (n : Int) := by omega
          clear hxe hcd
          go_upto_region 11 with (at_builtin; refine wpList_app rfl _ _ 29 rfl W1.heap.size 3 _ 1 8 Tryd.underlying29 info_int rfl (by omega) _ k _ rfl HO1.out _ 1 1 [.int .i64 (x : Int)] rfl (by simp) (seg_new _ _ _) (by simp [Value.oneCell']) (by simp only [maxLen]; omega) (by omega) (by simp; omega) ?_; intro v7 w7 ho7 hg7 hat7; obtain ⟨ge, ce, rfl⟩ := own_some ho7 (by omega); have hx7 : Ext W1 w7 := (ext_grown (ext_alloc hx1 _) hg7 (fun i hi => own_base' HO1.out i hi)); have HS7 := Lib.hid (hs.out.ext hx7); have sv := row_cell HS7.out.row 1 (v := .slice Av j cv) rfl)
          have HO7 : Hid (w7.ownsRow W1.heap.size 3 1 (.slice (some ⟨ge, 0, none⟩) (k + 1) ce) (k + 1) (nvs (rowL (k + 1) (M 0) j))) := by
            show World.ownsRow _ _ _ _ _ _ _
            rw [HRQ.out]
            exact ho7
          clear ho7 hg7 hat7
          have hx8 : Ext w7 (w7.alloc (.cells #[.slice (some ⟨ge, 0, none⟩) (k + 1) ce] 29)) := ext_alloc (ext_refl w7) _
          have HS8 := Lib.hid (HS7.out.ext hx8)
          have HO8 := Lib.hid (own_ext HO7.out hx8)
          have hB7 : B ≤ w7.heap.size := by
            have h1 := (Array.getElem?_eq_some_iff.1 HS7.out.row).1
            have h2 := HBE.out
            omega
          clear hcx
          have hW1B : B ≤ W1.heap.size := by
            have h1 := (Array.getElem?_eq_some_iff.1 hs.out.row).1
            have h2 := HBE.out
            omega
          go_wp2_with (at_builtin; refine wpList_app rfl _ _ 22 rfl B 29 _ 1 24 Tryd.underlying22 info_ints rfl (by omega) (.slice Av j cv) j _ rfl HS8.out.hd _ 1 1 [.slice (some ⟨ge, 0, none⟩) (k + 1) ce] rfl (by simp) (seg_new _ _ _) (by simp [Value.oneCell']) (by simp only [maxLen]; omega) (by omega) (by simp; omega) ?_; intro v9 w9 ho9 hg9 hat9; obtain ⟨g9, c9, rfl⟩ := own_some ho9 (by omega); have sr := (hg9.block S (Array.getElem?_eq_some_iff.1 HS8.out.row).1 (fun e => by (have := own_base' HS8.out.hd S e.symm; have := HS8.out.lt; omega))).trans HS8.out.row; have sv9 := row_cell sr 1 (v := .slice Av j cv) rfl; have sf9 : ∀ i, w9.frozen? ⟨S, i, none⟩ = false := (fun i => frozen_of_row w9 _ i _ _ sr))
          have HS9 := Lib.hid (HS8.out.push HO8.out hW1B (fun p hp => (hs.out.rw p hp).lt (g p) rfl |>.2) ho9 hg9)
          have hx9 := Lib.hid (ext_set (ext_grown (ext_trans (ext_trans hx.out hx7) hx8) hg9 (fun i hi => by have := own_base' HS8.out.hd i hi; have := HBS.out; omega)) (p := ⟨S, 1, none⟩) (by rw [HS.out]; exact Nat.le_refl _) (.slice (some ⟨g9, 0, none⟩) (j + 1) c9))
          clear ho9 hg9 hat9 sr sv9 sf9
          go_wp2_with fail
          go_roundw
          case rel => exact ⟨j + 1, _, _, _, by omega, by simp, HS9.out, hx9.out⟩
          case measure => simp [intOf]; omega
    · obtain rfl : j = n := by omega
      obtain ⟨G, cap, hv⟩ := own_some hs.out.hd (by omega)
      injection hv with hv1 hv2 hv3
      subst hv1 hv3
      have HSY := Lib.hid hs.out.toSys
      clear hs
      go_wp2_with fail
      go_loopw [12] (fun kv wr => ∃ (k : Nat) (g c : Nat → Nat), k ≤ K ∧ kv = .int .i64 k ∧ Hid (Sys B wr S G cv m j (K + 1) g c (M k)) ∧ Hid (Ext w wr)) (fun kv _ => K - (intOf kv).toNat)
      case atStart => exact ⟨0, _, _, Nat.zero_le _, rfl, HSY.out, hx.out⟩
      case round =>
        obtain ⟨k, g, c, hk, rfl, hs, hx⟩ := hrel
        by_cases hkK : k < K
        · obtain ⟨i, hp, hst⟩ := HE.out.step k hkK
          have HEL := Lib.hid (r8elim_any m j (K + 1) k i B S G cv g c (M k) HE.out.hm hn32 (by omega) (by omega) (by omega) (HE.out.bd k (by omega)) hp wr hs.out)
          have HST := Lib.hid hst
          clear hp hst
          go_wp2_with fail
          refine HEL.out.mono ?_
          rintro e w3 ⟨rfl, ⟨g', c', hs'⟩, hb⟩
          have HS3 : Hid (Sys B w3 S G cv m j (K + 1) g' c' (M (k + 1))) := by rw [HST.out]; exact hs'
          have hx3 : Hid (Ext w w3) := hx.out.trans (hb.mono HBS.out)
          clear hs' hb
          go_wp2_with fail
          go_roundw
          case rel => exact ⟨k + 1, _, _, by omega, by simp, HS3.out, hx3.out⟩
          case measure => simp [intOf]; omega
        · obtain rfl : k = K := by omega
          go_wp2_with fail
          go_loopw [14] (fun qv wr => ∃ q : Nat, k ≤ q ∧ q ≤ j ∧ qv = .int .i64 q ∧ Hid (∀ p, k ≤ p → p < q → M k p k = 0) ∧ Hid (Sys B wr S G cv m j (k + 1) g c (M k)) ∧ Hid (Ext w wr)) (fun qv _ => j - (intOf qv).toNat)
          case atStart => exact ⟨k, Nat.le_refl _, hkn, rfl, fun p h1 h2 => absurd h2 (by omega), hs.out, hx.out⟩
          case round =>
            obtain ⟨q, hq1, hq2, rfl, hz, hs, hx⟩ := hrel
            have s1 := hs.out.s1
            by_cases hqj : q < j
            · have sh := hs.out.hcell hqj
              have sc := hs.out.cell hqj (show k < k + 1 by omega)
              obtain ⟨x, hxe⟩ : ∃ x, x = M k q k := ⟨_, rfl⟩
              rw [← hxe] at sc
              by_cases hx0' : x = 0
              · rw [hx0'] at sc
                have HZN : Hid (∀ p, k ≤ p → p < q + 1 → M k p k = 0) := by
                  show ∀ p, _ → _ → _
                  intro p h1 h2
                  rcases Nat.lt_or_ge p q with h | h
                  · exact hz.out p h1 h
                  · obtain rfl : p = q := by omega
                    rw [← hxe, hx0']
                clear hxe hx0'
                go_wp2_with fail
                go_roundw
                case rel => exact ⟨q + 1, by omega, by omega, by simp, HZN, hs, hx⟩
                case measure => simp [intOf]; omega
              · have t1 : ((x : Int) != 0) = true := by simpa using hx0'
                have HLO : Hid (elOk j k M = false) := by
                  show _ = _
                  unfold elOk
                  rw [List.all_eq_false]
                  refine ⟨q, List.mem_range.2 hqj, ?_⟩
                  simp only [Bool.or_eq_true, decide_eq_true_eq, not_or]
                  exact ⟨by omega, by rw [← hxe]; exact hx0'⟩
                clear hxe hx0'
                go_wp2_with fail
                go_ret2
                exact ExPost.lost HLO.out rfl hx.out
            · obtain rfl : q = j := by omega
              have HLO : Hid (elOk q k M = true) := by
                show _ = _
                unfold elOk
                rw [List.all_eq_true]
                intro p hp
                simp only [Bool.or_eq_true, decide_eq_true_eq]
                rcases Nat.lt_or_ge p k with h | h
                · exact .inl h
                · exact .inr (hz.out p h (List.mem_range.1 hp))
              have hszr := hx.out.size
              go_wp2_with fail
              obtain ⟨W5, hW5⟩ : ∃ W5, W5 = wr := ⟨_, rfl⟩
              rw [← hW5] at hs hx hszr s1 ⊢
              clear hW5
              go_loopw [15, 16] (fun ov kv wr => ∃ i : Nat, i ≤ k ∧ kv = .int .i64 i ∧ Hid (wr.ownsRow W5.heap.size 3 1 ov i (nvs (elTo k M i))) ∧ Ext W5 wr) (fun _ kv _ => k - (intOf kv).toNat)
              case atStart => exact ⟨0, Nat.zero_le _, rfl, own_nil' _ _ _ _, ext_refl _⟩
              case round =>
                obtain ⟨i, hi, rfl, ho, hx5⟩ := hrel
                have hsz5 := hx5.size
                by_cases hik : i < k
                · have hs5 := Lib.hid (hs.out.ext hx5)
                  have s1' := hs5.out.s1
                  have sh := hs5.out.hcell (show i < q by omega)
                  have sc := hs5.out.cell (show i < q by omega) (show k < k + 1 by omega)
                  obtain ⟨x, hxe⟩ : ∃ x, x = M k i k := ⟨_, rfl⟩
                  rw [← hxe] at sc
                  have HRQ : Hid (nvs (elTo k M (i + 1)) = nvs (elTo k M i) ++ [.int .i64 (x : Nat)]) := by
                    show _ = _
                    rw [elTo_succ, nvs_append, hxe]; rfl
                  have HO1 := Lib.hid (ho.out.alloc (.cells #[.int .i64 (x : Int)] 3))
                  have i1 : (0 : Int) ≤ (i : Int) := by omega
                  have i2 : (i : Int) < (q : Int) := by omega
                  have i3 : (k : Int) < ((k + 1 : Nat) : Int) := by omega
                  clear hxe
                  go_wp2_with (at_builtin; refine wpList_app rfl _ _ 29 rfl W5.heap.size 3 _ 1 8 Tryd.underlying29 info_int rfl (by omega) _ i _ rfl HO1.out _ 1 1 [.int .i64 (x : Int)] rfl (by simp) (seg_new _ _ _) (by simp [Value.oneCell']) (by simp only [maxLen]; omega) (by omega) (by simp; omega) ?_; intro v7 w7 ho7 hg7 hat7)
                  have HO7 : Hid (w7.ownsRow W5.heap.size 3 1 v7 (i + 1) (nvs (elTo k M (i + 1)))) := by
                    show World.ownsRow _ _ _ _ _ _ _
                    rw [HRQ.out]
                    exact ho7
                  have hx7 : Ext W5 w7 := ext_grown (ext_alloc hx5 _) hg7 (fun i hi => own_base' HO1.out i hi)
                  clear ho7 hg7 hat7
                  go_wp2_with fail
                  go_roundw
                  case rel => exact ⟨i + 1, by omega, by simp, HO7.out, hx7⟩
                  case measure => simp [intOf]; omega
                · obtain rfl : i = k := by omega
                  have HFI : Hid (RInts wr u15 (nints (elTo i M i))) := by
                    have hl : (nvs (elTo i M i)).length ≤ lim := by rw [nvs_len, lim_val]; simp [elTo]; omega
                    exact own_sl ho.out hl
                  go_wp2_with fail
                  go_ret2
                  exact ExPost.found HLO.out HFI.out (ext_trans hx.out hx5)

end Go.Proofs.YtgflflpeilfinaaDoor
