/- The walk of erasure.sum. -/
import Derived.Test.YtgflflpeilfinaaDoorSpanH
set_option linter.unusedVariables false
set_option linter.unusedSectionVars false
set_option linter.unusedSimpArgs false
namespace Go.Proofs.YtgflflpeilfinaaDoor
open Go.RowKit

def coefs (L : List (Int × Int)) : List Nat := L.map fun t => t.2.toNat
def picks (us : List ByteArray) (L : List (Int × Int)) : List ByteArray := L.map fun t => us.getD t.1.toNat ByteArray.empty
/-- The terms refer to units and have elements as coefficients. -/
def TmOk (m : Nat) (us : List ByteArray) (sz : Nat) (L : List (Int × Int)) : Prop := ∀ t ∈ L, ∃ u c : Nat, t = ((u : Int), (c : Int)) ∧ u < us.length ∧ c < 2 ^ m ∧ (us.getD u ByteArray.empty).size = sz
theorem own_tm {w : World} {base : Nat} {v : Value} {L : List (Int × Int)} (h : w.ownsRow base 49 2 v L.length (L.flatMap tmVals)) (hl : L.length ≤ lim) : RTerms w v L := by
  obtain ⟨A, c, rfl, hs⟩ := own_seg h (by omega)
  exact ⟨A, c, rfl, hl, hs⟩
theorem own_type {w : World} {b1 b2 : Nat} {e1 e2 : TypeId} {s1 s2 n1 n2 : Nat} {v1 v2 : Value} {x1 x2 : List Value} (h1 : w.ownsRow b1 e1 s1 v1 n1 x1) (h2 : w.ownsRow b2 e2 s2 v2 n2 x2) (hne : e1 ≠ e2) : v1.ownBlock = none ∨ v1.ownBlock ≠ v2.ownBlock := by
  rcases h1.2 with ⟨rfl, _⟩ | ⟨g, cap, cur, rfl, _, hg, _⟩
  · left; rfl
  · right
    rcases h2.2 with ⟨rfl, _⟩ | ⟨g', cap', cur', rfl, _, hg', _⟩
    · simp [Value.ownBlock]
    · simp only [Value.ownBlock]
      intro e
      injection e with e
      subst e
      rw [hg] at hg'
      injection hg' with hg'
      injection hg' with _ hg'
      exact hne hg'

structure SumF (B : Nat) (wr W : World) (k : Nat) (cs : List Value) (ps : List ByteArray) (v1 v2 : Value) : Prop where
  own1 : W.ownsRow B 3 1 v1 (k + 1) cs
  own2 : W.ownsRow B 9 1 v2 (k + 1) (ps.map .string)
theorem restS {F Cc : World → Value → Value → Prop} {goal : Prop} (h1 : (∀ W a b, F W a b → Cc W a b) → goal) (h2 : ∀ W a b, F W a b → Cc W a b) : goal := h1 h2

set_option maxRecDepth 100000 in
set_option maxHeartbeats 4000000 in
theorem sum_any (nm : ByteArray) (m n : Nat) (dm : Int) (hm : Fm m) (vp vu vl : Value) (us : List ByteArray) (L : List (Int × Int)) (sz : Nat) (w : World) (hl : Laid w) (hvp : vp.cells = #[vp]) (hu : RStrs w vu us) (hL : RTerms w vl L) (hLn : L ≠ []) (hL32 : L.length ≤ 32)
    (hok : TmOk m us sz L) (hm8 : sz % (m / 8) = 0) (hsz : sz ≤ lim) :
    Calls Tryd.prog 60 #[vCd nm m n vp dm, vu, vl] w (Ret w (.string (combR m (coefs L) (picks us L) sz))) := by
  have HU := Lib.hid hu
  have HL := Lib.hid hL
  have HOK := Lib.hid hok
  have HM := Lib.hid hm
  have HCM := Lib.hid fun vc vs W h1 h2 h3 => combine_ok m hm (coefs L) (picks us L) sz (fun c hc => by
    obtain ⟨t, ht, rfl⟩ := List.mem_map.1 hc
    obtain ⟨u, c, rfl, _, h, _⟩ := hok t ht
    simpa using h) (by unfold coefs; simpa using hLn) (by simp [coefs, picks]) (fun u hu => by
    obtain ⟨t, ht, rfl⟩ := List.mem_map.1 hu
    obtain ⟨u, c, rfl, _, _, h⟩ := hok t ht
    simpa using h) hm8 hsz vc vs W h1 h2 h3
  obtain ⟨B, cB, rfl, hlB, -⟩ := hu
  obtain ⟨D, cD, rfl, hlD, -⟩ := hL
  rw [List.length_map] at hlB HU ⊢
  rw [lim_val] at hlB hlD
  have hx0 : Ext w (w.alloc (.cells #[.string nm, .int .i64 m, .int .i64 n, vp, .int .i64 dm] 24)) := ext_alloc (ext_refl w) _
  have hz0 : w.heap.size < (w.alloc (.cells #[.string nm, .int .i64 m, .int .i64 n, vp, .int .i64 dm] 24)).heap.size := by simp
  have c1 : (w.alloc (.cells #[.string nm, .int .i64 m, .int .i64 n, vp, .int .i64 dm] 24)).cell? ⟨w.heap.size, 1, none⟩ = some (.int .i64 m) := by simp [go_sem]
  obtain ⟨i0, hi0, hz0', hz1, hz2⟩ := info_parts info_int
  obtain ⟨j0, hj0, hj1, hj2, hj3⟩ := info_parts info_str
  clear hm hok
  go_enter Tryd.func60, Tryd.ntmps60
  go_wp2_with fail
  obtain ⟨W0, hW0⟩ : ∃ W0, W0 = w.alloc (.cells #[.string nm, .int .i64 m, .int .i64 n, vp, .int .i64 dm] 24) := ⟨_, rfl⟩
  rw [← hW0] at hx0 hz0 c1 ⊢
  clear hW0
  have HU0 := Lib.hid (RStrs.ext HU.out hx0)
  have HL0 := Lib.hid (HL.out.ext hx0)
  go_loopw [7, 8, 15] (fun v1 v2 iv wr => ∃ k : Nat, k ≤ L.length ∧ iv = .int .i64 k ∧ Hid (wr.ownsRow W0.heap.size 3 1 v1 k (nvs (coefs (L.take k)))) ∧ Hid (wr.ownsRow W0.heap.size 9 1 v2 k ((picks us (L.take k)).map .string)) ∧ Ext W0 wr) (fun _ _ iv _ => L.length - (intOf iv).toNat)
  case atStart => exact ⟨0, Nat.zero_le _, rfl, own_nil' _ _ _ _, own_nil' _ _ _ _, ext_refl _⟩
  case round =>
    obtain ⟨k, hk, rfl, ho1, ho2, hx⟩ := hrel
    by_cases hlt : k < L.length
    · obtain ⟨bl, ol, hA, hl1, hl2⟩ := HL0.out.get k hlt
      subst hA
      obtain ⟨u, c, ht, huL, hcm, hus⟩ := HOK.out L[k] (List.getElem_mem _)
      rw [ht] at hl1 hl2
      obtain ⟨bu, ou, hB, hu1⟩ := HU0.out.get u huL
      subst hB
      obtain ⟨x, hxe⟩ : ∃ x, x = us[u] := ⟨_, rfl⟩
      rw [← hxe] at hu1
      have hT1 : Hid (nvs (coefs (L.take (k + 1))) = nvs (coefs (L.take k)) ++ [.int .i64 (c : Int)]) := by
        show _ = _
        rw [List.take_succ_eq_append_getElem hlt, ht]
        simp [coefs, nvs, nints, ivs]
      have hT2 : Hid ((picks us (L.take (k + 1))).map Value.string = (picks us (L.take k)).map Value.string ++ [.string x]) := by
        show _ = _
        rw [List.take_succ_eq_append_getElem hlt, ht, hxe]
        simp [picks, huL]
      have e1 := ext_cell hx hl1
      have e2 := ext_cell hx hl2
      have e3 := ext_cell hx hu1
      have hbl : bl < wr.heap.size := World.block_lt_of_cell? wr _ e1
      have hbu0 : bu < W0.heap.size := World.block_lt_of_cell? W0 _ hu1
      have hbu : bu < wr.heap.size := World.block_lt_of_cell? wr _ e3
      have hszr := hx.size
      have hxR : Ext wr (wr.alloc (.cells #[.int .i64 (u : Int), .int .i64 (c : Int)] 49)) := ext_alloc (ext_refl wr) _
      have f0 : (wr.alloc (.cells #[.int .i64 (u : Int), .int .i64 (c : Int)] 49)).cell? ⟨wr.heap.size, 0, none⟩ = some (.int .i64 (u : Int)) := by simp [go_sem]
      have f1 : (wr.alloc (.cells #[.int .i64 (u : Int), .int .i64 (c : Int)] 49)).cell? ⟨wr.heap.size, 1, none⟩ = some (.int .i64 (c : Int)) := by simp [go_sem]
      have f2 := ext_cell hxR e3
      obtain ⟨WR, hWR⟩ : ∃ WR, WR = wr.alloc (.cells #[.int .i64 (u : Int), .int .i64 (c : Int)] 49) := ⟨_, rfl⟩
      have hR1 := Lib.hid (own_ext ho1.out hxR)
      have hR2 := Lib.hid (own_ext ho2.out hxR)
      obtain ⟨A1, c1', rfl, -⟩ := own_seg ho1.out (by omega)
      obtain ⟨A2, c2', rfl, -⟩ := own_seg ho2.out (by omega)
      clear hl1 hl2 hu1 hxe ht hus
      go_wp2_with fail
      rw [← hWR] at f0 f1 f2 hxR hR1 hR2 ⊢
      obtain ⟨q, hq⟩ : ∃ q, q = wr.heap.size := ⟨_, rfl⟩
      have hWRs : q < WR.heap.size := by rw [hq, hWR]; simp
      rw [← hq] at f0 f1 hbl hbu ⊢
      have hqB : W0.heap.size ≤ q := by omega
      have hxc : Ext WR WR := ext_refl WR
      have hb1 : ∀ g, (Value.slice A1 k c1').ownBlock = some g → W0.heap.size ≤ g ∧ g < q := fun g e => by have := ho1.out.lt g e; omega
      have hb2 : ∀ g, (Value.slice A2 k c2').ownBlock = some g → W0.heap.size ≤ g ∧ g < q := fun g e => by have := ho2.out.lt g e; omega
      have HB1 := Lib.hid hb1
      have HB2 := Lib.hid hb2
      have hbuW : bu < W0.heap.size := hbu0
      have hxW0 := Lib.hid (ext_trans hx hxR)
      clear hWR e1 e2 e3 ho1 ho2 hb1 hb2 hq hx hxR
      go_region_held3 (fun w' => w'.cell? ⟨q, 0, none⟩ = some (.int .i64 (u : Int)) ∧ w'.cell? ⟨q, 1, none⟩ = some (.int .i64 (c : Int)) ∧ w'.cell? ⟨bu, ou + u, none⟩ = some (.string x)) (first
          | (refine (fun (h : Ext wb _) => ⟨ext_cell h fb0, ext_cell h fb1, ext_cell h fb2⟩) ?_
             repeat (first | exact ext_refl _ | (with_reducible refine ext_alloc ?_ _) | (with_reducible refine ext_drew ?_)))
          | (refine (fun (h : Ext wa _) => ⟨ext_cell h fa0, ext_cell h fa1, ext_cell h fa2⟩) ?_
             repeat (first | exact ext_refl _ | (with_reducible refine ext_alloc ?_ _) | (with_reducible refine ext_drew ?_)))
          | (refine (fun (h : Ext WR _) => ⟨ext_cell h f0, ext_cell h f1, ext_cell h f2⟩) ?_
             repeat (first | exact ext_refl _ | (with_reducible refine ext_alloc ?_ _) | (with_reducible refine ext_drew ?_))))
        (first
         | (refine step_append_lies _ (by rfl) _ _ _ (by rfl) W0.heap.size 3 i0 _ 1 8 Tryd.underlying29 hi0 hz0' hz1 hz2 rfl (by omega) (.slice A1 k c1') k (nvs (coefs (L.take k))) (by rfl) (own_ext hR1.out (by repeat (first | exact ext_refl _ | (with_reducible refine ext_alloc ?_ _) | (with_reducible refine ext_drew ?_)))) ⟨WR.heap.size, 0, none⟩ 1 1 [.int .i64 (c : Int)] (by rfl) rfl (World.news_of_block (cs := #[.int .i64 (c : Int)]) (by repeat (first | ((with_reducible refine row_alloc _ _ _ _ ?_); (first | (with_reducible rfl) | (simp; done))) | (with_reducible refine row_alloc_old ?_ _) | (with_reducible refine row_drew ?_)))) (by simp [Value.oneCell']) (by omega) (by simp only [maxLen]; omega) (by omega) (by have := hxW0.out.size; (try simp); omega) _ rfl ?_
            intro ga ca wa howna hgrowa hata hlta
            have hxa := Lib.hid (ext_grown (ext_trans hxW0.out (by repeat (first | exact ext_refl _ | (with_reducible refine ext_alloc ?_ _) | (with_reducible refine ext_drew ?_)))) hgrowa (fun i e => (HB1.out i e).1))
            have fa0 := hgrowa.cell (ext_cell (by repeat (first | exact ext_refl _ | (with_reducible refine ext_alloc ?_ _) | (with_reducible refine ext_drew ?_))) f0) (fun e => by have := (HB1.out q e.symm).2; omega)
            have fa1 := hgrowa.cell (ext_cell (by repeat (first | exact ext_refl _ | (with_reducible refine ext_alloc ?_ _) | (with_reducible refine ext_drew ?_))) f1) (fun e => by have := (HB1.out q e.symm).2; omega)
            have fa2 := hgrowa.cell (ext_cell (by repeat (first | exact ext_refl _ | (with_reducible refine ext_alloc ?_ _) | (with_reducible refine ext_drew ?_))) f2) (fun e => by have := (HB1.out bu e.symm).1; omega)
            have how2 := Lib.hid ((own_ext hR2.out (by repeat (first | exact ext_refl _ | (with_reducible refine ext_alloc ?_ _) | (with_reducible refine ext_drew ?_)))).kept hgrowa (own_type (own_ext hR2.out (by repeat (first | exact ext_refl _ | (with_reducible refine ext_alloc ?_ _) | (with_reducible refine ext_drew ?_)))) (own_ext hR1.out (by repeat (first | exact ext_refl _ | (with_reducible refine ext_alloc ?_ _) | (with_reducible refine ext_drew ?_)))) (by decide)))
            have hltW : WR.heap.size < wa.heap.size := by have := hgrowa.size; simp at this; omega
            have hkp := Lib.hid fun j (h1 : q ≤ j) h2 => hgrowa.block j h2 (fun e => by have := (HB1.out j e.symm).2; omega))
         | (refine step_append_lies _ (by rfl) _ _ _ (by rfl) W0.heap.size 3 i0 _ 1 8 Tryd.underlying29 hi0 hz0' hz1 hz2 rfl (by omega) (.slice A1 k c1') k (nvs (coefs (L.take k))) (by rfl) (own_ext hR1.out (by repeat (first | exact ext_refl _ | (with_reducible refine ext_alloc ?_ _) | (with_reducible refine ext_drew ?_)))) ⟨WR.heap.size + 1, 0, none⟩ 1 1 [.int .i64 (c : Int)] (by rfl) rfl (World.news_of_block (cs := #[.int .i64 (c : Int)]) (by repeat (first | ((with_reducible refine row_alloc _ _ _ _ ?_); (first | (with_reducible rfl) | (simp; done))) | (with_reducible refine row_alloc_old ?_ _) | (with_reducible refine row_drew ?_)))) (by simp [Value.oneCell']) (by omega) (by simp only [maxLen]; omega) (by omega) (by have := hxW0.out.size; (try simp); omega) _ rfl ?_
            intro ga ca wa howna hgrowa hata hlta
            have hxa := Lib.hid (ext_grown (ext_trans hxW0.out (by repeat (first | exact ext_refl _ | (with_reducible refine ext_alloc ?_ _) | (with_reducible refine ext_drew ?_)))) hgrowa (fun i e => (HB1.out i e).1))
            have fa0 := hgrowa.cell (ext_cell (by repeat (first | exact ext_refl _ | (with_reducible refine ext_alloc ?_ _) | (with_reducible refine ext_drew ?_))) f0) (fun e => by have := (HB1.out q e.symm).2; omega)
            have fa1 := hgrowa.cell (ext_cell (by repeat (first | exact ext_refl _ | (with_reducible refine ext_alloc ?_ _) | (with_reducible refine ext_drew ?_))) f1) (fun e => by have := (HB1.out q e.symm).2; omega)
            have fa2 := hgrowa.cell (ext_cell (by repeat (first | exact ext_refl _ | (with_reducible refine ext_alloc ?_ _) | (with_reducible refine ext_drew ?_))) f2) (fun e => by have := (HB1.out bu e.symm).1; omega)
            have how2 := Lib.hid ((own_ext hR2.out (by repeat (first | exact ext_refl _ | (with_reducible refine ext_alloc ?_ _) | (with_reducible refine ext_drew ?_)))).kept hgrowa (own_type (own_ext hR2.out (by repeat (first | exact ext_refl _ | (with_reducible refine ext_alloc ?_ _) | (with_reducible refine ext_drew ?_)))) (own_ext hR1.out (by repeat (first | exact ext_refl _ | (with_reducible refine ext_alloc ?_ _) | (with_reducible refine ext_drew ?_)))) (by decide)))
            have hltW : WR.heap.size < wa.heap.size := by have := hgrowa.size; simp at this; omega
            have hkp := Lib.hid fun j (h1 : q ≤ j) h2 => hgrowa.block j h2 (fun e => by have := (HB1.out j e.symm).2; omega))
         | (refine step_append_lies _ (by rfl) _ _ _ (by rfl) W0.heap.size 9 j0 _ 1 16 Tryd.underlying25 hj0 hj1 hj2 hj3 rfl (by omega) (.slice A2 k c2') k ((picks us (L.take k)).map .string) (by rfl) (own_ext how2.out (by repeat (first | exact ext_refl _ | (with_reducible refine ext_alloc ?_ _) | (with_reducible refine ext_drew ?_)))) ⟨wa.heap.size, 0, none⟩ 1 1 [.string x] (by rfl) rfl (World.news_of_block (cs := #[.string x]) (by repeat (first | ((with_reducible refine row_alloc _ _ _ _ ?_); (first | (with_reducible rfl) | (simp; done))) | (with_reducible refine row_alloc_old ?_ _) | (with_reducible refine row_drew ?_)))) (by simp [Value.oneCell']) (by omega) (by simp only [maxLen]; omega) (by omega) (by have := hxa.out.size; (try simp); omega) _ rfl ?_
            intro gb cb wb hownb hgrowb hatb hltb
            have hxb := Lib.hid (ext_grown (ext_trans hxa.out (by repeat (first | exact ext_refl _ | (with_reducible refine ext_alloc ?_ _) | (with_reducible refine ext_drew ?_)))) hgrowb (fun i e => (HB2.out i e).1))
            have fb0 := hgrowb.cell (ext_cell (by repeat (first | exact ext_refl _ | (with_reducible refine ext_alloc ?_ _) | (with_reducible refine ext_drew ?_))) fa0) (fun e => by have := (HB2.out q e.symm).2; omega)
            have fb1 := hgrowb.cell (ext_cell (by repeat (first | exact ext_refl _ | (with_reducible refine ext_alloc ?_ _) | (with_reducible refine ext_drew ?_))) fa1) (fun e => by have := (HB2.out q e.symm).2; omega)
            have fb2 := hgrowb.cell (ext_cell (by repeat (first | exact ext_refl _ | (with_reducible refine ext_alloc ?_ _) | (with_reducible refine ext_drew ?_))) fa2) (fun e => by have := (HB2.out bu e.symm).1; omega)
            have howa3 := Lib.hid ((own_ext howna (by repeat (first | exact ext_refl _ | (with_reducible refine ext_alloc ?_ _) | (with_reducible refine ext_drew ?_)))).kept hgrowb (own_type (own_ext howna (by repeat (first | exact ext_refl _ | (with_reducible refine ext_alloc ?_ _) | (with_reducible refine ext_drew ?_)))) (own_ext how2.out (by repeat (first | exact ext_refl _ | (with_reducible refine ext_alloc ?_ _) | (with_reducible refine ext_drew ?_)))) (by decide))))
         | (refine step_append_lies _ (by rfl) _ _ _ (by rfl) W0.heap.size 9 j0 _ 1 16 Tryd.underlying25 hj0 hj1 hj2 hj3 rfl (by omega) (.slice A2 k c2') k ((picks us (L.take k)).map .string) (by rfl) (own_ext how2.out (by repeat (first | exact ext_refl _ | (with_reducible refine ext_alloc ?_ _) | (with_reducible refine ext_drew ?_)))) ⟨WR.heap.size, 0, none⟩ 1 1 [.string x] (by rfl) rfl (World.news_of_block (cs := #[.string x]) (by (refine (hkp.out _ (by omega) (by simp <;> omega)).trans ?_; repeat (first | ((with_reducible refine row_alloc _ _ _ _ ?_); (first | (with_reducible rfl) | (simp; done))) | (with_reducible refine row_alloc_old ?_ _) | (with_reducible refine row_drew ?_))))) (by simp [Value.oneCell']) (by omega) (by simp only [maxLen]; omega) (by omega) (by have := hxa.out.size; (try simp); omega) _ rfl ?_
            intro gb cb wb hownb hgrowb hatb hltb
            have hxb := Lib.hid (ext_grown (ext_trans hxa.out (by repeat (first | exact ext_refl _ | (with_reducible refine ext_alloc ?_ _) | (with_reducible refine ext_drew ?_)))) hgrowb (fun i e => (HB2.out i e).1))
            have fb0 := hgrowb.cell (ext_cell (by repeat (first | exact ext_refl _ | (with_reducible refine ext_alloc ?_ _) | (with_reducible refine ext_drew ?_))) fa0) (fun e => by have := (HB2.out q e.symm).2; omega)
            have fb1 := hgrowb.cell (ext_cell (by repeat (first | exact ext_refl _ | (with_reducible refine ext_alloc ?_ _) | (with_reducible refine ext_drew ?_))) fa1) (fun e => by have := (HB2.out q e.symm).2; omega)
            have fb2 := hgrowb.cell (ext_cell (by repeat (first | exact ext_refl _ | (with_reducible refine ext_alloc ?_ _) | (with_reducible refine ext_drew ?_))) fa2) (fun e => by have := (HB2.out bu e.symm).1; omega)
            have howa3 := Lib.hid ((own_ext howna (by repeat (first | exact ext_refl _ | (with_reducible refine ext_alloc ?_ _) | (with_reducible refine ext_drew ?_)))).kept hgrowb (own_type (own_ext howna (by repeat (first | exact ext_refl _ | (with_reducible refine ext_alloc ?_ _) | (with_reducible refine ext_drew ?_)))) (own_ext how2.out (by repeat (first | exact ext_refl _ | (with_reducible refine ext_alloc ?_ _) | (with_reducible refine ext_drew ?_)))) (by decide))))
         | (refine step_append_lies _ (by rfl) _ _ _ (by rfl) W0.heap.size 9 j0 _ 1 16 Tryd.underlying25 hj0 hj1 hj2 hj3 rfl (by omega) (.slice A2 k c2') k ((picks us (L.take k)).map .string) (by rfl) (own_ext how2.out (by repeat (first | exact ext_refl _ | (with_reducible refine ext_alloc ?_ _) | (with_reducible refine ext_drew ?_)))) ⟨WR.heap.size + 1, 0, none⟩ 1 1 [.string x] (by rfl) rfl (World.news_of_block (cs := #[.string x]) (by (refine (hkp.out _ (by omega) (by simp <;> omega)).trans ?_; repeat (first | ((with_reducible refine row_alloc _ _ _ _ ?_); (first | (with_reducible rfl) | (simp; done))) | (with_reducible refine row_alloc_old ?_ _) | (with_reducible refine row_drew ?_))))) (by simp [Value.oneCell']) (by omega) (by simp only [maxLen]; omega) (by omega) (by have := hxa.out.size; (try simp); omega) _ rfl ?_
            intro gb cb wb hownb hgrowb hatb hltb
            have hxb := Lib.hid (ext_grown (ext_trans hxa.out (by repeat (first | exact ext_refl _ | (with_reducible refine ext_alloc ?_ _) | (with_reducible refine ext_drew ?_)))) hgrowb (fun i e => (HB2.out i e).1))
            have fb0 := hgrowb.cell (ext_cell (by repeat (first | exact ext_refl _ | (with_reducible refine ext_alloc ?_ _) | (with_reducible refine ext_drew ?_))) fa0) (fun e => by have := (HB2.out q e.symm).2; omega)
            have fb1 := hgrowb.cell (ext_cell (by repeat (first | exact ext_refl _ | (with_reducible refine ext_alloc ?_ _) | (with_reducible refine ext_drew ?_))) fa1) (fun e => by have := (HB2.out q e.symm).2; omega)
            have fb2 := hgrowb.cell (ext_cell (by repeat (first | exact ext_refl _ | (with_reducible refine ext_alloc ?_ _) | (with_reducible refine ext_drew ?_))) fa2) (fun e => by have := (HB2.out bu e.symm).1; omega)
            have howa3 := Lib.hid ((own_ext howna (by repeat (first | exact ext_refl _ | (with_reducible refine ext_alloc ?_ _) | (with_reducible refine ext_drew ?_)))).kept hgrowb (own_type (own_ext howna (by repeat (first | exact ext_refl _ | (with_reducible refine ext_alloc ?_ _) | (with_reducible refine ext_drew ?_)))) (own_ext how2.out (by repeat (first | exact ext_refl _ | (with_reducible refine ext_alloc ?_ _) | (with_reducible refine ext_drew ?_)))) (by decide)))))
      all_goals
        have HF1 : Hid (wb.ownsRow W0.heap.size 3 1 (.slice (some ⟨ga, 0, none⟩) (k + 1) ca) (k + 1) (nvs (coefs (L.take (k + 1))))) := by
          show World.ownsRow _ _ _ _ _ _ _
          rw [hT1.out]
          exact howa3.out
        have HF2 : Hid (wb.ownsRow W0.heap.size 9 1 (.slice (some ⟨gb, 0, none⟩) (k + 1) cb) (k + 1) ((picks us (L.take (k + 1))).map .string)) := by
          show World.ownsRow _ _ _ _ _ _ _
          rw [hT2.out]
          exact hownb
        clear f0 f1 f2 fa0 fa1 fa2 fb0 fb1 fb2 howna hownb hgrowa hgrowb hata hatb
        go_wp2_with fail
        go_roundw
        case rel => exact ⟨k + 1, by omega, by simp, HF1, HF2, hxb.out⟩
        case measure => simp [intOf]; omega
    · have hk' : k = L.length := by omega
      have HV1 : Hid (RInts wr u7 ((coefs L).map fun (c : Nat) => (c : Int))) := by
        have := ho1.out
        rw [hk', List.take_length] at this
        exact own_ints this (by unfold coefs; rw [List.length_map, lim_val]; omega)
      have HV2 : Hid (RStrs wr u8 (picks us L)) := by
        have := ho2.out
        rw [hk', List.take_length] at this
        refine own_sl this ?_
        unfold picks
        rw [List.length_map, List.length_map, lim_val]; omega
      have d1 := ext_cell hx c1
      have hlr := Lib.hid ((hl.ext hx0).ext hx)
      clear hk' ho1 ho2
      go_wp2_with fail
      refine (HCM.out _ _ wr hlr.out HV1.out HV2.out).mono ?_
      rintro e w2 ⟨rfl, hx2⟩
      go_wp2_with fail
      go_ret
      exact ⟨rfl, ext_trans hx0 (ext_trans hx hx2)⟩

end Go.Proofs.YtgflflpeilfinaaDoor
