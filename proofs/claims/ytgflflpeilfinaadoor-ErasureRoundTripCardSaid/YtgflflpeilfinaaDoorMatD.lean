/- The walks of package matrix: Valid, row. -/
import Derived.Test.YtgflflpeilfinaaDoorEraG
set_option linter.unusedVariables false
set_option linter.unusedSimpArgs false
namespace Go.Proofs.YtgflflpeilfinaaDoor
open Go.RowKit

abbrev vMat (m R C : Nat) (v : Value) : Value := .agg #[.int .i64 m, .int .i64 R, .int .i64 C, v]
def nints (L : List Nat) : List Int := L.map fun x : Nat => (x : Int)
def nvs (L : List Nat) : List Value := ivs (nints L)
theorem nvs_len (L : List Nat) : (nvs L).length = L.length := by simp [nvs, nints, ivs]

def notElN (m : Nat) : Value → Bool
  | .int _ a => decide (a < 0) || decide (a ≥ 2 ^ m)
  | _ => true

set_option maxHeartbeats 400000 in
theorem matValid1_any (m : Nat) (hm : Fm m) (a : Int) (p : Addr) (w : World) (hp : w.cell? p = some (.int .i64 m)) (hs : p.spot = none) (ho : p.off = 0) :
    Calls Tryd.prog 97 #[.int .i64 a, .pointer (some p)] w (Ret w (.bool (notElN m (.int .i64 a)))) := by
  obtain ⟨b, o, s⟩ := p
  simp only at hs ho
  subst hs
  subst ho
  have hm1 := hm.le.1
  have hm2 := hm.le.2
  have hx : (2 : Int) ^ m ≤ 65536 := by rcases hm with rfl | rfl <;> decide
  have hx0 : (0 : Int) < 2 ^ m := by rcases hm with rfl | rfl <;> decide
  have HN : Hid (notElN m (.int .i64 a) = (decide (a < 0) || decide (a ≥ 2 ^ m))) := by show _ = _; rfl
  clear hm
  by_cases ha : a < 0
  · have t1 : decide (a < 0) = true := by simpa using ha
    go_enter Tryd.func97, Tryd.ntmps97
    go_wp2_with fail
    go_ret
    exact ⟨ret_bool (by rw [HN.out, t1]; rfl), ext_refl w⟩
  · have t1 : decide (a < 0) = false := by simpa using ha
    go_enter Tryd.func97, Tryd.ntmps97
    go_wp2_with fail
    go_ret
    exact ⟨ret_bool (by rw [HN.out, t1]; rfl), ext_refl w⟩
theorem entersF_matValid1 : EntersF Tryd.prog 97 := entersF_of Tryd.func97 (by kernel_rfl) rfl

set_option maxHeartbeats 1000000 in
theorem matValid_ok (m R C : Nat) (hm : Fm m) (hR : R ≤ 32) (hC : C ≤ 32) (L : List Nat) (hL : L.length = R * C) (hb : ∀ x ∈ L, x < 2 ^ m) (v : Value) (w : World) (hv : RInts w v (nints L)) :
    Calls Tryd.prog 79 #[vMat m R C v] w (Ret w (.bool true)) := by
  have HV := Lib.hid hv
  obtain ⟨A, c, rfl, hlen, -⟩ := hv
  have hll : (ivs (nints L)).length = L.length := nvs_len L
  rw [hll] at HV hlen ⊢
  have hx0 : Ext w (w.alloc (.cells #[.int .i64 m, .int .i64 R, .int .i64 C, .slice A L.length c] 31)) := ext_alloc (ext_refl w) _
  have HALL : Hid ((ivs (nints L)).any (notElN m) = false) := by
    show _ = _
    rw [List.any_eq_false]
    intro u hu
    obtain ⟨x, hx, rfl⟩ := List.mem_map.1 hu
    obtain ⟨n, hn, rfl⟩ := List.mem_map.1 hx
    have := hb n hn
    simp only [notElN, Bool.or_eq_true, decide_eq_true_eq, not_or]
    refine ⟨by omega, ?_⟩
    have hc : ((2 ^ m : Nat) : Int) = (2 : Int) ^ m := by simp
    rw [← hc]
    omega
  have hRC : R * C ≤ 1024 := Nat.le_trans (Nat.mul_le_mul hR hC) (by omega)
  have t0 : ((m : Int) != 8) = false ∨ ((m : Int) != 8) = true ∧ ((m : Int) != 16) = false := by rcases hm with rfl | rfl <;> simp
  have hmm : IntKind.i64.wrap ((R : Int) * (C : Int)) = (R : Int) * (C : Int) := by rw [← Int.natCast_mul]; exact IntWalk.i64_in _ (by omega)
  have t1 : ((L.length : Int) != (R : Int) * (C : Int)) = false := by simp [hL]
  have HM := Lib.hid hm
  have hLl : L.length ≤ 1024 := by omega
  clear hm hb hll hL
  rcases t0 with t0 | ⟨t0, t2⟩
  all_goals
    go_enter Tryd.func79, Tryd.ntmps79
    go_wp2_with fail
  all_goals
    refine (containsFunc_int 97 _ (notElN m) _ _ _ (RInts.ext HV.out hx0) entersF_matValid1 ?_).mono ?_
    · intro u hu w' hw'
      obtain ⟨x, hx, rfl⟩ := List.mem_map.1 hu
      exact matValid1_any m HM.out x _ w' (ext_cell hw' (by simp [go_sem])) rfl rfl
    rintro e w1 ⟨rfl, hx1⟩
    rw [HALL.out]
    go_wp2_with fail
    go_ret
    exact ⟨rfl, ext_trans hx0 hx1⟩

set_option maxHeartbeats 1000000 in
/-- A row of a matrix, in the same memory. -/
theorem matRow_any (m R C i S o n cap : Nat) (hi : i ≤ 1000) (hC : C ≤ 1000) (h1 : (i + 1) * C ≤ n) (h2 : n ≤ cap) (h3 : cap ≤ maxLen) (hC0 : 0 < C) (w : World) :
    Calls Tryd.prog 80 #[vMat m R C (.slice (some ⟨S, o, none⟩) n cap), .int .i64 i] w (Ret w (.slice (some ⟨S, o + i * C, none⟩) C (cap - i * C))) := by
  have hic : i * C ≤ 1000000 := Nat.le_trans (Nat.mul_le_mul hi hC) (by omega)
  have hic2 : (i + 1) * C = i * C + C := by rw [Nat.add_mul, Nat.one_mul]
  obtain ⟨p, hp⟩ : ∃ p, p = i * C := ⟨_, rfl⟩
  obtain ⟨q, hq⟩ : ∃ q, q = p + C := ⟨_, rfl⟩
  rw [hic2, ← hp, ← hq] at h1
  rw [← hp] at hic ⊢
  unfold maxLen at h3
  have w1 : IntKind.i64.wrap ((i : Int) * (C : Int)) = (p : Int) := by
    rw [← Int.natCast_mul, ← hp]; exact IntWalk.i64_in _ (by omega)
  have w2 : IntKind.i64.wrap ((i : Int) + 1) = (i : Int) + 1 := IntWalk.i64_in _ (by omega)
  have w3 : IntKind.i64.wrap (((i : Int) + 1) * (C : Int)) = (q : Int) := by
    have : ((i : Int) + 1) * (C : Int) = (q : Int) := by
      rw [show ((i : Int) + 1) = ((i + 1 : Nat) : Int) by simp, ← Int.natCast_mul, hic2, ← hp, ← hq]
    rw [this]; exact IntWalk.i64_in _ (by omega)
  have hqp : q - p = C := by omega
  have hpq : p ≤ q := by omega
  have hqc : q ≤ cap := by omega
  have hpc : p < cap := by omega
  clear hp hic2 hC
  go_enter Tryd.func80, Tryd.ntmps80
  go_wp2_with fail
  go_ret
  refine ⟨?_, ext_alloc (ext_refl w) _⟩
  show Ending.returned (.slice _ (p + C - p) _) = _
  rw [show p + C - p = C by omega]

end Go.Proofs.YtgflflpeilfinaaDoor

/- The walks of package matrix: times, zero, add; matrices as functions. -/
set_option linter.unusedVariables false
set_option linter.unusedSimpArgs false
namespace Go.Proofs.YtgflflpeilfinaaDoor
open Go.RowKit

/-- The cells of a matrix, row by row. -/
def flatM (R C : Nat) (A : Nat → Nat → Nat) : List Nat := (List.range R).flatMap fun i => (List.range C).map (A i)
theorem flatM_len (R C : Nat) (A : Nat → Nat → Nat) : (flatM R C A).length = R * C := flat_len _ C R (fun u _ => by simp)
theorem flatM_get {R C : Nat} (A : Nat → Nat → Nat) {i k : Nat} (hi : i < R) (hk : k < C) : (flatM R C A)[i * C + k]? = some (A i k) := by
  unfold flatM
  rw [flat_get _ C R (fun u _ => by simp) i k hi hk]
  simp [hk]
theorem idx_lt {R C i k : Nat} (hi : i < R) (hk : k < C) : i * C + k < R * C :=
  Nat.lt_of_lt_of_le (show i * C + k < (i + 1) * C by rw [Nat.add_mul]; omega) (Nat.mul_le_mul_right C (by omega))
theorem idx_inj {C i k i' k' : Nat} (hk : k < C) (hk' : k' < C) (h : i * C + k = i' * C + k') : i = i' ∧ k = k' := by
  have h1 : (i * C + k) / C = i := by rw [Nat.mul_comm, Nat.mul_add_div (by omega), Nat.div_eq_of_lt hk]; omega
  have h2 : (i' * C + k') / C = i' := by rw [Nat.mul_comm, Nat.mul_add_div (by omega), Nat.div_eq_of_lt hk']; omega
  rw [h, h2] at h1
  subst h1
  exact ⟨rfl, by omega⟩
theorem flatM_ext {R C : Nat} {L : List Nat} (A : Nat → Nat → Nat) (hl : L.length = R * C) (h : ∀ i k, i < R → k < C → L[i * C + k]? = some (A i k)) : L = flatM R C A := by
  apply List.ext_getElem?
  intro p
  by_cases hp : p < R * C
  · have hC : 0 < C := by
      rcases Nat.eq_zero_or_pos C with h | h
      · subst h; simp at hp
      · exact h
    have h1 : p / C < R := Nat.div_lt_of_lt_mul (by rw [Nat.mul_comm]; exact hp)
    have h2 : p % C < C := Nat.mod_lt _ hC
    have e : p = p / C * C + p % C := by rw [Nat.mul_comm, Nat.div_add_mod]
    rw [e, h _ _ h1 h2, flatM_get A h1 h2]
  · rw [List.getElem?_eq_none (by omega), List.getElem?_eq_none (by rw [flatM_len]; omega)]
theorem flatM_congr {R C : Nat} {A B : Nat → Nat → Nat} (h : ∀ i k, i < R → k < C → A i k = B i k) : flatM R C A = flatM R C B :=
  flatM_ext B (flatM_len R C A) (fun i k hi hk => by rw [flatM_get A hi hk, h i k hi hk])
theorem flatM_set {R C : Nat} (A B : Nat → Nat → Nat) {i k v : Nat} (hi : i < R) (hk : k < C) (h1 : B i k = v) (h2 : ∀ i' k', i' < R → k' < C → ¬ (i' = i ∧ k' = k) → B i' k' = A i' k') :
    (flatM R C A).set (i * C + k) v = flatM R C B := by
  refine flatM_ext B (by simp [flatM_len]) (fun i' k' hi' hk' => ?_)
  rw [List.getElem?_set]
  by_cases e : i * C + k = i' * C + k'
  · obtain ⟨rfl, rfl⟩ := idx_inj hk hk' e
    rw [if_pos rfl, if_pos (by rw [flatM_len]; exact idx_lt hi hk), h1]
  · rw [if_neg e, flatM_get A hi' hk', h2 i' k' hi' hk' (fun h => e (by rw [h.1, h.2]))]
theorem nvs_set (L : List Nat) (p v : Nat) : (nvs L).toArray.setIfInBounds p (.int .i64 (v : Int)) = (nvs (L.set p v)).toArray := by
  simp [nvs, nints, ivs, List.map_set]
theorem nvs_get {L : List Nat} {p v : Nat} (h : L[p]? = some v) : (nvs L).toArray[p]? = some (.int .i64 (v : Int)) := by
  simp [nvs, nints, ivs, h]

set_option maxHeartbeats 400000 in
theorem matTimes_any (m a b : Nat) (hm : Fm m) (ha : a < 2 ^ m) (hb : b < 2 ^ m) (w : World) (hl : Laid w) :
    Calls Tryd.prog 100 #[.int .i64 m, .int .i64 a, .int .i64 b] w (Ret w (.int .i64 (gmul m a b))) := by
  have HC := Lib.hid (fieldMul_any m a b hm ha hb w hl)
  clear hm ha hb hl
  go_enter Tryd.func100, Tryd.ntmps100
  go_wp2_with fail
  refine HC.out.mono ?_
  rintro e w1 ⟨rfl, hx⟩
  go_wp2_with fail
  go_ret
  exact ⟨rfl, hx⟩

set_option maxRecDepth 100000 in
set_option maxHeartbeats 1000000 in
theorem matZero_any (m R C : Nat) (hR : R ≤ 32) (hC : C ≤ 32) (w : World) :
    Calls Tryd.prog 98 #[.int .i64 m, .int .i64 R, .int .i64 C] w fun e w' => ∃ S, e = .returned (vMat m R C (.slice (some ⟨S, 0, none⟩) (R * C) (R * C))) ∧ w.heap.size ≤ S ∧ w'.heap[S]? = some (.cells (nvs (flatM R C fun _ _ => 0)).toArray 3 (0, 0)) ∧ Ext w w' := by
  have hRC : R * C ≤ 1024 := Nat.le_trans (Nat.mul_le_mul hR hC) (by omega)
  have hmk := fun W => make_zero (P := Tryd.prog) W 29 3 _ (.int .i64 0) 8 Tryd.underlying29 rfl rfl rfl rfl rfl (R * C) (by omega) (by omega)
  simp only [Int.natCast_mul, List.toArray_replicate] at hmk
  have hmm : IntKind.i64.wrap ((R : Int) * (C : Int)) = (R : Int) * (C : Int) := by rw [← Int.natCast_mul]; exact IntWalk.i64_in _ (by omega)
  have HZ : Hid ((nvs (flatM R C fun _ _ => 0)).toArray = Array.replicate (R * C) (.int .i64 0)) := by
    show _ = _
    have : flatM R C (fun _ _ => 0) = List.replicate (R * C) 0 := (flatM_ext _ (by simp) (fun i k hi hk => by rw [List.getElem?_replicate, if_pos (idx_lt hi hk)])).symm
    rw [this]
    simp [nvs, nints, ivs]
  go_enter Tryd.func98, Tryd.ntmps98
  go_wp2_with fail
  refine bodyPost_ret (by simp [results, Tryd.results98, go_sem, *]; try rfl) rfl ?_
  refine ⟨w.heap.size + 1, rfl, by omega, ?_, ext_alloc (ext_alloc (ext_refl w) _) _⟩
  rw [HZ.out]
  exact row_alloc _ _ _ _ (by simp)

/-- A multiple of row r has been added to row i, the first k elements. -/
def addTo (m : Nat) (A : Nat → Nat → Nat) (i r f k : Nat) : Nat → Nat → Nat := fun p q => if p = i ∧ q < k then A i q ^^^ gmul m f (A r q) else A p q
def addM (m : Nat) (A : Nat → Nat → Nat) (i r f : Nat) : Nat → Nat → Nat := fun p q => if p = i then A i q ^^^ gmul m f (A r q) else A p q

theorem Laid.wrote {w W : World} {g : Nat} {t : TypeId} {cs : Array Value} (h : Laid w) (hw : Wrote w g t cs W) (hg : 0 < g) : Laid W :=
  ⟨hw.far h.c0 (by simp; omega), hw.far h.c1 (by simp; omega), hw.far h.c2 (by simp; omega), hw.far h.c3 (by simp; omega)⟩

set_option maxRecDepth 100000 in
set_option maxHeartbeats 2000000 in
theorem matAdd_any (m R C i r f S cap1 cap2 : Nat) (A : Nat → Nat → Nat) (hm : Fm m) (hf : f < 2 ^ m) (hC : C ≤ 32) (hi : i < R) (hr : r < R) (hir : i ≠ r) (hA : ∀ p q, p < R → q < C → A p q < 2 ^ m) (w : World) (hl : Laid w) (hS : 0 < S)
    (hrow : w.heap[S]? = some (.cells (nvs (flatM R C A)).toArray 3 (0, 0))) :
    Calls Tryd.prog 101 #[.int .i64 m, .slice (some ⟨S, i * C, none⟩) C cap1, .slice (some ⟨S, r * C, none⟩) C cap2, .int .i64 f] w fun e w' => e = .returned (.tuple #[]) ∧ Wrote w S 3 (nvs (flatM R C (addM m A i r f))).toArray w' := by
  have HM := Lib.hid hm
  have HA := Lib.hid hA
  have HE : Hid (∀ k, k ≤ C → flatM R C (addTo m A i r f k) = flatM R C (addTo m A i r f k)) := fun _ _ => rfl
  have H0 : Hid (Wrote w S 3 (nvs (flatM R C (addTo m A i r f 0))).toArray w) := by
    refine Wrote.init ?_
    rw [hrow, flatM_congr (B := addTo m A i r f 0) (fun p q _ _ => by simp [addTo])]
  have HF : Hid (flatM R C (addTo m A i r f C) = flatM R C (addM m A i r f)) := by
    show _ = _
    exact flatM_congr (fun p q hp hq => by simp [addTo, addM, hq])
  have HFF := Lib.hid hf
  have HMP := Lib.hid (pow_lt hm)
  clear hm hA HE hrow hf
  go_enter Tryd.func101, Tryd.ntmps101
  go_wp2_with fail
  go_loopw [12] (fun i' wr => ∃ k : Nat, k ≤ C ∧ i' = .int .i64 k ∧ Hid (Wrote w S 3 (nvs (flatM R C (addTo m A i r f k))).toArray wr)) (fun i' _ => C - (intOf i').toNat)
  case atStart => exact ⟨0, Nat.zero_le _, rfl, H0.out⟩
  case round =>
    obtain ⟨k, hk, rfl, hw⟩ := hrel
    by_cases hlt : k < C
    · have hcr : wr.cell? ⟨S, r * C + k, none⟩ = some (.int .i64 (A r k : Nat)) := row_cell hw.out.row _ (nvs_get (by rw [flatM_get _ hr hlt]; simp [addTo, Ne.symm hir]))
      have hci : wr.cell? ⟨S, i * C + k, none⟩ = some (.int .i64 (A i k : Nat)) := row_cell hw.out.row _ (nvs_get (by rw [flatM_get _ hi hlt]; simp [addTo]))
      have hfz : wr.frozen? ⟨S, i * C + k, none⟩ = false := frozen_of_row wr S _ _ _ hw.out.row
      obtain ⟨x, hx⟩ : ∃ x, x = A r k := ⟨_, rfl⟩
      obtain ⟨y, hy⟩ : ∃ y, y = A i k := ⟨_, rfl⟩
      rw [← hx] at hcr
      rw [← hy] at hci
      have hxl : x < 2 ^ m := by rw [hx]; exact HA.out r k hr hlt
      have hyl : y < 2 ^ m := by rw [hy]; exact HA.out i k hi hlt
      have HT := Lib.hid (matTimes_any m f x HM.out HFF.out hxl)
      have hgl := gmul_lt (b := x) HM.out HFF.out
      obtain ⟨g, hg⟩ : ∃ g, g = gmul m f x := ⟨_, rfl⟩
      rw [← hg] at HT hgl
      have X1 : bits .xor .i64 (y : Int) (g : Int) = ((y ^^^ g : Nat) : Int) := xor_i64 _ _ (by have := HMP.out; omega) (by have := HMP.out; omega)
      have HN : Hid (∀ W, Wrote w S 3 (nvs (flatM R C (addTo m A i r f k))).toArray W → Wrote w S 3 (nvs (flatM R C (addTo m A i r f (k + 1)))).toArray (W.setCell ⟨S, i * C + k, none⟩ (.int .i64 ((y ^^^ g : Nat) : Int)))) := by
        show ∀ W, _ → _
        intro W hwW
        have := hwW.set (i * C + k) (.int .i64 ((y ^^^ g : Nat) : Int))
        rw [nvs_set, flatM_set _ (addTo m A i r f (k + 1)) hi hlt (by rw [hy, hg, hx]; simp [addTo]) (fun p q hp hq hne => by
          simp only [addTo]
          by_cases h1 : p = i ∧ q < k
          · rw [if_pos h1, if_pos ⟨h1.1, by omega⟩]
          · rw [if_neg h1, if_neg]
            rintro ⟨h2, h3⟩
            exact h1 ⟨h2, by rcases Nat.lt_or_ge q k with h | h; exact h; exact absurd ⟨h2, by omega⟩ hne⟩)] at this
        exact this
      have HLD := Lib.hid (hl.wrote hw.out hS)
      clear hx hy hg hxl hyl
      go_wp2_with fail
      go_region_law (first
        | (go_simp
           go_at_call 100
           refine (HT.out _ (HLD.out.ext (ext_drew (ext_refl _)))).mono ?_
           rintro e w3 ⟨rfl, hx3⟩
           have hW3 := Lib.hid (hw.out.drew.ext hx3)
           have hci3 : w3.cell? ⟨S, i * C + k, none⟩ = some (.int .i64 (y : Int)) := ext_cell hx3 hci
           have hfz3 : w3.frozen? ⟨S, i * C + k, none⟩ = false := frozen_of_row w3 S _ _ _ hW3.out.row))
      all_goals
        have HN2 := Lib.hid (HN.out _ hW3.out)
        clear HN hW3 hci3 hfz3
        go_wp2_with fail
        go_roundw
        case rel => exact ⟨k + 1, by omega, by simp, HN2⟩
        case measure => simp [intOf]; omega
    · have hk' : k = C := by omega
      have HW : Hid (Wrote w S 3 (nvs (flatM R C (addM m A i r f))).toArray wr) := by
        have := hw.out
        rw [hk', HF.out] at this
        exact this
      clear hk'
      go_wp2_with fail
      exact bodyPost_end (results_none rfl _ _ _) rfl ⟨rfl, HW.out⟩

end Go.Proofs.YtgflflpeilfinaaDoor

/- The walk of the swap in matrix.reduce. -/
set_option linter.unusedVariables false
set_option linter.unusedSimpArgs false
namespace Go.Proofs.YtgflflpeilfinaaDoor
open Go.RowKit

def swapTo (A : Nat → Nat → Nat) (i r k : Nat) : Nat → Nat → Nat := fun p q => if q < k then (if p = i then A r q else if p = r then A i q else A p q) else A p q
theorem swapTo_step (A : Nat → Nat → Nat) {R C i r k : Nat} (hi : i < R) (hr : r < R) (hk : k < C) :
    ((flatM R C (swapTo A i r k)).set (i * C + k) (A r k)).set (r * C + k) (A i k) = flatM R C (swapTo A i r (k + 1)) ∧
    ((flatM R C (swapTo A i r k)).set (r * C + k) (A i k)).set (i * C + k) (A r k) = flatM R C (swapTo A i r (k + 1)) := by
  have h1 : ∀ p q, q < C → ¬ (p = i ∧ q = k) → ¬ (p = r ∧ q = k) → swapTo A i r (k + 1) p q = swapTo A i r k p q := by
    intro p q hq n1 n2
    simp only [swapTo]
    by_cases e : q < k
    · rw [if_pos e, if_pos (by omega)]
    · rw [if_neg e]
      by_cases e2 : q = k
      · rw [if_pos (by omega), if_neg (fun h => n1 ⟨h, e2⟩), if_neg (fun h => n2 ⟨h, e2⟩)]
      · rw [if_neg (by omega)]
  have hI : swapTo A i r (k + 1) i k = A r k := by simp [swapTo]
  have hRr : swapTo A i r (k + 1) r k = A i k := by
    simp only [swapTo]
    rw [if_pos (by omega)]
    by_cases e : r = i
    · rw [if_pos e, e]
    · simp [e]
  constructor
  · rw [flatM_set _ (fun p q => if p = i ∧ q = k then A r k else swapTo A i r k p q) hi hk (by simp) (fun p q _ _ h => by simp [h])]
    exact flatM_set _ _ hr hk hRr (fun p q _ hq h => by
      by_cases e : p = i ∧ q = k
      · obtain ⟨rfl, rfl⟩ := e; rw [hI]; simp
      · rw [h1 p q hq e h]; simp [e])
  · rw [flatM_set _ (fun p q => if p = r ∧ q = k then A i k else swapTo A i r k p q) hr hk (by simp) (fun p q _ _ h => by simp [h])]
    exact flatM_set _ _ hi hk hI (fun p q _ hq h => by
      by_cases e : p = r ∧ q = k
      · obtain ⟨rfl, rfl⟩ := e; rw [hRr]; simp
      · rw [h1 p q hq h e]; simp [e])
def swapM (A : Nat → Nat → Nat) (i r : Nat) : Nat → Nat → Nat := fun p q => if p = i then A r q else if p = r then A i q else A p q

set_option maxRecDepth 100000 in
set_option maxHeartbeats 400000 in
theorem matSwap_any (m R C i r S B n cap : Nat) (A : Nat → Nat → Nat) (hC : C ≤ 32) (hC0 : 0 < C) (hR : R ≤ 32) (hi : i < R) (hr : r < R) (hn : R * C ≤ n) (hcap : n ≤ cap) (hcm : cap ≤ maxLen) (w : World)
    (hB : w.heap[B]? = some (.cells #[.int .i64 m, .int .i64 R, .int .i64 C, .slice (some ⟨S, 0, none⟩) n cap] 31 (0, 0)))
    (hrow : w.heap[S]? = some (.cells (nvs (flatM R C A)).toArray 3 (0, 0))) :
    Calls Tryd.prog 99 #[.int .i64 i, .int .i64 r, .pointer (some ⟨B, 0, none⟩)] w fun e w' => e = .returned (.tuple #[]) ∧ Wrote w S 3 (nvs (flatM R C (swapM A i r))).toArray w' := by
  have hBS : B ≠ S := by
    rintro rfl
    rw [hB] at hrow
    injection hrow with h
    injection h with h1 h2
    exact absurd h2 (by decide)
  have b0 := row_cell hB 0 (v := .int .i64 m) rfl
  have b1 := row_cell hB 1 (v := .int .i64 R) rfl
  have b2 := row_cell hB 2 (v := .int .i64 C) rfl
  have b3 := row_cell hB 3 (v := .slice (some ⟨S, 0, none⟩) n cap) rfl
  have hii : (i + 1) * C ≤ n := Nat.le_trans (Nat.mul_le_mul_right C (by omega)) hn
  have hrr : (r + 1) * C ≤ n := Nat.le_trans (Nat.mul_le_mul_right C (by omega)) hn
  have HRW : Hid (∀ x, (x + 1) * C ≤ n → x ≤ 1000 → ∀ W, Calls Tryd.prog 80 #[vMat m R C (.slice (some ⟨S, 0, none⟩) n cap), .int .i64 x] W (Ret W (.slice (some ⟨S, x * C, none⟩) C (cap - x * C)))) := by
    show ∀ x, _ → _ → _
    intro x h1 h2 W
    have := matRow_any m R C x S 0 n cap h2 (by omega) h1 hcap hcm hC0 W
    rwa [Nat.zero_add] at this
  have hxc : Ext w w := ext_refl w
  have H0 : Hid (Wrote w S 3 (nvs (flatM R C (swapTo A i r 0))).toArray w) := by
    refine Wrote.init ?_
    rw [hrow, flatM_congr (B := swapTo A i r 0) (fun p q _ _ => by simp [swapTo])]
  have HF : Hid (flatM R C (swapTo A i r C) = flatM R C (swapM A i r)) := by
    show _ = _
    exact flatM_congr (fun p q hp hq => by simp [swapTo, swapM, hq])
  have HII := Lib.hid hii
  have HRR := Lib.hid hrr
  clear hrow hB hii hrr hn hcap hcm
  go_enter Tryd.func99, Tryd.ntmps99
  go_wp2_with fail
  go_region_held3 (fun w' => Ext w w' ∧ w'.cell? ⟨B, 0, none⟩ = some (.int .i64 m) ∧ w'.cell? ⟨B, 1, none⟩ = some (.int .i64 R) ∧ w'.cell? ⟨B, 2, none⟩ = some (.int .i64 C) ∧ w'.cell? ⟨B, 3, none⟩ = some (.slice (some ⟨S, 0, none⟩) n cap)) (first
      | (refine (fun (h : Ext w _) => ⟨h, ext_cell h b0, ext_cell h b1, ext_cell h b2, ext_cell h b3⟩) ?_
         first | exact hxc | exact ext_drew hxc))
    ((go_at_call 80
      refine (HRW.out _ (by first | exact HII.out | exact HRR.out) (by omega) _).mono ?_
      rintro e w3 ⟨rfl, hx3⟩
      replace hxc : Ext w w3 := by first | exact ext_trans hxc hx3 | exact ext_trans (ext_drew hxc) hx3))
  all_goals
    have HW0 := Lib.hid (H0.out.ext hxc)
    go_wp2_with fail
    go_loopw [16] (fun j wr => ∃ k : Nat, k ≤ C ∧ j = .int .i64 k ∧ Hid (Wrote w S 3 (nvs (flatM R C (swapTo A i r k))).toArray wr)) (fun j _ => C - (intOf j).toNat)
    case atStart => exact ⟨0, Nat.zero_le _, rfl, HW0.out⟩
    case round =>
      obtain ⟨k, hk, rfl, hw⟩ := hrel
      by_cases hlt : k < C
      · have hci : wr.cell? ⟨S, i * C + k, none⟩ = some (.int .i64 (A i k : Nat)) := row_cell hw.out.row _ (nvs_get (by rw [flatM_get _ hi hlt]; simp [swapTo]))
        have hcr : wr.cell? ⟨S, r * C + k, none⟩ = some (.int .i64 (A r k : Nat)) := row_cell hw.out.row _ (nvs_get (by rw [flatM_get _ hr hlt]; simp [swapTo]))
        have hfz : ∀ p, wr.frozen? ⟨S, p, none⟩ = false := fun p => frozen_of_row wr S _ _ _ hw.out.row
        obtain ⟨HS1, HS2⟩ := swapTo_step A hi hr hlt
        obtain ⟨x, hx⟩ : ∃ x, x = A i k := ⟨_, rfl⟩
        obtain ⟨y, hy⟩ : ∃ y, y = A r k := ⟨_, rfl⟩
        rw [← hx] at hci
        rw [← hy] at hcr
        rw [← hx, ← hy] at HS1 HS2
        have HN1 : Hid (Wrote w S 3 (nvs (flatM R C (swapTo A i r (k + 1)))).toArray ((wr.setCell ⟨S, i * C + k, none⟩ (.int .i64 (y : Int))).setCell ⟨S, r * C + k, none⟩ (.int .i64 (x : Int)))) := by
          have := (hw.out.set (i * C + k) (.int .i64 (y : Int))).set (r * C + k) (.int .i64 (x : Int))
          rw [nvs_set, nvs_set, HS1] at this
          exact this
        have HN2 : Hid (Wrote w S 3 (nvs (flatM R C (swapTo A i r (k + 1)))).toArray ((wr.setCell ⟨S, r * C + k, none⟩ (.int .i64 (x : Int))).setCell ⟨S, i * C + k, none⟩ (.int .i64 (y : Int)))) := by
          have := (hw.out.set (r * C + k) (.int .i64 (x : Int))).set (i * C + k) (.int .i64 (y : Int))
          rw [nvs_set, nvs_set, HS2] at this
          exact this
        have hne : ¬ i = r → ¬ i * C + k = r * C + k := fun h e => h (idx_inj hlt hlt e).1
        clear HS1 HS2
        by_cases hir : i = r
        · subst hir
          obtain rfl : x = y := by rw [hx, hy]
          clear hx hy hne
          go_wp2_with fail
          go_region
          all_goals
            go_wp2_with fail
            go_roundw
            case rel => exact ⟨k + 1, by omega, by simp, by first | exact HN1.out.drew | exact HN2.out.drew⟩
            case measure => simp [intOf]; omega
        · have hne1 := hne hir
          have hne2 : ¬ r * C + k = i * C + k := fun e => hne1 e.symm
          clear hx hy hne
          go_wp2_with fail
          go_region
          all_goals
            go_wp2_with fail
            go_roundw
            case rel => exact ⟨k + 1, by omega, by simp, by first | exact HN1.out.drew | exact HN2.out.drew⟩
            case measure => simp [intOf]; omega
      · have hk' : k = C := by omega
        have HW : Hid (Wrote w S 3 (nvs (flatM R C (swapM A i r))).toArray wr) := by
          have := hw.out
          rw [hk', HF.out] at this
          exact this
        clear hk'
        go_wp2_with fail
        exact bodyPost_end (results_none rfl _ _ _) rfl ⟨rfl, HW.out⟩

end Go.Proofs.YtgflflpeilfinaaDoor

/- The walk of matrix.Transpose. -/
set_option linter.unusedVariables false
set_option linter.unusedSimpArgs false
namespace Go.Proofs.YtgflflpeilfinaaDoor
open Go.RowKit

def trTo (A : Nat → Nat → Nat) (i k : Nat) : Nat → Nat → Nat := fun p q => if q < i ∨ q = i ∧ p < k then A q p else 0

set_option maxRecDepth 100000 in
set_option maxHeartbeats 2000000 in
theorem matTr_any (m R C : Nat) (A : Nat → Nat → Nat) (hm : Fm m) (hR : R ≤ 32) (hC : C ≤ 32) (hC0 : 0 < C) (hR0 : 0 < R) (hA : ∀ p q, p < R → q < C → A p q < 2 ^ m) (v : Value) (cp : Nat) (hcp : ∀ a n c, v = .slice a n c → n ≤ c ∧ c ≤ maxLen) (w : World) (hv : RInts w v (nints (flatM R C A))) :
    Calls Tryd.prog 81 #[vMat m R C v] w fun e w' => ∃ S, e = .returned (.tuple #[vMat m C R (.slice (some ⟨S, 0, none⟩) (C * R) (C * R)), .int .i64 0]) ∧ w.heap.size ≤ S ∧
      w'.heap[S]? = some (.cells (nvs (flatM C R fun p q => A q p)).toArray 3 (0, 0)) ∧ Ext w w' := by
  have HV := Lib.hid hv
  obtain ⟨ao, c, rfl, hlen, hsg⟩ := hv
  have hll : (ivs (nints (flatM R C A))).length = R * C := by rw [show ivs (nints (flatM R C A)) = nvs (flatM R C A) from rfl, nvs_len, flatM_len]
  rw [hll] at HV hlen hcp ⊢
  have hRC0 : 0 < R * C := Nat.mul_pos hR0 hC0
  obtain ⟨bA, oA, rfl, hcA⟩ := hsg.get (by have := hll; simp only [ivs] at this; omega)
  obtain ⟨hc1, hc2⟩ := hcp _ _ _ rfl
  have HCA : Hid (∀ i k, i < R → k < C → w.cell? ⟨bA, oA + i * C + k, none⟩ = some (.int .i64 (A i k : Nat))) := by
    show ∀ i k, _ → _ → _
    intro i k hi hk
    have h1 := flatM_get A hi hk
    have h2 := hcA (i * C + k) (by have := hll; simp only [ivs] at this; rw [this]; exact idx_lt hi hk)
    rw [Nat.add_assoc, h2]
    obtain ⟨h3, h4⟩ := List.getElem?_eq_some_iff.1 h1
    simp only [nints, List.getElem_map, h4]
  have HVLD := Lib.hid fun W h => matValid_ok m R C hm hR hC (flatM R C A) (flatM_len R C A) (fun x hx => by
    obtain ⟨p, hp, rfl⟩ := List.mem_iff_getElem.1 hx
    have hC' := hC0
    rw [flatM_len] at hp
    have h1 : p / C < R := Nat.div_lt_of_lt_mul (by rw [Nat.mul_comm]; exact hp)
    have h2 : p % C < C := Nat.mod_lt _ hC0
    have e : p = p / C * C + p % C := by rw [Nat.mul_comm, Nat.div_add_mod]
    have h3 := flatM_get A h1 h2
    rw [← e] at h3
    rw [(List.getElem?_eq_some_iff.1 h3).2]
    exact hA _ _ h1 h2) (.slice (some ⟨bA, oA, none⟩) (R * C) c) W h
  have hbw : bA < w.heap.size := World.block_lt_of_cell? w _ (HCA.out 0 0 hR0 hC0)
  have HRW : Hid (∀ x, x < R → ∀ W, Calls Tryd.prog 80 #[vMat m R C (.slice (some ⟨bA, oA, none⟩) (R * C) c), .int .i64 x] W (Ret W (.slice (some ⟨bA, oA + x * C, none⟩) C (c - x * C)))) := by
    show ∀ x, _ → _
    intro x h1 W
    exact matRow_any m R C x bA oA (R * C) c (by omega) (by omega) (Nat.mul_le_mul_right C (by omega)) hc1 hc2 hC0 W
  have hCR : C * R ≤ 1024 := Nat.le_trans (Nat.mul_le_mul hC hR) (by omega)
  have HRB : Hid (∀ S x, x < C → ∀ W, Calls Tryd.prog 80 #[vMat m C R (.slice (some ⟨S, 0, none⟩) (C * R) (C * R)), .int .i64 x] W (Ret W (.slice (some ⟨S, x * R, none⟩) R (C * R - x * R)))) := by
    show ∀ S x, _ → _
    intro S x h1 W
    have := matRow_any m C R x S 0 (C * R) (C * R) (by omega) (by omega) (Nat.mul_le_mul_right R (by omega)) (Nat.le_refl _) (by unfold maxLen; omega) hR0 W
    rwa [Nat.zero_add] at this
  have HZ := Lib.hid (matZero_any m C R hC hR)
  have hx0 : Ext w ((w.alloc (.cells #[.int .i64 m, .int .i64 R, .int .i64 C, .slice (some ⟨bA, oA, none⟩) (R * C) c] 31)).alloc (.cells #[.int .i64 0, .int .i64 0, .int .i64 0, .slice none 0 0] 31)) := ext_alloc (ext_alloc (ext_refl w) _) _
  clear hA hm hcA hsg hll hcp hlen hc1 hc2 hCR
  go_enter Tryd.func81, Tryd.ntmps81
  go_wp2_with fail
  refine (HVLD.out _ (RInts.ext HV.out hx0)).mono ?_
  rintro e w1 ⟨rfl, hx1⟩
  have HRr := row_ext (row_alloc (w.alloc (.cells #[.int .i64 m, .int .i64 R, .int .i64 C, .slice (some ⟨bA, oA, none⟩) (R * C) c] 31)) #[.int .i64 0, .int .i64 0, .int .i64 0, .slice none 0 0] 31 (w.heap.size + 1) (by simp)) hx1
  have HRc := row_ext (row_alloc_old (row_alloc w #[.int .i64 m, .int .i64 R, .int .i64 C, .slice (some ⟨bA, oA, none⟩) (R * C) c] 31 w.heap.size rfl) (.cells #[.int .i64 0, .int .i64 0, .int .i64 0, .slice none 0 0] 31)) hx1
  have c0 := row_cell HRc 0 (v := .int .i64 m) rfl
  have c1 := row_cell HRc 1 (v := .int .i64 R) rfl
  have c2 := row_cell HRc 2 (v := .int .i64 C) rfl
  have c3 := row_cell HRc 3 (v := .slice (some ⟨bA, oA, none⟩) (R * C) c) rfl
  have hx2 := ext_trans hx0 hx1
  go_wp2_with fail
  refine (HZ.out w1).mono ?_
  rintro e w2 ⟨S, rfl, hS, hrow, hx3⟩
  have c0 := ext_cell hx3 c0
  have c1 := ext_cell hx3 c1
  have c2 := ext_cell hx3 c2
  have c3 := ext_cell hx3 c3
  have hx4 := ext_trans hx2 hx3
  have HRr2 := row_ext HRr hx3
  clear HRr HRc
  have hszw : w.heap.size < w2.heap.size := World.block_lt_of_cell? w2 _ c0
  have hszn : ¬ w.heap.size = w2.heap.size := by omega
  have hszS : w.heap.size + 1 < S := by have := hx1.size; simp at this; omega
  go_wp2_with fail
  have HG0 := row_alloc w2 #[.int .i64 m, .int .i64 C, .int .i64 R, .slice (some ⟨S, 0, none⟩) (C * R) (C * R)] 31 w2.heap.size rfl
  have hx5 : Ext w2 (w2.alloc (.cells #[.int .i64 m, .int .i64 C, .int .i64 R, .slice (some ⟨S, 0, none⟩) (C * R) (C * R)] 31)) := ext_alloc (ext_refl w2) _
  obtain ⟨W0, hW0⟩ : ∃ W0, W0 = w2.alloc (.cells #[.int .i64 m, .int .i64 C, .int .i64 R, .slice (some ⟨S, 0, none⟩) (C * R) (C * R)] 31) := ⟨_, rfl⟩
  rw [← hW0] at HG0 hx5 ⊢
  clear hW0
  obtain ⟨G, hG⟩ : ∃ G, G = w2.heap.size := ⟨_, rfl⟩
  rw [← hG] at HG0 ⊢
  have hSG : S < G := by rw [hG]; exact (Array.getElem?_eq_some_iff.1 hrow).1
  have c0 := ext_cell hx5 c0
  have c1 := ext_cell hx5 c1
  have c2 := ext_cell hx5 c2
  have c3 := ext_cell hx5 c3
  have g0 := row_cell HG0 0 (v := .int .i64 m) rfl
  have g1 := row_cell HG0 1 (v := .int .i64 C) rfl
  have g2 := row_cell HG0 2 (v := .int .i64 R) rfl
  have g3 := row_cell HG0 3 (v := .slice (some ⟨S, 0, none⟩) (C * R) (C * R)) rfl
  have hx6 := ext_trans hx4 hx5
  have HRr3 := row_ext HRr2 hx5
  have HCA2 : Hid (∀ i k, i < R → k < C → W0.cell? ⟨bA, oA + i * C + k, none⟩ = some (.int .i64 (A i k : Nat))) := fun i k hi hk => ext_cell hx6 (HCA.out i k hi hk)
  have HS0 : Hid (Wrote W0 S 3 (nvs (flatM C R (trTo A 0 0))).toArray W0) := by
    refine Wrote.init ?_
    rw [row_ext hrow hx5, flatM_congr (B := trTo A 0 0) (fun p q _ _ => by simp [trTo])]
  clear hrow HRr2 HCA hx5 hx4 hx2 hx1 hx3 hG hszw hszn
  go_loopw [21] (fun i wr => ∃ k : Nat, k ≤ R ∧ i = .int .i64 k ∧ Hid (Wrote W0 S 3 (nvs (flatM C R (trTo A k 0))).toArray wr)) (fun i _ => R - (intOf i).toNat)
  case atStart => exact ⟨0, Nat.zero_le _, rfl, HS0.out⟩
  case round =>
    obtain ⟨i, hi, rfl, hw⟩ := hrel
    have d0 := hw.out.far c0 (by simp; omega)
    have d1 := hw.out.far c1 (by simp; omega)
    have d2 := hw.out.far c2 (by simp; omega)
    have d3 := hw.out.far c3 (by simp; omega)
    have f0 := hw.out.far g0 (by simp; omega)
    have f1 := hw.out.far g1 (by simp; omega)
    have f2 := hw.out.far g2 (by simp; omega)
    have f3 := hw.out.far g3 (by simp; omega)
    by_cases hlt : i < R
    · go_wp2_with fail
      refine (HRW.out i hlt _).mono ?_
      rintro e w5 ⟨rfl, hx7⟩
      have hw5 := Lib.hid (hw.out.ext hx7)
      go_wp2_with fail
      clear d0 d1 d2 d3 f0 f1 f2 f3
      go_loopw [28] (fun j wr => ∃ k : Nat, k ≤ C ∧ j = .int .i64 k ∧ Hid (Wrote W0 S 3 (nvs (flatM C R (trTo A i k))).toArray wr)) (fun j _ => C - (intOf j).toNat)
      case atStart => exact ⟨0, Nat.zero_le _, rfl, hw5.out⟩
      case round =>
        obtain ⟨k, hk, rfl, hw6⟩ := hrel
        have d0 := hw6.out.far c0 (by simp; omega)
        have d1 := hw6.out.far c1 (by simp; omega)
        have d2 := hw6.out.far c2 (by simp; omega)
        have d3 := hw6.out.far c3 (by simp; omega)
        have f0 := hw6.out.far g0 (by simp; omega)
        have f1 := hw6.out.far g1 (by simp; omega)
        have f2 := hw6.out.far g2 (by simp; omega)
        have f3 := hw6.out.far g3 (by simp; omega)
        by_cases hlt2 : k < C
        · have hcx := hw6.out.far (HCA2.out i k hlt hlt2) (by simp; omega)
          obtain ⟨x, hx⟩ : ∃ x, x = A i k := ⟨_, rfl⟩
          rw [← hx] at hcx
          have HN : Hid (∀ W, Wrote W0 S 3 (nvs (flatM C R (trTo A i k))).toArray W → Wrote W0 S 3 (nvs (flatM C R (trTo A i (k + 1)))).toArray (W.setCell ⟨S, k * R + i, none⟩ (.int .i64 (x : Int)))) := by
            show ∀ W, _ → _
            intro W hwW
            have := hwW.set (k * R + i) (.int .i64 (x : Int))
            rw [nvs_set, flatM_set _ (trTo A i (k + 1)) hlt2 hlt (by simp [trTo, hx]) (fun p q hp hq hne => by
              simp only [trTo]
              by_cases h1 : q < i ∨ q = i ∧ p < k
              · rw [if_pos h1, if_pos (by omega)]
              · rw [if_neg h1, if_neg (by omega)])] at this
            exact this
          clear hx
          go_wp2_with fail
          refine (HRB.out S k hlt2 _).mono ?_
          rintro e w6 ⟨rfl, hx8⟩
          have hw7 := Lib.hid (hw6.out.ext hx8)
          have hcl : w6.cell? ⟨S, k * R + i, none⟩ = some (.int .i64 (trTo A i k k i : Nat)) := row_cell hw7.out.row _ (nvs_get (flatM_get _ hlt2 hlt))
          have hfz : w6.frozen? ⟨S, k * R + i, none⟩ = false := frozen_of_row w6 S _ _ _ hw7.out.row
          have HN2 := Lib.hid (HN.out _ hw7.out)
          go_wp2_with fail
          go_roundw
          case rel => exact ⟨k + 1, by omega, by simp, HN2⟩
          case measure => simp [intOf]; omega
        · have hk' : k = C := by omega
          have HW : Hid (Wrote W0 S 3 (nvs (flatM C R (trTo A (i + 1) 0))).toArray wr) := by
            have := hw6.out
            rw [flatM_congr (B := trTo A (i + 1) 0) (fun p q hp hq => by
              simp only [trTo]
              by_cases h1 : q < i ∨ q = i ∧ p < k
              · rw [if_pos h1, if_pos (by omega)]
              · rw [if_neg h1, if_neg (by omega)])] at this
            exact this
          clear hk'
          go_wp2_with fail
          go_roundw
          case rel => exact ⟨i + 1, by omega, by simp, HW⟩
          case measure => simp [intOf]; omega
    · have hk' : i = R := by omega
      have rowR := (hw.out.grown.block (w.heap.size + 1) (Array.getElem?_eq_some_iff.1 HRr3).1 (by intro e; injection e with e; omega)).trans HRr3
      have r0 := row_cell rowR 0 (v := .int .i64 0) rfl
      have r1 := row_cell rowR 1 (v := .int .i64 0) rfl
      have r2 := row_cell rowR 2 (v := .int .i64 0) rfl
      have r3 := row_cell rowR 3 (v := .slice none 0 0) rfl
      have rf : ∀ j, wr.frozen? ⟨w.heap.size + 1, j, none⟩ = false := fun j => frozen_of_row wr _ j _ _ rowR
      have HRS : Hid (wr.heap[S]? = some (.cells (nvs (flatM C R fun p q => A q p)).toArray 3 (0, 0))) := by
        have := hw.out.row
        rw [flatM_congr (B := fun p q => A q p) (fun p q hp hq => by simp [trTo]; omega)] at this
        exact this
      have hxw := hw.out.toExt hx6 (by omega)
      clear hk'
      go_wp2_with fail
      refine bodyPost_ret (by simp [results, Tryd.results81, go_sem, *]; try rfl) rfl ?_
      refine ⟨S, rfl, by omega, ?_, ext_set (ext_set (ext_set (ext_set hxw (by simp) _) (by simp) _) (by simp) _) (by simp) _⟩
      exact set_row_far (set_row_far (set_row_far (set_row_far HRS.out _ _ _ (by omega)) _ _ _ (by omega)) _ _ _ (by omega)) _ _ _ (by omega)

end Go.Proofs.YtgflflpeilfinaaDoor
