/- The walk of matrix.reduce. -/
import Derived.Test.YtgflflpeilfinaaDoorRedP
import Derived.WalkMore
set_option linter.unusedVariables false
set_option linter.unusedSectionVars false
set_option linter.unusedSimpArgs false
namespace Go.Proofs.YtgflflpeilfinaaDoor
open Go.RowKit

theorem rest1 {F C : World → Prop} {goal : Prop} (h1 : (∀ W, F W → C W) → goal) (h2 : ∀ W, F W → C W) : goal := h1 h2
theorem scaleTo_step (m : Nat) (A : Nat → Nat → Nat) {R C r f k : Nat} (hr : r < R) (hk : k < C) : (flatM R C (scaleTo m A r f k)).set (r * C + k) (gmul m f (A r k)) = flatM R C (scaleTo m A r f (k + 1)) :=
  flatM_set _ _ hr hk (by simp [scaleTo]) (fun p q hp hq hne => by
    simp only [scaleTo]
    by_cases h1 : p = r ∧ q < k
    · rw [if_pos h1, if_pos ⟨h1.1, by omega⟩]
    · rw [if_neg h1, if_neg (by omega)])

set_option maxRecDepth 100000 in
set_option maxHeartbeats 4000000 in
theorem matReduce_any (m R C S : Nat) (A : Nat → Nat → Nat) (hm : Fm m) (hR : R ≤ 32) (hC : C ≤ 32) (hC0 : 0 < C) (hA : Bd m R C A) (w : World) (hl : Laid w) (hS : 0 < S)
    (hrow : w.heap[S]? = some (.cells (nvs (flatM R C A)).toArray 3 (0, 0))) :
    Calls Tryd.prog 82 #[vMat m R C (.slice (some ⟨S, 0, none⟩) (R * C) (R * C)), .int .i64 C] w fun e w' => ∃ v', e = .returned v' ∧
      w'.ownsRow w.heap.size 3 1 v' (redTo m R A C).2.length (ivs (nints (redTo m R A C).2)) ∧ w.grownBy w' (some S) := by
  have hRC : R * C ≤ 1024 := Nat.le_trans (Nat.mul_le_mul hR hC) (by omega)
  have HM := Lib.hid hm
  have HRW : Hid (∀ x, x < R → ∀ W, Calls Tryd.prog 80 #[vMat m R C (.slice (some ⟨S, 0, none⟩) (R * C) (R * C)), .int .i64 x] W (Ret W (.slice (some ⟨S, x * C, none⟩) C (R * C - x * C)))) := by
    show ∀ x, _ → _
    intro x h1 W
    have := matRow_any m R C x S 0 (R * C) (R * C) (by omega) (by omega) (Nat.mul_le_mul_right C (by omega)) (Nat.le_refl _) (by unfold maxLen; omega) hC0 W
    rwa [Nat.zero_add] at this
  have hx0 : Ext w (w.alloc (.cells #[.int .i64 m, .int .i64 R, .int .i64 C, .slice (some ⟨S, 0, none⟩) (R * C) (R * C)] 31)) := ext_alloc (ext_refl w) _
  have hltS := (Array.getElem?_eq_some_iff.1 hrow).1
  have HB0 := row_alloc w #[.int .i64 m, .int .i64 R, .int .i64 C, .slice (some ⟨S, 0, none⟩) (R * C) (R * C)] 31 w.heap.size rfl
  have hrow0 := row_ext hrow hx0
  have hl0 := hl.ext hx0
  have hltw : w.heap.size < (w.alloc (.cells #[.int .i64 m, .int .i64 R, .int .i64 C, .slice (some ⟨S, 0, none⟩) (R * C) (R * C)] 31)).heap.size := by simp
  have HA := Lib.hid hA
  have HSW : Hid (∀ (B : Nat → Nat → Nat) (i r : Nat), i < R → r < R → ∀ W, W.heap[w.heap.size]? = some (.cells #[.int .i64 m, .int .i64 R, .int .i64 C, .slice (some ⟨S, 0, none⟩) (R * C) (R * C)] 31 (0, 0)) → W.heap[S]? = some (.cells (nvs (flatM R C B)).toArray 3 (0, 0)) →
      Calls Tryd.prog 99 #[.int .i64 i, .int .i64 r, .pointer (some ⟨w.heap.size, 0, none⟩)] W fun e w' => e = .returned (.tuple #[]) ∧ Wrote W S 3 (nvs (flatM R C (swapM B i r))).toArray w') := by
    show ∀ B i r, _ → _ → _
    intro B i r hi hr W h1 h2
    exact matSwap_any m R C i r S w.heap.size (R * C) (R * C) B hC hC0 hR hi hr (Nat.le_refl _) (Nat.le_refl _) (by unfold maxLen; omega) W h1 h2
  have HE : EntersF Tryd.prog 99 := entersF_of Tryd.func99 (by kernel_rfl) rfl
  have HEN := Lib.hid HE
  clear hm hA hl hrow HE
  go_enter Tryd.func82, Tryd.ntmps82
  go_wp2_with fail
  go_step3
  go_wp2_with fail
  go_step3
  go_wp2_with fail
  obtain ⟨W0, hW0⟩ : ∃ W0, W0 = w.alloc (.cells #[.int .i64 m, .int .i64 R, .int .i64 C, .slice (some ⟨S, 0, none⟩) (R * C) (R * C)] 31) := ⟨_, rfl⟩
  rw [← hW0] at hx0 HB0 hrow0 hl0 hltw ⊢
  clear hW0
  have HS0 : Hid (Wrote W0 S 3 (nvs (flatM R C A)).toArray W0) := Wrote.init hrow0
  clear hrow0
  go_loopw [4, 16] (fun v j wr => ∃ (k : Nat) (B : Nat → Nat → Nat) (ps : List Nat), k ≤ C ∧ j = .int .i64 k ∧ Hid (redTo m R A k = (B, ps)) ∧ ps.length ≤ R ∧ Hid (Bd m R C B) ∧ Hid (wr.ownsRow W0.heap.size 3 1 v ps.length (ivs (nints ps))) ∧ Hid (Wrote W0 S 3 (nvs (flatM R C B)).toArray wr)) (fun _ j _ => C - (intOf j).toNat)
  case atStart => exact ⟨0, A, [], Nat.zero_le _, rfl, rfl, Nat.zero_le _, HA.out, own_nil' _ _ _ _, HS0.out⟩
  case round =>
    obtain ⟨j, B, ps, hj, rfl, hred, hps, hbd, ho, hw⟩ := hrel
    obtain ⟨A2, cc, rfl, -⟩ := own_seg ho.out (by omega)
    by_cases hlt : j < C
    · go_wp2_with fail
      obtain ⟨W1, hW1⟩ : ∃ W1, W1 = wr := ⟨_, rfl⟩
      rw [← hW1] at ho hw ⊢
      clear hW1
      go_loopw [8] (fun iv wr => ∃ i : Nat, ps.length ≤ i ∧ i ≤ R ∧ iv = .int .i64 i ∧ Hid (∀ p, ps.length ≤ p → p < i → B p j = 0) ∧ Ext W1 wr) (fun iv _ => R - (intOf iv).toNat)
      case atStart => exact ⟨ps.length, Nat.le_refl _, hps, rfl, fun p h1 h2 => absurd h2 (by omega), ext_refl _⟩
      case round =>
        obtain ⟨i, hi1, hi2, rfl, hz, hx⟩ := hrel
        have hw1 := Lib.hid (hw.out.ext hx)
        have rB := (hw1.out.grown.block w.heap.size hltw (by intro e; injection e with e; omega)).trans HB0
        have b0 := row_cell rB 0 (v := .int .i64 m) rfl
        have b1 := row_cell rB 1 (v := .int .i64 R) rfl
        have b2 := row_cell rB 2 (v := .int .i64 C) rfl
        have b3 := row_cell rB 3 (v := .slice (some ⟨S, 0, none⟩) (R * C) (R * C)) rfl
        by_cases hiR : i < R
        · have t1 : ((i : Int) == (R : Int)) = false := by rw [beq_eq_false_iff_ne]; omega
          go_wp2_with fail
          refine (HRW.out i hiR _).mono ?_
          rintro e w2 ⟨rfl, hx2⟩
          have hx3 := ext_trans hx hx2
          have hw2 := Lib.hid (hw.out.ext hx3)
          have hci : w2.cell? ⟨S, i * C + j, none⟩ = some (.int .i64 (B i j : Nat)) := row_cell hw2.out.row _ (nvs_get (flatM_get _ hiR hlt))
          by_cases hbz : B i j = 0
          · rw [hbz] at hci
            have HZN : Hid (∀ p, ps.length ≤ p → p < i + 1 → B p j = 0) := by
              show ∀ p, _ → _ → _
              intro p h1 h2
              rcases Nat.lt_or_ge p i with h | h
              · exact hz.out p h1 h
              · obtain rfl : p = i := by omega
                exact hbz
            go_wp2_with fail
            go_roundw
            case rel => exact ⟨i + 1, by omega, by omega, by simp, HZN, hx3⟩
            case measure => simp [intOf]; omega
          · obtain ⟨x, hxe⟩ : ∃ x, x = B i j := ⟨_, rfl⟩
            rw [← hxe] at hci hbz
            have t2 : ((x : Int) != 0) = true := by simpa using hbz
            have hr : ps.length < R := by omega
            have rB2 := (hw2.out.grown.block w.heap.size hltw (by intro e; injection e with e; omega)).trans HB0
            have hxl : x < 2 ^ m := by rw [hxe]; exact hbd.out i j hiR hlt
            have HPV : Hid (pivRow R B j ps.length = some i) := by
              show _ = _
              exact pivRow_some hiR hi1 (by rw [← hxe]; exact hbz) hz.out
            have HXE := Lib.hid hxe
            clear hxe
            go_wp2_with fail
            refine (HSW.out B i ps.length hiR hr w2 rB2 hw2.out.row).mono ?_
            rintro e w3 ⟨rfl, hsw⟩
            obtain ⟨B1, hB1⟩ : ∃ B1, B1 = swapM B i ps.length := ⟨_, rfl⟩
            rw [← hB1] at hsw
            have hw3 : Hid (Wrote W0 S 3 (nvs (flatM R C B1)).toArray w3) := ⟨hw2.out.grown.trans hsw.grown, hsw.row⟩
            have ho3 := Lib.hid (own_far (own_ext ho.out hx3) hsw.grown (by omega))
            have hx1 : B1 ps.length j = x := by
              rw [hB1, HXE.out]
              unfold swapM
              by_cases e : ps.length = i
              · rw [if_pos e, e]
              · rw [if_neg e, if_pos rfl]
            have hbd1 : Hid (Bd m R C B1) := by rw [hB1]; exact Bd.swap HM.out hbd.out hiR hr
            have HB1 := Lib.hid hB1
            have rB3 := (hw3.out.grown.block w.heap.size hltw (by intro e; injection e with e; omega)).trans HB0
            have e0 := row_cell rB3 0 (v := .int .i64 m) rfl
            have e1 := row_cell rB3 1 (v := .int .i64 R) rfl
            have e2 := row_cell rB3 2 (v := .int .i64 C) rfl
            have e3 := row_cell rB3 3 (v := .slice (some ⟨S, 0, none⟩) (R * C) (R * C)) rfl
            have hcr : w3.cell? ⟨S, ps.length * C + j, none⟩ = some (.int .i64 (x : Nat)) := row_cell hw3.out.row _ (nvs_get (by rw [flatM_get _ hr hlt, hx1]))
            have hl3 := Lib.hid (hl0.wrote hw3.out hS)
            have HINV := Lib.hid fun W h => fieldInv_any m x HM.out hxl hbz W h
            have hxc : Ext w3 w3 := ext_refl w3
            have hw2' := hw2
            clear hB1 hx1 hsw hw2 rB rB2 b0 b1 b2 b3 hw1
            go_wp2_with fail
            apply rest1 (F := fun W => Ext w3 W)
            case h1 =>
              intro REST
              go_region_held3 (fun w' => Ext w3 w' ∧ w'.cell? ⟨w.heap.size, 0, none⟩ = some (.int .i64 m) ∧ w'.cell? ⟨w.heap.size, 1, none⟩ = some (.int .i64 R) ∧ w'.cell? ⟨w.heap.size, 2, none⟩ = some (.int .i64 C) ∧ w'.cell? ⟨w.heap.size, 3, none⟩ = some (.slice (some ⟨S, 0, none⟩) (R * C) (R * C)) ∧ w'.cell? ⟨S, ps.length * C + j, none⟩ = some (.int .i64 (x : Nat))) (first
                  | (refine (fun (h : Ext w3 _) => ⟨h, ext_cell h e0, ext_cell h e1, ext_cell h e2, ext_cell h e3, ext_cell h hcr⟩) ?_
                     first | exact hxc | exact ext_drew hxc))
                (first
                 | (go_at_call 80
                    refine (HRW.out _ hr _).mono ?_
                    rintro e w4 ⟨rfl, hx4⟩
                    replace hxc : Ext w3 w4 := by first | exact ext_trans hxc hx4 | exact ext_trans (ext_drew hxc) hx4)
                 | (go_at_call 76
                    refine (HINV.out _ (hl3.out.ext (by first | exact hxc | exact ext_drew hxc))).mono ?_
                    rintro e w4 ⟨rfl, hx4⟩
                    replace hxc : Ext w3 w4 := by first | exact ext_trans hxc hx4 | exact ext_trans (ext_drew hxc) hx4))
              all_goals exact REST _ hxc
            case h2 =>
              intro W4 hx4
              have hw4 : Hid (Wrote W4 S 3 (nvs (flatM R C (scaleTo m B1 ps.length (ginv m x) 0))).toArray W4) := by
                have := (hw3.out.ext hx4).row
                refine Wrote.init ?_
                rw [this, flatM_congr (B := scaleTo m B1 ps.length (ginv m x) 0) (fun p q _ _ => by simp [scaleTo])]
              have hgr4 := Lib.hid (hw3.out.ext hx4).grown
              have ho4 := Lib.hid (own_ext ho3.out hx4)
              have hl4 := Lib.hid (hl3.out.ext hx4)
              have e0 := ext_cell hx4 e0
              have e1 := ext_cell hx4 e1
              have e2 := ext_cell hx4 e2
              have e3 := ext_cell hx4 e3
              obtain ⟨f, hf⟩ : ∃ f, f = ginv m x := ⟨_, rfl⟩
              have hfl : f < 2 ^ m := by rw [hf]; exact ginv_lt HM.out hxl
              rw [← hf] at hw4 ⊢
              have HFI := Lib.hid hf
              have hwS : w.heap.size ≠ S := by omega
              have hltW4 : w.heap.size < W4.heap.size := World.block_lt_of_cell? W4 _ e0
              clear hf hxc hx4 ho3 hw3 hl3 rB3
              go_wp2_with fail
              refine (HRW.out _ hr _).mono ?_
              rintro e w5 ⟨rfl, hx5⟩
              have hw5 := Lib.hid (hw4.out.ext hx5)
              go_wp2_with fail
              go_loopw [55] (fun kv wr => ∃ k : Nat, k ≤ C ∧ kv = .int .i64 k ∧ Hid (Wrote W4 S 3 (nvs (flatM R C (scaleTo m B1 ps.length f k))).toArray wr)) (fun kv _ => C - (intOf kv).toNat)
              case atStart => exact ⟨0, Nat.zero_le _, rfl, hw5.out⟩
              case round =>
                obtain ⟨k, hk, rfl, hw⟩ := hrel
                have p0 := hw.out.far e0 (by simpa using hwS)
                have p1 := hw.out.far e1 (by simpa using hwS)
                have p2 := hw.out.far e2 (by simpa using hwS)
                have p3 := hw.out.far e3 (by simpa using hwS)
                by_cases hkC : k < C
                · have hcy : wr.cell? ⟨S, ps.length * C + k, none⟩ = some (.int .i64 (B1 ps.length k : Nat)) := row_cell hw.out.row _ (nvs_get (by rw [flatM_get _ hr hkC]; simp [scaleTo]))
                  have HST := scaleTo_step m B1 (f := f) hr hkC
                  have hyl := hbd1.out ps.length k hr hkC
                  obtain ⟨y, hy⟩ : ∃ y, y = B1 ps.length k := ⟨_, rfl⟩
                  rw [← hy] at hcy HST hyl
                  have HTM := Lib.hid (matTimes_any m f y HM.out hfl hyl)
                  obtain ⟨g, hg⟩ : ∃ g, g = gmul m f y := ⟨_, rfl⟩
                  rw [← hg] at HTM HST
                  have HSET : Hid (∀ W, Wrote W4 S 3 (nvs (flatM R C (scaleTo m B1 ps.length f k))).toArray W → Wrote W4 S 3 (nvs (flatM R C (scaleTo m B1 ps.length f (k + 1)))).toArray (W.setCell ⟨S, ps.length * C + k, none⟩ (.int .i64 (g : Int)))) := by
                    show ∀ W, _ → _
                    intro W hW
                    have := hW.set (ps.length * C + k) (.int .i64 (g : Int))
                    rw [nvs_set, HST] at this
                    exact this
                  have hlr := Lib.hid (hl4.out.wrote hw.out hS)
                  have hxc : Ext wr wr := ext_refl wr
                  clear hy hg HST hyl
                  go_wp2_with fail
                  go_region_law (first
                    | (go_simp
                       go_at_call 80
                       refine (HRW.out _ hr _).mono ?_
                       rintro e w6 ⟨rfl, hx6⟩
                       replace hxc : Ext wr w6 := by first | exact ext_trans hxc hx6 | exact ext_trans (ext_drew hxc) hx6
                       have q0 := ext_cell hxc p0
                       have q1 := ext_cell hxc p1
                       have q2 := ext_cell hxc p2
                       have q3 := ext_cell hxc p3
                       have qc := ext_cell hxc hcy
                       have qf : w6.frozen? ⟨S, ps.length * C + k, none⟩ = false := frozen_of_row w6 S _ _ _ (hw.out.ext hxc).row)
                    | (go_simp
                       go_at_call 100
                       refine (HTM.out _ (hlr.out.ext (by first | exact hxc | exact ext_drew hxc))).mono ?_
                       rintro e w6 ⟨rfl, hx6⟩
                       replace hxc : Ext wr w6 := by first | exact ext_trans hxc hx6 | exact ext_trans (ext_drew hxc) hx6
                       have q0 := ext_cell hxc p0
                       have q1 := ext_cell hxc p1
                       have q2 := ext_cell hxc p2
                       have q3 := ext_cell hxc p3
                       have qc := ext_cell hxc hcy
                       have qf : w6.frozen? ⟨S, ps.length * C + k, none⟩ = false := frozen_of_row w6 S _ _ _ (hw.out.ext hxc).row))
                  all_goals
                    have HWN := Lib.hid (HSET.out _ (hw.out.ext hxc))
                    clear q0 q1 q2 q3 qc qf
                    go_wp2_with fail
                    go_roundw
                    case rel => exact ⟨k + 1, by omega, by simp, HWN⟩
                    case measure => simp [intOf]; omega
                · have hk' : k = C := by omega
                  have HSC : Hid (flatM R C (scaleTo m B1 ps.length f k) = flatM R C (scaleM m B1 ps.length f)) := by
                    show _ = _
                    rw [hk']
                    exact flatM_congr (fun p q hp hq => by simp [scaleTo, scaleM, hq])
                  rw [HSC.out] at hw
                  clear hk'
                  obtain ⟨B2, hB2⟩ : ∃ B2, B2 = scaleM m B1 ps.length f := ⟨_, rfl⟩
                  rw [← hB2] at hw
                  have hbd2 : Hid (Bd m R C B2) := by rw [hB2]; exact Bd.scale HM.out hbd1.out hfl
                  have HB2 := Lib.hid hB2
                  have hwE : Hid (Wrote W4 S 3 (nvs (flatM R C (elimTo m B2 ps.length j 0))).toArray wr) := by
                    have := hw.out
                    rw [flatM_congr (B := elimTo m B2 ps.length j 0) (fun p q _ _ => by simp [elimTo])] at this
                    exact this
                  clear hB2 hw
                  go_wp2_with fail
                  go_loopw [73] (fun kv wr => ∃ k : Nat, k ≤ R ∧ kv = .int .i64 k ∧ Hid (Wrote W4 S 3 (nvs (flatM R C (elimTo m B2 ps.length j k))).toArray wr)) (fun kv _ => R - (intOf kv).toNat)
                  case atStart => exact ⟨0, Nat.zero_le _, rfl, hwE.out⟩
                  case round =>
                    obtain ⟨k, hk, rfl, hw⟩ := hrel
                    have p0 := hw.out.far e0 (by simpa using hwS)
                    have p1 := hw.out.far e1 (by simpa using hwS)
                    have p2 := hw.out.far e2 (by simpa using hwS)
                    have p3 := hw.out.far e3 (by simpa using hwS)
                    by_cases hkR : k < R
                    · by_cases hkr : k = ps.length
                      · have t5 : ((k : Int) != (ps.length : Int)) = false := by simp [hkr]
                        have HE2 : Hid (flatM R C (elimTo m B2 ps.length j k) = flatM R C (elimTo m B2 ps.length j (k + 1))) := by
                          show _ = _
                          exact flatM_congr (fun p q hp hq => by
                            simp only [elimTo]
                            by_cases h1 : p ≠ ps.length ∧ p < k
                            · rw [if_pos h1, if_pos ⟨h1.1, by omega⟩]
                            · rw [if_neg h1, if_neg (by omega)])
                        rw [HE2.out] at hw
                        clear hkr
                        go_wp2_with fail
                        go_roundw
                        case rel => exact ⟨k + 1, by omega, by simp, hw⟩
                        case measure => simp [intOf]; omega
                      · have t5 : ((k : Int) != (ps.length : Int)) = true := by simp; omega
                        have hbe : ∀ p q, p < R → q < C → elimTo m B2 ps.length j k p q < 2 ^ m := by
                          intro p q hp hq
                          simp only [elimTo]
                          split
                          · exact Nat.xor_lt_two_pow (hbd2.out p q hp hq) (gmul_lt HM.out (hbd2.out p j hp hlt))
                          · exact hbd2.out p q hp hq
                        have hcy : wr.cell? ⟨S, k * C + j, none⟩ = some (.int .i64 (B2 k j : Nat)) := row_cell hw.out.row _ (nvs_get (by rw [flatM_get _ hkR hlt]; simp [elimTo]))
                        have hyl := hbd2.out k j hkR hlt
                        have HADD := Lib.hid fun W c1 c2 h1 h2 => matAdd_any m R C k ps.length (B2 k j) S c1 c2 (elimTo m B2 ps.length j k) HM.out hyl hC hkR hr hkr hbe W h1 hS h2
                        have HAE : Hid (flatM R C (addM m (elimTo m B2 ps.length j k) k ps.length (B2 k j)) = flatM R C (elimTo m B2 ps.length j (k + 1))) := by
                          show _ = _
                          exact flatM_congr (fun p q hp hq => by
                            simp only [addM, elimTo]
                            by_cases h1 : p = k
                            · subst h1
                              simp [hkr]
                            · rw [if_neg h1]
                              by_cases h2 : p ≠ ps.length ∧ p < k
                              · rw [if_pos h2, if_pos ⟨h2.1, by omega⟩]
                              · rw [if_neg h2, if_neg (by omega)])
                        obtain ⟨y, hy⟩ : ∃ y, y = B2 k j := ⟨_, rfl⟩
                        rw [← hy] at hcy HADD HAE
                        have hlr := Lib.hid (hl4.out.wrote hw.out hS)
                        have hxc : Ext wr wr := ext_refl wr
                        have HKR := Lib.hid hkR
                        have HRR := Lib.hid hr
                        clear hy hyl hbe
                        go_wp2_with fail
                        go_region_law (first
                          | (go_simp
                             go_at_call 80
                             refine (HRW.out _ (by first | exact HKR.out | exact HRR.out) _).mono ?_
                             rintro e w6 ⟨rfl, hx6⟩
                             replace hxc : Ext wr w6 := by first | exact ext_trans hxc hx6 | exact ext_trans (ext_drew hxc) hx6
                             have q0 := ext_cell hxc p0
                             have q1 := ext_cell hxc p1
                             have q2 := ext_cell hxc p2
                             have q3 := ext_cell hxc p3
                             have qc := ext_cell hxc hcy)
                          | (go_simp
                             go_at_call 101
                             refine (HADD.out _ _ _ (hlr.out.ext hxc) (hw.out.ext hxc).row).mono ?_
                             rintro e w7 ⟨rfl, hadd⟩))
                        all_goals
                          have HWN : Hid (Wrote W4 S 3 (nvs (flatM R C (elimTo m B2 ps.length j (k + 1)))).toArray w7) := by
                            have h1 := hadd.row
                            rw [HAE.out] at h1
                            exact ⟨(hw.out.ext hxc).grown.trans hadd.grown, h1⟩
                          clear hadd q0 q1 q2 q3 qc
                          go_wp2_with fail
                          go_roundw
                          case rel => exact ⟨k + 1, by omega, by simp, HWN⟩
                          case measure => simp [intOf]; omega
                    · have hkR2 : k = R := by omega
                      have HSTEP : Hid (flatM R C (elimTo m B2 ps.length j k) = flatM R C (stepM m B j ps.length i)) := by
                        show _ = _
                        have h1 : swapM B i ps.length ps.length j = x := by
                          rw [HXE.out]
                          unfold swapM
                          by_cases e : ps.length = i
                          · rw [if_pos e, e]
                          · rw [if_neg e, if_pos rfl]
                        have h2 : stepM m B j ps.length i = elimM m B2 ps.length j := by
                          unfold stepM
                          rw [h1, ← HFI.out, ← HB1.out, ← HB2.out]
                        rw [h2, hkR2]
                        exact flatM_congr (fun p q hp hq => by simp [elimTo, elimM, hp])
                      have hW : Hid (Wrote W0 S 3 (nvs (flatM R C (stepM m B j ps.length i))).toArray wr) := by
                        have := hw.out
                        rw [HSTEP.out] at this
                        exact ⟨hgr4.out.trans this.grown, this.row⟩
                      have hRED : Hid (redTo m R A (j + 1) = (stepM m B j ps.length i, ps ++ [j])) := by
                        show _ = _
                        simp only [redTo, hred.out, HPV.out]
                      have hBDN : Hid (Bd m R C (stepM m B j ps.length i)) := Bd.step HM.out hbd.out hiR hr hlt
                      have hsz := hW.out.grown.size
                      have HO1 : Hid ((wr.alloc (.cells #[.int .i64 (j : Int)] 3)).ownsRow W0.heap.size 3 1 (.slice A2 ps.length cc) ps.length (ivs (nints ps))) := own_ext (own_far ho4.out hw.out.grown (by omega)) (ext_alloc (ext_refl wr) _)
                      go_wp2_with (at_builtin; refine wpList_app rfl _ _ 29 rfl W0.heap.size 3 _ 1 8 Tryd.underlying29 info_int rfl (by omega) _ ps.length (ivs (nints ps)) rfl HO1.out (some ⟨wr.heap.size, 0, none⟩) 1 1 [.int .i64 (j : Int)] rfl (by simp) (seg_new _ _ _) (by simp [Value.oneCell']) (by simp only [maxLen]; omega) (by omega) (by simp; omega) ?_; intro v7 w7 hown hgrow hat)
                      have hW7 := Lib.hid ((hW.out.ext (ext_alloc (ext_refl wr) _)).app hgrow (fun i hi => own_base' HO1.out i hi) (by omega))
                      have ho7 : Hid (w7.ownsRow W0.heap.size 3 1 v7 (ps ++ [j]).length (ivs (nints (ps ++ [j])))) := by
                        show World.ownsRow _ _ _ _ _ _ _
                        simpa [nints, ivs] using hown
                      clear hown
                      go_wp2_with fail
                      go_roundw
                      case rel => exact ⟨j + 1, _, _, by omega, by simp, hRED, by simp; omega, hBDN, ho7, hW7⟩
                      case measure => simp [intOf]; omega
        · have hiR2 : i = R := by omega
          have t1 : ((i : Int) == (R : Int)) = true := by simp; omega
          have HNO : Hid (redTo m R A (j + 1) = (B, ps)) := by
            show _ = _
            simp only [redTo, hred.out]
            rw [pivRow_none (fun p h1 h2 => hz.out p h1 (by omega))]
          have ho2 := Lib.hid (own_ext ho.out hx)
          clear hiR2
          go_wp2_with fail
          go_roundw
          case rel => exact ⟨j + 1, B, ps, by omega, by simp, HNO, hps, hbd, ho2, hw1⟩
          case measure => simp [intOf]; omega
    · have hk' : j = C := by omega
      have HF : Hid (wr.ownsRow w.heap.size 3 1 (.slice A2 ps.length cc) (redTo m R A C).2.length (ivs (nints (redTo m R A C).2))) := by
        show World.ownsRow _ _ _ _ _ _ _
        rw [← hk', hred.out]
        exact own_le (Nat.le_of_lt hltw) ho.out
      have HGR : Hid (w.grownBy wr (some S)) := by
        have h1 : w.grownBy W0 (some S) := ⟨hx0.os, hx0.tape, hx0.output, hx0.size, fun k hk _ => hx0.block k hk⟩
        exact h1.trans hw.out.grown
      clear hk'
      go_wp2_with fail
      try rw [Exit.noGoto_ret]
      go_ret
      exact ⟨_, rfl, HF.out, HGR.out⟩

end Go.Proofs.YtgflflpeilfinaaDoor
