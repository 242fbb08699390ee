/- The walk of field.Combine where its arguments fit. -/
import Derived.Test.YtgflflpeilfinaaDoorAcc
import Derived.Test.YtgflflpeilfinaaDoorFieldC
import Derived.Test.YtgflflpeilfinaaDoorEvery
import Derived.Laws.BytesArg
set_option linter.unusedVariables false
set_option linter.unusedSimpArgs false
namespace Go.Proofs.YtgflflpeilfinaaDoor
open Go.RowKit

theorem make_zero {P : Program} (w : World) (t e : TypeId) (i : TypeInfo) (z : Value) (bytes : Nat) (ht : P.underlying t = some (.slice e)) (hi : P.info? e = some i) (hz : i.zero = some z) (h1 : i.size = 1) (hb : i.bytes = bytes) (hc : z.cells = #[z]) (n : Nat)
    (hn : bytes * n ≤ 281474976710656) (h63 : n ≤ 9223372036854775807) :
    (Instr.makeSlice t (.int .i64 (n : Int)) (.int .i64 (n : Int))).run P w = .ok (.slice (some ⟨w.heap.size, 0, none⟩) n n) (w.alloc (.cells (List.replicate n z).toArray e)) := by
  subst hb
  have hr := run_make (P := P) w t e i z ht hi hz .i64 .i64 n n (by omega) (Int.le_refl _) (by
    have h : ((i.bytes * n : Nat) : Int) ≤ 281474976710656 := by omega
    rwa [Int.natCast_mul] at h) (by omega)
  rw [h1, hc] at hr
  simp only [Int.toNat_natCast, Nat.mul_one] at hr
  have e1 : madeCells #[z] n = (List.replicate n z).toArray := by
    apply Array.ext'
    rw [toList_madeCells_one]
  rw [e1] at hr
  exact hr

/-- The string of these bytes. -/
def strOf (cs : List Nat) : ByteArray := ⟨(cs.map fun x => UInt8.ofNat x).toArray⟩
theorem conv_string {P : Program} (w : World) (src e dst : TypeId) (g cap : Nat) (cs : List Nat) (n : Nat) (hs : P.underlying src = some (.slice e)) (he : P.underlying e = some (.int .u8)) (hd : P.underlying dst = some .string) (hn : cs.length = n)
    (hg : w.heap[g]? = some (.cells (byteVals cs) e (0, 0))) : (convert src dst (.slice (some ⟨g, 0, none⟩) n cap)).run P w = .ok (.string (strOf cs)) w := by
  have h := run_convert_bytes_arg (P := P) w src e hs he g 0 n cap (cs.map fun x : Nat => (x : Int)) (by simpa using hn) (fun i hi => by
    rw [cell_of_row w g _ _ _ _ hg, Nat.zero_add, byteVals_get cs i (by omega)]
    simp [List.getD_eq_getElem?_getD, List.getElem?_eq_getElem (show i < cs.length by omega)]) dst hd
  rw [h]
  simp [strOf, strOfNums, List.map_map, Function.comp_def]

/-- The sum of the multiples, byte by byte. -/
def combL (m : Nat) : List Nat → List ByteArray → List Nat → List Nat
  | c :: coefs, u :: us, cs => combL m coefs us (accL m c u cs cs.length)
  | _, _, cs => cs
def combR (m : Nat) (coefs : List Nat) (us : List ByteArray) (n : Nat) : ByteArray := strOf (combL m coefs us (List.replicate n 0))
theorem scB_lt {m c : Nat} (hm : Fm m) (hc : c < 2 ^ m) (u : ByteArray) (j : Nat) : scB m c u j < 256 := by
  rcases hm with rfl | rfl
  · exact gmul_lt (m := 8) (.inl rfl) hc
  · have := gmul_lt (m := 16) (a := c) (b := (symAt 16 u (j / 2)).2) (.inr rfl) hc
    unfold scB
    rw [if_neg (by decide)]
    split <;> omega
theorem accL_lt {m c : Nat} (hm : Fm m) (hc : c < 2 ^ m) (u : ByteArray) (cs : List Nat) (p : Nat) (hb : ∀ x ∈ cs, x < 256) : ∀ x ∈ accL m c u cs p, x < 256 := by
  intro x hx
  obtain ⟨j, hj, rfl⟩ := List.getElem_of_mem hx
  have hj' : j < cs.length := by rwa [accL_length] at hj
  rw [accL_get _ _ _ _ _ _ hj']
  have h1 := hb _ (List.getElem_mem hj')
  split
  · exact Nat.xor_lt_two_pow (n := 8) h1 (scB_lt hm hc u j)
  · exact h1
theorem combL_length (m : Nat) : ∀ (coefs : List Nat) (us : List ByteArray) (cs : List Nat), (combL m coefs us cs).length = cs.length
  | [], _, _ => by simp [combL]
  | _ :: _, [], _ => by simp [combL]
  | c :: coefs, u :: us, cs => by rw [combL, combL_length m coefs us, accL_length]

set_option maxHeartbeats 400000 in
theorem combine1_any (n : Int) (u : ByteArray) (p : Addr) (w : World) (hp : w.cell? p = some (.int .i64 n)) :
    Calls Tryd.prog 67 #[.string u, .pointer (some p)] w (Ret w (.bool ((u.size : Int) == n))) := by
  go_enter Tryd.func67, Tryd.ntmps67
  go_wp2
  go_ret
  exact ⟨rfl, ext_refl w⟩
theorem entersF_combine1 : EntersF Tryd.prog 67 := entersF_of Tryd.func67 (by kernel_rfl) rfl

/-- accumulate at both fields. -/
theorem accumulate_any (m c : Nat) (hm : Fm m) (hc : c < 2 ^ m) (cs : List Nat) (hb : ∀ x ∈ cs, x < 256) (u : ByteArray) (hn : u.size = cs.length) (h2 : u.size % (m / 8) = 0) (hl : u.size ≤ 140737488355328) (g cap : Nat) (w : World) (hlaid : Laid w) (hg0 : 0 < g) (hg : w.heap[g]? = some (.cells (byteVals cs) 5 (0, 0))) :
    Calls Tryd.prog 68 #[.slice (some ⟨g, 0, none⟩) cs.length cap, .int .i64 m, .int .i64 c, .string u] w fun e w' => e = .returned (.tuple #[]) ∧ Wrote w g 5 (byteVals (accL m c u cs cs.length)) w' := by
  rcases hm with rfl | rfl
  · exact accumulate8_any c hc cs hb u hn hl g cap w hlaid hg0 hg
  · exact accumulate16_any c hc cs hb u hn h2 hl g cap w hlaid hg0 hg

theorem Laid.pos {w : World} (h : Laid w) : 0 < w.heap.size := World.block_lt_of_cell? w _ h.c0
theorem ext_wrote {w W W' : World} {g t : Nat} {cs : Array Value} (h : Ext w W) (hg : w.heap.size ≤ g) (k : Wrote W g t cs W') : Ext w W' :=
  Below.grown h k.grown h.size (fun i e => by cases e; exact hg)

def strEq (n : Nat) : Value → Bool
  | .string u => (u.size : Int) == n
  | _ => false

def combT (m : Nat) (coefs : List Nat) (us : List ByteArray) (cs : List Nat) (k : Nat) : List Nat := combL m (coefs.take k) (us.take k) cs
theorem combT_succ (m : Nat) (coefs : List Nat) : ∀ (us : List ByteArray) (cs : List Nat) (k : Nat) (h1 : k < coefs.length) (h2 : k < us.length),
    combT m coefs us cs (k + 1) = accL m coefs[k] us[k] (combT m coefs us cs k) (combT m coefs us cs k).length := by
  induction coefs with
  | nil => intro us cs k h1; simp at h1
  | cons c coefs ih =>
    intro us cs k h1 h2
    cases us with
    | nil => simp at h2
    | cons u us =>
      cases k with
      | zero => simp [combT, combL]
      | succ k =>
        have := ih us (accL m c u cs cs.length) k (by simpa using h1) (by simpa using h2)
        simp only [combT, List.take_succ_cons, combL, List.getElem_cons_succ] at this ⊢
        exact this
theorem combT_length (m : Nat) (coefs : List Nat) (us : List ByteArray) (cs : List Nat) (k : Nat) : (combT m coefs us cs k).length = cs.length := combL_length _ _ _ _
theorem combT_lt {m : Nat} (hm : Fm m) (coefs : List Nat) (hc : ∀ c ∈ coefs, c < 2 ^ m) (us : List ByteArray) (cs : List Nat) (hb : ∀ x ∈ cs, x < 256) (hlen : coefs.length = us.length) : ∀ k, k ≤ coefs.length → ∀ x ∈ combT m coefs us cs k, x < 256 := by
  intro k
  induction k with
  | zero => intro _; simpa [combT, combL] using hb
  | succ k ih =>
    intro hk
    rw [combT_succ m coefs us cs k (by omega) (by omega)]
    exact accL_lt hm (hc _ (List.getElem_mem _)) _ _ _ (ih (by omega))
theorem combT_all (m : Nat) (coefs : List Nat) (us : List ByteArray) (n : Nat) (hlen : coefs.length = us.length) : strOf (combT m coefs us (List.replicate n 0) coefs.length) = combR m coefs us n := by
  unfold combT combR
  rw [List.take_length, hlen, List.take_length]

set_option maxRecDepth 100000 in
set_option maxHeartbeats 1000000 in
theorem combine_ok (m : Nat) (hm : Fm m) (coefs : List Nat) (us : List ByteArray) (n : Nat) (hc : ∀ c ∈ coefs, c < 2 ^ m) (hne : coefs ≠ []) (hlen : coefs.length = us.length) (hus : ∀ u ∈ us, u.size = n) (hn : n % (m / 8) = 0) (hl : n ≤ lim)
    (vc vu : Value) (w : World) (hlaid : Laid w) (hvc : RInts w vc (coefs.map fun (c : Nat) => (c : Int))) (hvu : RStrs w vu us) :
    Calls Tryd.prog 43 #[.int .i64 m, vc, vu] w (Ret w (.tuple #[.string (combR m coefs us n), .int .i64 0])) := by
  have HC := Lib.hid (all_any (m : Int) (coefs.map fun (c : Nat) => (c : Int)) vc w hlaid hvc)
  have HVU := Lib.hid hvu
  obtain ⟨A, cA, rfl, hlA, hsA⟩ := hvc
  obtain ⟨B, cB, rfl, hlB, hsB⟩ := hvu
  simp only [List.length_map, lim_val] at hlA hlB hl HC HVU ⊢
  have hpos : 0 < coefs.length := List.length_pos_iff.2 hne
  have EA : Hid (allB (m : Int) (coefs.map fun (c : Nat) => (c : Int)) = true) := by
    show _ = _
    rw [allB, Bool.and_eq_true]
    refine ⟨by rcases hm with rfl | rfl <;> decide, ?_⟩
    rw [List.all_eq_true]
    intro x hx
    obtain ⟨c, hcm, rfl⟩ := List.mem_map.1 hx
    have := hc c hcm
    rcases hm with rfl | rfl <;> (simp [elemB]; omega)
  have T1 : ((coefs.length : Int) == 0) = false := by simp; omega
  have T2 : ((coefs.length : Int) != (us.length : Int)) = false := by simp; omega
  have T3 : ((n : Int) % ((m : Int) / 8) != 0) = false := by
    rcases hm with rfl | rfl
    · simp
    · simp at hn ⊢; omega
  have hm1 := hm.le.1
  have hm2 := hm.le.2
  obtain ⟨b, o, rfl, hcell⟩ := hsB.get (by simp; omega)
  have hu0 : w.cell? ⟨b, o, none⟩ = some (.string (us[0]'(by omega))) := by have := hcell 0 (by simp; omega); rw [List.getElem_map] at this; simpa using this
  obtain ⟨u0, hu0'⟩ : ∃ u, u = us[0]'(by omega) := ⟨_, rfl⟩
  have hs0 : u0.size = n := by rw [hu0']; exact hus _ (List.getElem_mem _)
  rw [← hu0'] at hu0
  subst hs0
  have HHM := Lib.hid hm
  have HCC := Lib.hid hc
  have HUS := Lib.hid hus
  have HLEN := Lib.hid hlen
  have HN := Lib.hid hn
  have hle : coefs.length ≤ us.length := by omega
  have hge : us.length ≤ coefs.length := by omega
  have hpu : 0 < us.length := by omega
  clear hu0' hm hc hus hlen hn hcell hne
  go_enter Tryd.func43, Tryd.ntmps43
  go_wp2_with fail
  refine HC.out.mono ?_
  rintro e w1 ⟨rfl, hx1⟩
  rw [EA.out]
  have hu1 := ext_cell hx1 hu0
  go_wp2_with fail
  have hx2 : Ext w1 (w1.alloc (.cells #[.int .i64 (u0.size : Int)] 3)) := ext_alloc (ext_refl w1) _
  refine (every_fstr 67 _ (strEq u0.size) _ _ _ (RStrs.ext HVU.out (ext_trans hx1 hx2)) entersF_combine1 ?_).mono ?_
  · intro u hu w' hw'
    obtain ⟨x, hx, rfl⟩ := List.mem_map.1 hu
    exact combine1_any _ x _ w' (ext_cell hw' (by simp))
  rintro e w2 ⟨rfl, hx3⟩
  have EB : Hid ((us.map Value.string).all (strEq u0.size) = true) := by
    show _ = _
    rw [List.all_eq_true]
    intro v hv
    obtain ⟨x, hx, rfl⟩ := List.mem_map.1 hv
    simp [strEq, HUS.out x hx]
  rw [EB.out]
  have hx4 : Ext w1 w2 := ext_trans hx2 hx3
  have hx5 : Ext w w2 := ext_trans hx1 hx4
  have hn2 : w2.cell? ⟨w1.heap.size, 0, none⟩ = some (.int .i64 (u0.size : Int)) := ext_cell hx3 (by simp)
  have hmk := make_zero (P := Tryd.prog) w2 75 5 _ (.int .u8 0) 1 Tryd.underlying75 rfl rfl rfl rfl rfl u0.size (by omega) (by omega)
  go_wp2_with fail
  have hsz2 := hx5.size
  have H0 : Hid ((w2.alloc (.cells (List.replicate u0.size (Value.int .u8 0)).toArray 5)).heap[w2.heap.size]? = some (.cells (byteVals (combT m coefs us (List.replicate u0.size 0) 0)) 5 (0, 0))) := by
    show _ = _
    rw [heap_alloc_new]
    simp [byteVals, combT, combL]
  go_loopw [47] (fun i wr => ∃ k : Nat, k ≤ coefs.length ∧ i = .int .i64 k ∧ Hid (wr.heap[w2.heap.size]? = some (.cells (byteVals (combT m coefs us (List.replicate u0.size 0) k)) 5 (0, 0))) ∧ Ext w wr) (fun i _ => coefs.length - (intOf i).toNat)
  case atStart => exact ⟨0, Nat.zero_le _, rfl, H0.out, ext_alloc hx5 _⟩
  case round =>
    obtain ⟨k, hk, rfl, hrow, he⟩ := hrel
    have hlr := combT_length m coefs us (List.replicate u0.size 0) k
    rw [List.length_replicate] at hlr
    have HLR := Lib.hid hlr
    by_cases hlt : k < coefs.length
    · obtain ⟨b2, o2, rfl, hcA⟩ := (hsA.ext he).get (by simp; omega)
      have hck := hcA k (by simpa using hlt)
      simp only [List.getElem_map] at hck
      obtain ⟨c, hc⟩ : ∃ c, c = coefs[k] := ⟨_, rfl⟩
      rw [← hc] at hck
      have hcl : c < 2 ^ m := by rw [hc]; exact HCC.out _ (List.getElem_mem _)
      obtain ⟨b3, o3, hb3, hcB⟩ := (hsB.ext he).get (by simp; omega)
      obtain ⟨rfl, rfl⟩ : b3 = b ∧ o3 = o := by injection hb3 with h; injection h with h1 h2; exact ⟨h1.symm, h2.symm⟩
      have huk := hcB k (by simp; omega)
      simp only [List.getElem_map] at huk
      obtain ⟨u, hu⟩ : ∃ u, u = us[k]'(by omega) := ⟨_, rfl⟩
      rw [← hu] at huk
      have hsu : u.size = u0.size := by rw [hu]; exact HUS.out _ (List.getElem_mem _)
      have HSU := Lib.hid hsu
      have hcc := accumulate_any m c HHM.out hcl _ (combT_lt HHM.out coefs HCC.out us _ (by intro x hx; rw [List.eq_of_mem_replicate hx]; omega) HLEN.out k hk) u (by rw [hsu, hlr]) (by rw [hsu]; exact HN.out) (by omega) w2.heap.size u0.size wr (hlaid.ext he) (by have := hlaid.pos; omega) hrow.out
      rw [hlr] at hcc
      have HCA := Lib.hid hcc
      have HNX : Hid (combT m coefs us (List.replicate u0.size 0) (k + 1) = accL m c u (combT m coefs us (List.replicate u0.size 0) k) u0.size) := by
        show _ = _
        rw [combT_succ m coefs us _ k hlt (by omega), hlr, hc, hu]
      clear hcA hcB hc hu hb3 hsu hlr hcc
      go_wp2_with fail
      refine HCA.out.mono ?_
      rintro e w3 ⟨rfl, hw3⟩
      go_wp2_with fail
      go_roundw
      case rel => exact ⟨k + 1, by omega, by go_num, by show _ = _; rw [HNX.out]; exact hw3.row, ext_wrote he hsz2 hw3⟩
      case measure => simp [intOf]; omega
    · have hk' : k = coefs.length := by omega
      have HFIN := combT_all m coefs us u0.size HLEN.out
      rw [← hk'] at HFIN
      have HF := Lib.hid HFIN
      have hcv := conv_string (P := Tryd.prog) wr 75 5 9 w2.heap.size u0.size _ u0.size Tryd.underlying75 Tryd.underlying5 Tryd.underlying9 hlr hrow.out
      clear hk' HFIN hlr
      go_wp2_with fail
      go_ret2
      exact ⟨by rw [HF.out]; rfl, he⟩

end Go.Proofs.YtgflflpeilfinaaDoor
