/- The walks of package field's symbols: the iterator over the symbols of a unit. -/
import Derived.Test.YtgflflpeilfinaaDoorRangeF
import Derived.Test.YtgflflpeilfinaaDoorGfE
import Derived.LoopIn
import Derived.LoopNIn
import Derived.Lib.ConvBytes
import Derived.Deep.CutBlock
import Derived.Deep.DeepCutAuto
set_option linter.unusedVariables false
set_option linter.unusedSimpArgs false
namespace Go.Proofs.YtgflflpeilfinaaDoor
open Go.RowKit

/-- The byte at i. -/
def byt (u : ByteArray) (i : Nat) : Nat := if h : i < u.size then (u[i]'h).toNat else 0
theorem byt_lt (u : ByteArray) (i : Nat) : byt u i < 256 := by
  unfold byt
  split
  · exact (u[i]).toNat_lt
  · omega
/-- The k-th symbol of a unit: where it begins, and its value. -/
def symAt (m : Nat) (u : ByteArray) (k : Nat) : Nat × Nat := if m = 8 then (k, byt u k) else (2 * k, byt u (2 * k) * 256 + byt u (2 * k + 1))
def symCount (m : Nat) (u : ByteArray) : Nat := if m = 8 then u.size else u.size / 2
def symsTo (m : Nat) (u : ByteArray) (k : Nat) : List (Nat × Nat) := (List.range k).map (symAt m u)
theorem symsTo_succ (m : Nat) (u : ByteArray) (k : Nat) : symsTo m u (k + 1) = symsTo m u k ++ [symAt m u k] := by
  simp [symsTo, List.range_succ]
def symEnc (x : Nat × Nat) : Array Value := #[.int .i64 (x.1 : Int), .int .i64 (x.2 : Int)]
def SymNx (m : Nat) (u : ByteArray) (pre : List (Nat × Nat)) (x : Nat × Nat) : Prop := ∃ k, k < symCount m u ∧ pre = symsTo m u k ∧ x = symAt m u k

attribute [local go_sem] Oper.semAt_some

theorem byt_eq (u : ByteArray) (i : Nat) (h : i < u.size) : (u.data.toList.getD i 0).toNat = byt u i := by
  have h1 : i < u.data.toList.length := by simpa using h
  have h2 : u.data.toList.getD i 0 = u[i]'h := by
    rw [List.getD_eq_getElem?_getD, List.getElem?_eq_getElem h1]
    rfl
  rw [h2]
  show _ = byt u i
  rw [byt, dif_pos h]
/-- '[]byte(s)': a new block with the bytes. -/
theorem conv_bytes {P : Program} (w : World) (src dst e : TypeId) (s : ByteArray) {t : TypeDesc}
    (hs : P.underlying src = some t) (hd : P.underlying dst = some (.slice e)) (he : P.underlying e = some (.int .u8)) :
    ∃ cap W, (convert src dst (.string s)).run P w = .ok (.slice (some ⟨w.heap.size, 0, none⟩) s.size cap) W ∧ Ext w W ∧ ∀ j, j < s.size → W.cell? ⟨w.heap.size, j, none⟩ = some (.int .u8 (byt s j : Nat)) := by
  refine ⟨_, _, Lib.run_convert_string_bytes w src dst e s hs hd he, ⟨rfl, rfl, rfl, by rw [Lib.bytesWorld_size]; omega, fun k hk => Lib.bytesWorld_at_old w e s k hk⟩, fun j hj => ?_⟩
  rw [Lib.bytesWorld_cell w e s j hj, byt_eq s j hj]
theorem byt_extract (u : ByteArray) (i n j : Nat) (h : i + n ≤ u.size) (hj : j < n) : byt (u.extract i (i + n)) j = byt u (i + j) := by
  have h1 : j < (u.extract i (i + n)).size := by simp; omega
  have h2 : i + j < u.size := by omega
  have e1 : byt (u.extract i (i + n)) j = ((u.extract i (i + n))[j]'h1).toNat := by rw [byt, dif_pos h1]
  have e2 : byt u (i + j) = (u[i + j]'h2).toNat := by rw [byt, dif_pos h2]
  rw [e1, e2, ByteArray.getElem_extract]
theorem or_i64 (a b : Nat) (ha : a < 65536) (hb : b < 256) : bits .or .i64 ((a : Int) * 256) (b : Int) = ((a * 256 + b : Nat) : Int) := by
  have h := (bits_nat .i64 62 (by decide) wraps_i64 (a * 256) b (by omega) (by omega)).2
  have e : ((a * 256 : Nat) : Int) = (a : Int) * 256 := by simp
  rw [e] at h
  rw [h]
  congr 1
  have := Nat.two_pow_add_eq_or_of_lt (i := 8) (b := b) (by omega) a
  rw [show (2 : Nat) ^ 8 = 256 from rfl, Nat.mul_comm 256 a] at this
  exact this.symm

set_option maxRecDepth 100000 in
set_option maxHeartbeats 1000000 in
theorem symbols8_seq (u : ByteArray) (hu : u.size ≤ 140737488355328) (p1 p2 : Addr) :
    SeqF Tryd.prog 105 #[.pointer (some p1), .pointer (some p2)] symEnc (SymNx 8 u) (fun xs => xs = symsTo 8 u (symCount 8 u)) (fun _ => True)
      (fun W => W.cell? p1 = some (.int .i64 8) ∧ W.cell? p2 = some (.string u)) := by
  intro J Jx l W hJ hJx hC hY h0
  obtain ⟨hc1, hc2⟩ := hC _ _ h0
  have HJ := Lib.hid hJ
  have HC := Lib.hid hC
  have HY := Lib.hid hY
  have H0 := Lib.hid h0
  clear hJ hJx hC hY h0
  refine callsIn_wide.2 ?_
  simp only [List.append_toArray, List.cons_append, List.nil_append]
  go_enter Tryd.func105, Tryd.ntmps105
  go_wp2_with fail
  go_loopw [5] (fun i wr => ∃ k : Nat, k ≤ u.size ∧ i = .int .i64 k ∧ Hid (J (symsTo 8 u k) wr)) (fun i _ => u.size - (intOf i).toNat)
  case atStart => exact ⟨0, by omega, rfl, H0.out⟩
  case round =>
    obtain ⟨k, hk, rfl, hj⟩ := hrel
    obtain ⟨hc1, hc2⟩ := HC.out _ _ hj.out
    by_cases hlt : k < u.size
    · have hsl : ∀ W : World, (Instr.slice 9 (.string u) (some (.int .i64 (k : Int))) (some (.int .i64 ((k : Int) + 1))) none).run Tryd.prog W = .ok (.string (u.extract k (k + 1))) W := fun W => by
        have := run_slice_string (P := Tryd.prog) W 9 u .i64 .i64 (k : Int) ((k : Int) + 1) Tryd.underlying9 (by omega) (by omega) (by omega)
        rw [this]
        simp
      have hsz : (u.extract k (k + 1)).size = 1 := by simp; omega
      obtain ⟨cap, Wb, hcv, hx, hcell⟩ := conv_bytes (P := Tryd.prog) wr 9 75 5 (u.extract k (k + 1)) Tryd.underlying9 Tryd.underlying75 Tryd.underlying5
      rw [hsz] at hcv
      have hb0 := hcell 0 (by omega)
      rw [byt_extract u k 1 0 (by omega) (by omega)] at hb0
      have hbl := byt_lt u k
      have HSZ := Lib.hid hsz
      rw [Nat.add_zero] at hb0
      have X1 : Hid (bits .or .i64 0 (byt u k : Int) = (byt u k : Int)) := by
        have := or_i64 0 (byt u k) (by omega) hbl
        simp at this
        exact this
      clear hsz hcell
      go_wp2_with fail
      refine wp_loop_rounds 2 ?_
      rw [rounds_succ]
      go_wp2_with fail
      rw [rounds_succ]
      go_upto_region 10 with (fail)
      rw [X1.out]
      obtain ⟨f1, t1, a1, b1, hy1, hR1⟩ := HY.out (symsTo 8 u k) (k, byt u k) Wb (HJ.out _ _ _ hj.out hx) ⟨k, hlt, rfl, rfl⟩
      have HR1 := Lib.hid hR1
      clear hR1
      dsimp only [symEnc] at hy1
      refine (wpIn_wide (n := 0)).1 ?_
      gi_wp2
      refine ⟨rfl, HR1.out.mono ?_⟩
      rintro e W2 (⟨rfl, hJ2⟩ | ⟨rfl, hJ2⟩)
      · have HJ2 : Hid (J (symsTo 8 u (k + 1)) W2) := by
          show J _ _
          rw [symsTo_succ]
          exact hJ2
        clear hJ2
        gi_wp2
        go_wp2_with fail
        go_roundw
        case rel => exact ⟨k + 1, by omega, by go_num, HJ2.out⟩
        case measure => simp [intOf]; omega
      · have HJ2 := Lib.hid hJ2
        clear hJ2
        gi_wp2
        go_wp2_with fail
        exact bodyPost_ret (results_none rfl _ _ _) rfl ⟨⟨_, rfl⟩, .inr ⟨_, trivial, HJ2.out⟩⟩
    · have hk' : k = u.size := by omega
      have HJ2 : Hid (J (symsTo 8 u (symCount 8 u)) wr) := by
        show J _ _
        have : symCount 8 u = k := by rw [hk']; rfl
        rw [this]
        exact hj.out
      clear hk'
      go_wp2_with fail
      exact bodyPost_end (results_none rfl _ _ _) rfl ⟨⟨_, rfl⟩, .inl ⟨_, rfl, HJ2.out⟩⟩

set_option maxRecDepth 100000 in
set_option maxHeartbeats 1000000 in
theorem symbols16_seq (u : ByteArray) (hu : u.size ≤ 140737488355328) (p1 p2 : Addr) :
    SeqF Tryd.prog 105 #[.pointer (some p1), .pointer (some p2)] symEnc (SymNx 16 u) (fun xs => xs = symsTo 16 u (symCount 16 u)) (fun _ => True)
      (fun W => W.cell? p1 = some (.int .i64 16) ∧ W.cell? p2 = some (.string u)) := by
  intro J Jx l W hJ hJx hC hY h0
  obtain ⟨hc1, hc2⟩ := hC _ _ h0
  have HJ := Lib.hid hJ
  have HC := Lib.hid hC
  have HY := Lib.hid hY
  have H0 := Lib.hid h0
  clear hJ hJx hC hY h0
  refine callsIn_wide.2 ?_
  simp only [List.append_toArray, List.cons_append, List.nil_append]
  go_enter Tryd.func105, Tryd.ntmps105
  go_wp2_with fail
  go_loopw [5] (fun i wr => ∃ j : Nat, j ≤ u.size ∧ i = .int .i64 (j : Int) ∧ Hid (∃ k, j = 2 * k ∧ J (symsTo 16 u k) wr)) (fun i _ => u.size - (intOf i).toNat)
  case atStart => exact ⟨0, by omega, rfl, 0, rfl, H0.out⟩
  case round =>
    obtain ⟨j, hk, rfl, hjj⟩ := hrel
    obtain ⟨k, hk0, hj0⟩ := hjj.out
    have hj := Lib.hid hj0
    have HK := Lib.hid hk0
    obtain ⟨hc1, hc2⟩ := HC.out _ _ hj.out
    clear hjj hk0 hj0
    by_cases hlt : j + 2 ≤ u.size
    · have hsl : ∀ W : World, (Instr.slice 9 (.string u) (some (.int .i64 (j : Int))) (some (.int .i64 ((j : Int) + 2))) none).run Tryd.prog W = .ok (.string (u.extract j (j + 2))) W := fun W => by
        have := run_slice_string (P := Tryd.prog) W 9 u .i64 .i64 (j : Int) ((j : Int) + 2) Tryd.underlying9 (by omega) (by omega) (by omega)
        rw [this]
        have e1 : ((j : Int)).toNat = j := by omega
        have e2 : ((j : Int) + 2).toNat = j + 2 := by omega
        rw [e1, e2]
      have hsz : (u.extract j (j + 2)).size = 2 := by simp; omega
      obtain ⟨cap, Wb, hcv, hx, hcell⟩ := conv_bytes (P := Tryd.prog) wr 9 75 5 (u.extract j (j + 2)) Tryd.underlying9 Tryd.underlying75 Tryd.underlying5
      rw [hsz] at hcv
      have hb0 := hcell 0 (by omega)
      have hb1 := hcell 1 (by omega)
      rw [byt_extract u j 2 0 (by omega) (by omega), Nat.add_zero] at hb0
      rw [byt_extract u j 2 1 (by omega) (by omega)] at hb1
      obtain ⟨c0, hc0⟩ : ∃ c, c = byt u j := ⟨_, rfl⟩
      obtain ⟨c1, hc1'⟩ : ∃ c, c = byt u (j + 1) := ⟨_, rfl⟩
      have hl0 : c0 < 256 := by rw [hc0]; exact byt_lt u _
      have hl1 : c1 < 256 := by rw [hc1']; exact byt_lt u _
      rw [← hc0] at hb0
      rw [← hc1'] at hb1
      have X1 : Hid (bits .or .i64 0 (c0 : Int) = (c0 : Int)) := by
        have := or_i64 0 c0 (by omega) hl0
        simp at this
        exact this
      obtain ⟨x, hx0⟩ : ∃ x, x = c0 * 256 + c1 := ⟨_, rfl⟩
      have X2 : Hid (bits .or .i64 ((c0 : Int) * 256) (c1 : Int) = (x : Int)) := by rw [hx0]; exact or_i64 c0 c1 (by omega) hl1
      have XS : Hid (symAt 16 u k = (j, x)) := by
        show _ = _
        rw [hx0, hc0, hc1', HK.out]
        rfl
      have HSZ := Lib.hid hsz
      clear hsz hcell hc0 hc1' hx0
      go_wp2_with fail
      refine wp_loop_rounds 3 ?_
      rw [rounds_succ]
      go_wp2_with fail
      rw [X1.out]
      rw [rounds_succ]
      go_wp2_with fail
      rw [X2.out]
      rw [rounds_succ]
      go_upto_region 10 with (fail)
      obtain ⟨f1, t1, a1, b1, hy1, hR1⟩ := HY.out (symsTo 16 u k) (j, x) Wb (HJ.out _ _ _ hj.out hx) ⟨k, by show k < u.size / 2; have := HK.out; omega, rfl, XS.out.symm⟩
      have HR1 := Lib.hid hR1
      clear hR1
      dsimp only [symEnc] at hy1
      refine (wpIn_wide (n := 0)).1 ?_
      gi_wp2
      refine ⟨rfl, HR1.out.mono ?_⟩
      rintro e W2 (⟨rfl, hJ2⟩ | ⟨rfl, hJ2⟩)
      · have HJ2 : Hid (J (symsTo 16 u (k + 1)) W2) := by
          show J _ _
          rw [symsTo_succ, XS.out]
          exact hJ2
        clear hJ2
        gi_wp2
        go_wp2_with fail
        go_roundw
        case rel => exact ⟨j + 2, by omega, by go_num, k + 1, by have := HK.out; omega, HJ2.out⟩
        case measure => simp [intOf]; omega
      · have HJ2 := Lib.hid hJ2
        clear hJ2
        gi_wp2
        go_wp2_with fail
        exact bodyPost_ret (results_none rfl _ _ _) rfl ⟨⟨_, rfl⟩, .inr ⟨_, trivial, HJ2.out⟩⟩
    · have hk' : k = u.size / 2 := by have := HK.out; omega
      have HJ2 : Hid (J (symsTo 16 u (symCount 16 u)) wr) := by
        show J _ _
        have : symCount 16 u = k := by rw [hk']; rfl
        rw [this]
        exact hj.out
      clear hk'
      go_wp2_with fail
      exact bodyPost_end (results_none rfl _ _ _) rfl ⟨⟨_, rfl⟩, .inl ⟨_, rfl, HJ2.out⟩⟩

end Go.Proofs.YtgflflpeilfinaaDoor
