/- The walk of the reference of layer 8: Basis. -/
import Derived.Test.YtgflflpeilfinaaDoorR8y
import Derived.Test.YtgflflpeilfinaaDoorPureE
import Derived.Test.YtgflflpeilfinaaDoorLawE
set_option linter.unusedVariables false
set_option linter.unusedSimpArgs false
set_option linter.unusedSectionVars false
namespace Go.Proofs.YtgflflpeilfinaaDoor
open Go.RowKit

theorem ex_any {m n : Nat} {par : List (List Int)} {b : List Nat} (H : Bs m n par b) (n1 : 1 ≤ n) (n32 : n ≤ 32) {u : Nat} (hu : u < n + par.length) (vr vt : Value) (w : World)
    (hr : RRows w vr ((b.map (gRow n par)).map nints)) (ht : RInts w vt (nints (gRow n par u))) :
    Calls Tryd.prog 57 #[.int .i64 m, vr, vt] w (ExPost (exOk m n par b u) (exL m n par b u) w) := by
  have hE : Elim m n b.length (fun k => (redTo m n (sysA n par b u) k).1) := ⟨H.hm, n1, n32, H.len_le hu, fun k hk => H.bdk hu hk, fun k hk => H.step hu hk⟩
  have hrw : ∀ row ∈ par, row.length = n ∧ row.all (elemB m) = true := H.rows
  refine r8express_any m n b.length _ hE (b.map (gRow n par)) (gRow n par u) (by simp) (fun r hr => ?_) (gRow_len H.hm hrw hu) (fun p q hp hq => ?_) vr vt w hr ht
  · obtain ⟨v, hv, rfl⟩ := List.mem_map.1 hr
    exact gRow_len H.hm hrw (H.lt v hv)
  · show sysA n par b u p q = _
    unfold sysA
    by_cases h : q < b.length
    · rw [if_pos h, if_pos h]
      simp [h, gEl]
    · rw [if_neg h, if_neg h]
      rfl

/-- Rows of the call's own. -/
def RowsO (B : Nat) (w : World) (v : Value) (n : Nat) (rows : List (List Nat)) : Prop :=
  ∃ vs, w.ownsRow B 29 1 v rows.length vs ∧ All2 (fun u r => w.ownsRow B 3 1 u n (nvs r)) vs rows
theorem RowsO.ext {B n : Nat} {w w' : World} {v : Value} {rows : List (List Nat)} (h : RowsO B w v n rows) (hx : Ext w w') : RowsO B w' v n rows := by
  obtain ⟨vs, h1, h2⟩ := h
  exact ⟨vs, own_ext h1 hx, h2.mono fun _ _ h => own_ext h hx⟩
theorem RowsO.nil (B : Nat) (w : World) (n : Nat) : RowsO B w (.slice none 0 0) n [] := ⟨[], own_nil' _ _ _ _, trivial⟩
theorem RowsO.reads {B n : Nat} {w : World} {v : Value} {rows : List (List Nat)} (h : RowsO B w v n rows) (h1 : rows.length ≤ lim) (h2 : n ≤ lim) : RRows w v (rows.map nints) := by
  obtain ⟨vs, ho, ha⟩ := h
  refine ⟨vs, own_sl ho (by rw [ha.length]; exact h1), ?_⟩
  clear ho h1
  induction rows generalizing vs with
  | nil => cases vs with
    | nil => trivial
    | cons _ _ => exact ha.elim
  | cons r rows ih => cases vs with
    | nil => exact ha.elim
    | cons u vs =>
      refine ⟨?_, ih vs ha.2⟩
      have h := ha.1
      have hl : (nvs r).length ≤ lim := by have := own_len h; omega
      exact own_sl h hl
theorem RowsO.far {B g n : Nat} {w w' : World} {v : Value} {rows : List (List Nat)} (h : RowsO B w v n rows) (hg : w.grownBy w' (some g)) (hB : g < B) : RowsO B w' v n rows := by
  obtain ⟨vs, h1, h2⟩ := h
  exact ⟨vs, own_far h1 hg hB, h2.mono fun _ _ h => own_far h hg hB⟩
/-- One row more. -/
theorem RowsO.push {B n : Nat} {w w1 w' : World} {v v' u : Value} {rows : List (List Nat)} {r : List Nat} (h : RowsO B w v n rows) (hu : w.ownsRow B 3 1 u n (nvs r)) (hx : Ext w w1)
    (hown : ∀ vs, vs.length = rows.length → w1.ownsRow B 29 1 v rows.length vs → w'.ownsRow B 29 1 v' (rows.length + 1) (vs ++ [u])) (hg : w1.grownBy w' v.ownBlock) : RowsO B w' v' n (rows ++ [r]) := by
  obtain ⟨vs, h1, h2⟩ := h
  have keep : ∀ (x : Value) (s : List Nat), w.ownsRow B 3 1 x n (nvs s) → w'.ownsRow B 3 1 x n (nvs s) := fun x s hx' =>
    own_keep (own_ext hx' hx) hg (own_types hx' h1 (by decide))
  refine ⟨vs ++ [u], ?_, ?_⟩
  · rw [List.length_append]
    exact hown vs h2.length (own_ext h1 hx)
  · exact All2.append (h2.mono fun _ _ h => keep _ _ h) ⟨keep _ _ hu, trivial⟩

/-- The same with the headers named. -/
structure RowsV (B : Nat) (w : World) (v : Value) (n : Nat) (vs : List Value) (rows : List (List Nat)) : Prop where
  hd : w.ownsRow B 29 1 v rows.length vs
  rw : All2 (fun u r => w.ownsRow B 3 1 u n (nvs r)) vs rows
def OffV (vs : List Value) (o : Value) : Prop := ∀ u ∈ vs, u.ownBlock ≠ o.ownBlock ∧ u.ownBlock ≠ none
theorem RowsV.toO {B n : Nat} {w : World} {v : Value} {vs : List Value} {rows : List (List Nat)} (h : RowsV B w v n vs rows) : RowsO B w v n rows := ⟨vs, h.hd, h.rw⟩
theorem RowsV.ext {B n : Nat} {w w' : World} {v : Value} {vs : List Value} {rows : List (List Nat)} (h : RowsV B w v n vs rows) (hx : Ext w w') : RowsV B w' v n vs rows :=
  ⟨own_ext h.hd hx, h.rw.mono fun _ _ h => own_ext h hx⟩
theorem RowsV.nil (B : Nat) (w : World) (n : Nat) : RowsV B w (.slice none 0 0) n [] [] := ⟨own_nil' _ _ _ _, trivial⟩
theorem all2_memL {α β : Type} {R R' : α → β → Prop} : ∀ {xs : List α} {ys : List β}, All2 R xs ys → (∀ x ∈ xs, ∀ y, R x y → R' x y) → All2 R' xs ys
  | [], [], _, _ => trivial
  | x :: xs, y :: ys, h, hr => ⟨hr x (by simp) y h.1, all2_memL h.2 fun z hz => hr z (by simp [hz])⟩
  | [], _ :: _, h, _ => h.elim
  | _ :: _, [], h, _ => h.elim
/-- Another row of numbers grows. -/
theorem RowsV.other {B B2 n n2 : Nat} {w w1 w7 : World} {v ov v7 : Value} {vs xs : List Value} {rows : List (List Nat)} (h : RowsV B w v n vs rows) (hoff : OffV vs ov) (ho : w.ownsRow B2 3 1 ov n2 xs) (hx : Ext w w1)
    (hg : w1.grownBy w7 ov.ownBlock) (hat : v7.ownBlock = ov.ownBlock ∨ v7.ownBlock = some w1.heap.size) : RowsV B w7 v n vs rows ∧ OffV vs v7 := by
  refine ⟨⟨own_keep (own_ext h.hd hx) hg (own_types h.hd ho (by decide)), all2_memL h.rw fun u hu r hr => own_keep (own_ext hr hx) hg (.inr (hoff u hu).1)⟩, fun u hu => ⟨?_, (hoff u hu).2⟩⟩
  rcases hat with e | e
  · rw [e]; exact (hoff u hu).1
  · rw [e]
    intro e2
    obtain ⟨y, hy, hr⟩ := h.rw.mem u hu
    have := (hr.lt _ e2).2
    have := hx.size
    omega
/-- One row more. -/
theorem RowsV.push {B n : Nat} {w w1 w' : World} {v v' u : Value} {vs : List Value} {rows : List (List Nat)} {r : List Nat} (h : RowsV B w v n vs rows) (hu : w.ownsRow B 3 1 u n (nvs r)) (hx : Ext w w1)
    (hown : w'.ownsRow B 29 1 v' (rows.length + 1) (vs ++ [u])) (hg : w1.grownBy w' v.ownBlock) : RowsV B w' v' n (vs ++ [u]) (rows ++ [r]) := by
  have keep : ∀ (x : Value) (s : List Nat), w.ownsRow B 3 1 x n (nvs s) → w'.ownsRow B 3 1 x n (nvs s) := fun x s hx' =>
    own_keep (own_ext hx' hx) hg (own_types hx' h.hd (by decide))
  refine ⟨?_, All2.append (h.rw.mono fun _ _ h => keep _ _ h) ⟨keep _ _ hu, trivial⟩⟩
  rw [List.length_append]
  exact hown

theorem gbTo_len (m n : Nat) (par : List (List Int)) (hs : List Bool) (k : Nat) : (gbTo m n par hs k).length ≤ k := by
  induction k with
  | zero => simp [gbTo]
  | succ k ih =>
    rw [gbTo]
    split
    · rw [List.length_append, List.length_singleton]; omega
    · omega

theorem r8basis_err (nm : ByteArray) (f d dm : Int) (par : List (List Int)) (vp vh : Value) (hs : List Bool) (w : World) (hp : RRows w vp par) (hh : RBools w vh hs) (hd1 : d ≤ 12) (hb : hvB f d par hs = false) :
    Calls Tryd.prog 31 #[vCd nm f d vp dm, vh] w (Ret w (.tuple #[.slice none 0 0, .int .i64 1])) := by
  have HP := Lib.hid hp
  obtain ⟨A, c, rfl, hlen, hvc⟩ := hp.form
  obtain ⟨B, cB, rfl, -, -⟩ := hh
  rw [List.length_map]
  have hx0 : Ext w (w.alloc (.cells #[.string nm, .int .i64 f, .int .i64 d, .slice A par.length c, .int .i64 dm] 24)) := ext_alloc (ext_refl w) _
  have HW := Lib.hid fun W h => r8width_any nm f d dm par (.slice A par.length c) W h hd1
  have hc := hvB_width hb
  obtain ⟨N, hN⟩ : ∃ N, N = widthI f d par := ⟨_, rfl⟩
  rw [← hN] at HW hc
  clear hp hb hN
  rcases hc with h0 | ⟨h0, h1⟩
  · have t1 : (N == 0) = true := by simpa using h0
    clear h0
    go_enter Tryd.func31, Tryd.ntmps31
    go_wp2_with fail
    refine (HW.out _ (HP.out.ext hx0)).mono ?_
    rintro e w1 ⟨rfl, hx1⟩
    go_wp2_with fail
    go_ret2
    exact ⟨rfl, ext_trans hx0 hx1⟩
  · have t1 : (N == 0) = false := by simpa using h0
    have t2 : ((hs.length : Int) != N) = true := by simpa using h1
    clear h0 h1
    go_enter Tryd.func31, Tryd.ntmps31
    go_wp2_with fail
    refine (HW.out _ (HP.out.ext hx0)).mono ?_
    rintro e w1 ⟨rfl, hx1⟩
    go_wp2_with fail
    go_ret2
    exact ⟨rfl, ext_trans hx0 hx1⟩

set_option maxRecDepth 100000 in
set_option maxHeartbeats 4000000 in
theorem r8basis_ok (nm : ByteArray) (m n : Nat) (dm : Int) (par : List (List Int)) (vp vh : Value) (hs : List Bool) (w : World) (hp : RRows w vp par) (hh : RBools w vh hs) (hd1 : n ≤ 12) (hok : okB m n par = true) (hN : hs.length = n + par.length) :
    Calls Tryd.prog 31 #[vCd nm m n vp dm, vh] w fun e w' => ∃ v', e = .returned (.tuple #[v', .int .i64 0]) ∧ w'.ownsRow w.heap.size 3 1 v' (basisL m n par hs).length (nvs (basisL m n par hs)) ∧ Ext w w' := by
  have V := Vd.of hok hN
  have HV := Lib.hid V
  have hn32 := V.n32
  have hn1 := V.n1
  have HP := Lib.hid hp
  have HH := Lib.hid hh
  have HWD := Lib.hid fun W h => r8width_any nm m n dm par vp W h (by omega)
  have hWI : widthI m n par = ((n + par.length : Nat) : Int) := by unfold widthI; rw [hok]; simp
  rw [hWI] at HWD
  have hrw : ∀ row ∈ par, row.length = n := fun r h => (V.rows r h).1
  have HROW : Hid (∀ u, u < n + par.length → ∀ W, RRows W vp par → Calls Tryd.prog 26 #[vCd nm m n vp dm, .int .i64 u] W fun e w' => ∃ v', e = .returned v' ∧ w'.ownsRow W.heap.size 3 1 v' n (nvs (gRow n par u)) ∧ Ext W w') := fun u hu W h => by
    have h1 := r8row_any nm m dm n par vp u W h (by omega) hrw hu (by omega)
    rwa [← gRow_ints V.hm V.rows hu] at h1
  have HEX : Hid (∀ k, k < n + par.length → ∀ vr vt W, RRows W vr (((gbTo m n par hs k).map (gRow n par)).map nints) → RInts W vt (nints (gRow n par k)) → Calls Tryd.prog 57 #[.int .i64 m, vr, vt] W (ExPost (exOk m n par (gbTo m n par hs k) k) (exL m n par (gbTo m n par hs k) k) W)) :=
    fun k hk vr vt W h1 h2 => ex_any (V.gb k (by omega)).bs (by omega) (by omega) hk vr vt W h1 h2
  have HGL : Hid (∀ k, k ≤ n + par.length → (gbTo m n par hs k).length ≤ k) := fun k hk => gbTo_len m n par hs k
  have HFIN := Lib.hid V.gb_eq
  obtain ⟨A, c, rfl, hlen, hvc⟩ := hp.form
  obtain ⟨B, cB, rfl, -, -⟩ := hh
  obtain ⟨N, hNe⟩ : ∃ N, N = n + par.length := ⟨_, rfl⟩
  rw [List.length_map, hN, ← hNe] at HH ⊢
  rw [← hNe] at HWD HROW HEX HGL HFIN hn32
  have HNE := Lib.hid hNe
  have HHL := Lib.hid hN
  have hNl : N ≤ 32 := hn32
  have hx0 : Ext w (w.alloc (.cells #[.string nm, .int .i64 m, .int .i64 n, .slice A par.length c, .int .i64 dm] 24)) := ext_alloc (ext_refl w) _
  have hc0 := CdAt.new w nm m n dm (.slice A par.length c) 24
  obtain ⟨W0, hW0⟩ : ∃ W0, W0 = w.alloc (.cells #[.string nm, .int .i64 m, .int .i64 n, .slice A par.length c, .int .i64 dm] 24) := ⟨_, rfl⟩
  have HW0 := Lib.hid hW0
  rw [← hW0] at hx0 hc0
  have t1 : ((N : Int) == 0) = false := by rw [beq_eq_false_iff_ne]; omega
  have t2 : ((N : Int) != (N : Int)) = false := by simp
  clear hp hok hN V hWI hrw hNe hW0
  go_enter Tryd.func31, Tryd.ntmps31
  go_wp2_with fail
  rw [← HW0.out]
  refine (HWD.out _ (HP.out.ext hx0)).mono ?_
  rintro e w1 ⟨rfl, hx1⟩
  have hx2 := Lib.hid (ext_trans hx0 hx1)
  have HC1 := Lib.hid (hc0.ext hx1)
  have HH1 := Lib.hid (RBools.ext HH.out hx2.out)
  have HP1 := Lib.hid (HP.out.ext hx2.out)
  clear hx0 hx1 hc0
  go_wp2_with fail
  go_loopw [7, 8, 9] (fun ov rv iv wr => ∃ (k : Nat) (vs : List Value), k ≤ N ∧ iv = .int .i64 k ∧ Hid (wr.ownsRow w1.heap.size 3 1 ov (gbTo m n par hs k).length (nvs (gbTo m n par hs k))) ∧ Hid (RowsV w1.heap.size wr rv n vs ((gbTo m n par hs k).map (gRow n par))) ∧ Hid (OffV vs ov) ∧ Ext w1 wr) (fun _ _ iv _ => N - (intOf iv).toNat)
  case atStart => exact ⟨0, [], Nat.zero_le _, rfl, own_nil' _ _ _ _, RowsV.nil _ _ _, fun u hu => by simp at hu, ext_refl _⟩
  case round =>
    obtain ⟨k, vs, hk, rfl, ho, hr, hoff, hx⟩ := hrel
    by_cases hlt : k < N
    · obtain ⟨bh, oh, hB, hcl⟩ := (RBools.ext HH1.out hx).get k (by rw [HHL.out, ← HNE.out]; exact hlt)
      subst hB
      cases hb : hs[k]'(by rw [HHL.out, ← HNE.out]; exact hlt) with
      | false =>
        rw [hb] at hcl
        have hg : gbTo m n par hs (k + 1) = gbTo m n par hs k := by
          have : hs.getD k false = false := by rw [← hb]; simp [show k < hs.length by rw [HHL.out, ← HNE.out]; exact hlt]
          rw [gbTo, this]; rfl
        have HON : Hid (wr.ownsRow w1.heap.size 3 1 u7 (gbTo m n par hs (k + 1)).length (nvs (gbTo m n par hs (k + 1)))) := by rw [hg]; exact ho.out
        have HRN : Hid (RowsV w1.heap.size wr u8 n vs ((gbTo m n par hs (k + 1)).map (gRow n par))) := by rw [hg]; exact hr.out
        clear hg hb
        go_wp2_with fail
        go_roundw
        case rel => exact ⟨k + 1, vs, by omega, by simp, HON, HRN, hoff, hx⟩
        case measure => simp [intOf]; omega
      | true =>
        rw [hb] at hcl
        have hbd : hs.getD k false = true := by rw [← hb]; simp [show k < hs.length by rw [HHL.out, ← HNE.out]; exact hlt]
        have hgl := HGL.out k hk
        obtain ⟨Ar, cr, rfl, -⟩ := own_seg hr.out.hd (by omega)
        rw [List.length_map] at hr
        obtain ⟨b, hbe⟩ : ∃ b, b = gbTo m n par hs k := ⟨_, rfl⟩
        have hEX := HEX.out k hlt
        have HRk := Lib.hid fun W h => HROW.out k hlt W h
        rw [← hbe] at ho hr hEX hgl ⊢
        obtain ⟨z, hz⟩ : ∃ z, z = exOk m n par b k := ⟨_, rfl⟩
        rw [← hz] at hEX
        have HEXk := Lib.hid hEX
        have hgs : gbTo m n par hs (k + 1) = if z then b else b ++ [k] := by
          rw [gbTo, hbd, ← hbe, ← hz]
          cases z <;> rfl
        have HGS := Lib.hid hgs
        obtain ⟨d0, d1, d2, d3, d4⟩ := HC1.out.ext hx
        have hxc : Ext wr wr := ext_refl wr
        have hsz := hx.size
        have hgl32 : b.length ≤ 32 := by omega
        clear hb hbd hbe hz hgs hEX
        cases z with
        | true =>
          go_wp2_with fail
          go_region_held3 (fun w' => w'.cell? ⟨w.heap.size, 0, none⟩ = some (.string nm) ∧ w'.cell? ⟨w.heap.size, 1, none⟩ = some (.int .i64 m) ∧ w'.cell? ⟨w.heap.size, 2, none⟩ = some (.int .i64 n) ∧ w'.cell? ⟨w.heap.size, 3, none⟩ = some (.slice A par.length c) ∧ w'.cell? ⟨w.heap.size, 4, none⟩ = some (.int .i64 dm)) ((refine (fun (h : Ext wr _) => ⟨ext_cell h d0, ext_cell h d1, ext_cell h d2, ext_cell h d3, ext_cell h d4⟩) ?_; first | exact hxc | exact ext_drew hxc))
            (first
              | (go_at_call 26
                 with_reducible refine (HRk.out _ (HP1.out.ext (ext_trans hx (by first | exact hxc | exact ext_drew hxc)))).mono ?_
                 rintro e wa ⟨vt, rfl, hot, hxa⟩
                 have HOT := Lib.hid (own_ints hot (by have := own_len hot; rw [nvs_len] at this; rw [← this, lim_val]; omega))
                 obtain ⟨gt, ct, rfl⟩ := own_some hot (by omega)
                 clear hot
                 replace hxc : Ext wr wa := by first | exact ext_trans hxc hxa | exact ext_trans (ext_drew hxc) hxa)
              | (go_at_call 57
                 with_reducible refine (HEXk.out _ _ _ ((hr.out.ext (by first | exact hxc | exact ext_drew hxc)).toO.reads (by rw [List.length_map, lim_val]; omega) (by rw [lim_val]; omega)) (by first | exact HOT.out | exact RInts.ext HOT.out (ext_drew (ext_refl _)))).mono ?_
                 rintro e wb ⟨hyes, hno, hxb⟩
                 obtain ⟨vx, rfl, -⟩ := hyes rfl
                 clear hyes hno
                 replace hxc : Ext wr wb := by first | exact ext_trans hxc hxb | exact ext_trans (ext_drew hxc) hxb))
          all_goals
            have hx5 := ext_trans hx hxc
            have HON : Hid (wb.ownsRow w1.heap.size 3 1 u7 (gbTo m n par hs (k + 1)).length (nvs (gbTo m n par hs (k + 1)))) := by rw [HGS.out]; exact own_ext ho.out hxc
            have HRN : Hid (RowsV w1.heap.size wb (.slice Ar b.length cr) n vs ((gbTo m n par hs (k + 1)).map (gRow n par))) := by rw [HGS.out]; exact hr.out.ext hxc
            go_wp2_with fail
            go_roundw
            case rel => exact ⟨k + 1, vs, by omega, by simp, HON, HRN, hoff, hx5⟩
            case measure => simp [intOf]; omega
        | false =>
          go_wp2_with fail
          go_region_held3 (fun w' => w'.cell? ⟨w.heap.size, 0, none⟩ = some (.string nm) ∧ w'.cell? ⟨w.heap.size, 1, none⟩ = some (.int .i64 m) ∧ w'.cell? ⟨w.heap.size, 2, none⟩ = some (.int .i64 n) ∧ w'.cell? ⟨w.heap.size, 3, none⟩ = some (.slice A par.length c) ∧ w'.cell? ⟨w.heap.size, 4, none⟩ = some (.int .i64 dm)) ((refine (fun (h : Ext wr _) => ⟨ext_cell h d0, ext_cell h d1, ext_cell h d2, ext_cell h d3, ext_cell h d4⟩) ?_; first | exact hxc | exact ext_drew hxc))
            (first
              | (go_at_call 26
                 with_reducible refine (HRk.out _ (HP1.out.ext (ext_trans hx (by first | exact hxc | exact ext_drew hxc)))).mono ?_
                 rintro e wa ⟨vt, rfl, hot, hxa⟩
                 have HOT := Lib.hid (own_ints hot (by have := own_len hot; rw [nvs_len] at this; rw [← this, lim_val]; omega))
                 obtain ⟨gt, ct, rfl⟩ := own_some hot (by omega)
                 clear hot
                 replace hxc : Ext wr wa := by first | exact ext_trans hxc hxa | exact ext_trans (ext_drew hxc) hxa)
              | (go_at_call 57
                 with_reducible refine (HEXk.out _ _ _ ((hr.out.ext (by first | exact hxc | exact ext_drew hxc)).toO.reads (by rw [List.length_map, lim_val]; omega) (by rw [lim_val]; omega)) (by first | exact HOT.out | exact RInts.ext HOT.out (ext_drew (ext_refl _)))).mono ?_
                 rintro e wb ⟨hyes, hno, hxb⟩
                 obtain rfl := hno rfl
                 clear hyes hno
                 replace hxc : Ext wr wb := by first | exact ext_trans hxc hxb | exact ext_trans (ext_drew hxc) hxb))
          all_goals
            have hx5 := ext_trans hx hxc
            have hszb := hx5.size
            have HO1 := Lib.hid ((own_ext ho.out hxc).alloc (.cells #[.int .i64 (k : Int)] 3))
            have HR1 := Lib.hid (hr.out.ext hxc)
            have HO0 := Lib.hid (own_ext ho.out hxc)
            go_upto_region 13 with (at_builtin; refine wpList_app rfl _ _ 29 rfl w1.heap.size 3 _ 1 8 Tryd.underlying29 info_int rfl (by omega) _ b.length _ rfl HO1.out _ 1 1 [.int .i64 (k : Int)] rfl (by simp) (seg_new _ _ _) (by simp [Value.oneCell']) (by simp only [maxLen]; omega) (by omega) (by simp; omega) ?_; intro v7 w7 ho7 hg7 hat7)
            have hx7 : Ext w1 w7 := ext_grown (ext_alloc hx5 _) hg7 (fun i hi => own_base' HO1.out i hi)
            have HO7 : Hid (w7.ownsRow w1.heap.size 3 1 v7 (gbTo m n par hs (k + 1)).length (nvs (gbTo m n par hs (k + 1)))) := by
              show World.ownsRow _ _ _ _ _ _ _
              rw [HGS.out]
              simp only [if_neg (show ¬ (false = true) by decide)]
              rw [List.length_append, nvs_append]
              exact ho7
            obtain ⟨hr7, hoff7⟩ := HR1.out.other hoff.out HO0.out (ext_alloc (ext_refl wb) (.cells #[.int .i64 (k : Int)] 3)) hg7 hat7
            have HR7 := Lib.hid hr7
            have HF7 := Lib.hid hoff7
            obtain ⟨g7, c7, rfl⟩ := own_some ho7 (by omega)
            have hg7l := (ho7.lt g7 rfl).2
            obtain ⟨d0, d1, d2, d3, d4⟩ := HC1.out.ext hx7
            clear ho7 hg7 hat7 hr7 hoff7
            go_wp2_with fail
            refine (HRk.out _ (HP1.out.ext hx7)).mono ?_
            rintro e w8 ⟨vu, rfl, hou, hx8⟩
            obtain ⟨gu, cu, rfl⟩ := own_some hou (by omega)
            have hsz8 := hx8.size
            have hsz7 := hx7.size
            have hgu : w7.heap.size ≤ gu := own_base' hou gu rfl
            have HOU := Lib.hid (own_le (by omega : w1.heap.size ≤ w7.heap.size) hou)
            have HR8 := Lib.hid (HR7.out.ext hx8)
            have hhd := own_ext HR8.out.hd (ext_alloc (ext_refl w8) (.cells #[.slice (some ⟨gu, 0, none⟩) n cu] 29))
            rw [List.length_map] at hhd
            have HHD := Lib.hid hhd
            clear hou hhd d0 d1 d2 d3 d4
            go_wp2_with (at_builtin; refine wpList_app rfl _ _ 22 rfl w1.heap.size 29 _ 1 24 Tryd.underlying22 info_ints rfl (by omega) (.slice Ar b.length cr) b.length _ rfl HHD.out _ 1 1 [.slice (some ⟨gu, 0, none⟩) n cu] rfl (by simp) (seg_new _ _ _) (by simp [Value.oneCell']) (by simp only [maxLen]; omega) (by omega) (by simp; omega) ?_; intro v9 w9 ho9 hg9 hat9)
            have HR9 : Hid (RowsV w1.heap.size w9 v9 n (vs ++ [.slice (some ⟨gu, 0, none⟩) n cu]) ((gbTo m n par hs (k + 1)).map (gRow n par))) := by
              have := HR8.out.push (r := gRow n par k) (v' := v9) HOU.out (ext_alloc (ext_refl w8) _) (by rw [List.length_map]; exact ho9) hg9
              show RowsV _ _ _ _ _ _
              rw [HGS.out]
              simp only [if_neg (show ¬ (false = true) by decide)]
              rw [List.map_append]
              exact this
            have hgne : ∀ i, (Value.slice Ar b.length cr).ownBlock = some i → w1.heap.size ≤ i := fun i hi => own_base' HHD.out i hi
            have HO9 : Hid (w9.ownsRow w1.heap.size 3 1 (.slice (some ⟨g7, 0, none⟩) (b.length + 1) c7) (gbTo m n par hs (k + 1)).length (nvs (gbTo m n par hs (k + 1)))) :=
              own_keep (own_ext (own_ext HO7.out hx8) (ext_alloc (ext_refl w8) _)) hg9 (own_types (own_ext (own_ext HO7.out hx8) (ext_alloc (ext_refl w8) (.cells #[.slice (some ⟨gu, 0, none⟩) n cu] 29))) HHD.out (by decide))
            have hx9 : Ext w1 w9 := ext_grown (ext_alloc (ext_trans hx7 hx8) _) hg9 hgne
            have HF9 : Hid (OffV (vs ++ [.slice (some ⟨gu, 0, none⟩) n cu]) (.slice (some ⟨g7, 0, none⟩) (b.length + 1) c7)) := by
              show ∀ u ∈ _, _
              intro u hu
              rcases List.mem_append.1 hu with h | h
              · exact HF7.out u h
              · have : u = .slice (some ⟨gu, 0, none⟩) n cu := by simpa using h
                subst this
                refine ⟨?_, by simp [Value.ownBlock]⟩
                simp only [Value.ownBlock]
                intro e
                injection e with e
                omega
            clear ho9 hg9 hat9
            go_wp2_with fail
            go_roundw
            case rel => exact ⟨k + 1, _, by omega, by simp, HO9, HR9, HF9, hx9⟩
            case measure => simp [intOf]; omega
    · obtain rfl : k = N := by omega
      have HF : Hid (wr.ownsRow w.heap.size 3 1 u7 (basisL m n par hs).length (nvs (basisL m n par hs))) := by
        have h := ho.out
        rw [HFIN.out] at h
        exact own_le hx2.out.size h
      go_wp2_with fail
      go_ret2
      exact ⟨_, rfl, HF.out, ext_trans hx2.out hx⟩

end Go.Proofs.YtgflflpeilfinaaDoor
