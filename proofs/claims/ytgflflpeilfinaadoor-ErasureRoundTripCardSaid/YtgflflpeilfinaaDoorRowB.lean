/- Arguments of the statements, opened to what the walks read; the table of the fields; the last step of a row. -/
import Derived.Test.YtgflflpeilfinaaDoorChecked
import Derived.Test.YtgflflpeilfinaaDoorR8c
import Derived.Lib.SmallJoins
import Derived.Deep.Matrix
import Derived.Deep.Grids
import Derived.Deep.Strs
import Derived.SizedLaws
import Derived.LaidLaws
import Derived.WideKeyArgs
import Derived.Below
import Derived.ChangeSame
import Derived.ProofKit
import Derived.OpenShut
import Derived.Test.YtgflflpeilfinaaDoorCards
import Derived.Test.YtgflflpeilfinaaDoorTie
import Derived.Deep.DeepHandedRow
import Derived.JoinedCond
set_option linter.unusedVariables false
set_option linter.unusedSectionVars false
set_option linter.unusedSimpArgs false
namespace Go.Proofs.YtgflflpeilfinaaDoor
open Go.Joins Go.ChangeShapes Go.WideShapes Go.RowKit Go.Deep

section
variable {H : Type} {enc : TypeId × Value → H} {P : Program} {w : World} {base : Nat} {spare : Nat → Bool} {held : Bool}
theorem open_agg5 {r : Reach} {b0 : Nat} {t : TypeId} {f0 f1 f2 f3 f4 : Field} {v : Value} {d : DataW H} {p : List MemPlace} (hs : P.underlying t = some (.struct #[f0, f1, f2, f3, f4])) (hone : oneCellFields P #[f0, f1, f2, f3, f4] = true) (hC : P.cellsOf t = 5)
    (hv : Value.okWide P w r b0 t v) (h : DataW.Trod enc P w base spare held t v d p) :
    ∃ (v0 v1 v2 v3 v4 : Value) (y0 y1 y2 y3 y4 : DataW H × List MemPlace) (n : Nat), v = .agg #[v0, v1, v2, v3, v4] ∧ d = .agg [y0.1, y1.1, y2.1, y3.1, y4.1] ∧ p = y0.2 ++ (y1.2 ++ (y2.2 ++ (y3.2 ++ y4.2))) ∧
      DataW.trod enc P w base spare held n f0.type [v0] = some y0 ∧ DataW.trod enc P w base spare held n f1.type [v1] = some y1 ∧ DataW.trod enc P w base spare held n f2.type [v2] = some y2 ∧ DataW.trod enc P w base spare held n f3.type [v3] = some y3 ∧ DataW.trod enc P w base spare held n f4.type [v4] = some y4 := by
  obtain ⟨cs, rfl, hsz⟩ := okWide_struct hs hv
  obtain ⟨l⟩ := cs
  match l, hsz.trans hC with
  | [c0, c1, c2, c3, c4], _ =>
    obtain ⟨fuel, hf⟩ := h
    obtain ⟨xs, n, _, hx, _, hlen, hg⟩ := DataW.trod_struct hs hf
    obtain ⟨o0, k0⟩ := hone_of hone 0 f0 rfl
    obtain ⟨o1, k1⟩ := hone_of hone 1 f1 rfl
    obtain ⟨o2, k2⟩ := hone_of hone 2 f2 rfl
    obtain ⟨o3, k3⟩ := hone_of hone 3 f3 rfl
    obtain ⟨o4, k4⟩ := hone_of hone 4 f4 rfl
    match xs, hlen with
    | [y0, y1, y2, y3, y4], _ =>
      simp only [Prod.mk.injEq] at hx
      exact ⟨c0, c1, c2, c3, c4, y0, y1, y2, y3, y4, n, rfl, by simpa using hx.1, by simpa using hx.2, by simpa [Value.cells, o0, k0] using hg 0 f0 rfl, by simpa [Value.cells, o1, k1] using hg 1 f1 rfl, by simpa [Value.cells, o2, k2] using hg 2 f2 rfl, by simpa [Value.cells, o3, k3] using hg 3 f3 rfl, by simpa [Value.cells, o4, k4] using hg 4 f4 rfl⟩
end
section
variable {H : Type} {enc : TypeId × Value → H} {P : Program}
theorem post_of_below {f : Func} {s : ChangeSpec} {apart fresh handsOn again : Bool} {W W' : World} {args : Array Value} {v : Value} {ds gs : List (DataW H)} {before pa pv : List MemPlace}
    (hW : DataW.Whole enc P f.params.toList s.vars apart W args.toList ds gs before)
    (hres : ∀ (b : Nat) (sp : Nat → Bool) (hd : Bool), DataW.TrodAll enc P W' b sp hd f.resultTypes.toList (v.resultList f.resultTypes.size) (s.fn H (ds ++ gs)).results [])
    (hargs : ∀ sp : Nat → Bool, (∀ p ∈ before, sp p.block = true) → DataW.TrodAll enc P W' 0 sp true f.params.toList args.toList (s.fn H (ds ++ gs)).args pa)
    (hvars : ∀ sp : Nat → Bool, (∀ p ∈ before, sp p.block = true) → DataW.TrodVars enc P W' sp s.vars (s.fn H (ds ++ gs)).vars pv)
    (hps : before = pa ++ pv) (hb : Below W.heap.size W W')
    (hok : ∀ (j : Nat) (t : TypeId) (r : Value), f.resultTypes[j]? = some t → (v.resultList f.resultTypes.size)[j]? = some r → Value.okWide P W' .any 0 t r) :
    s.post enc P f apart fresh handsOn again W args v W' := by
  have hlt : ∀ p ∈ before, p.block < W.heap.size := fun p hp => hW.lt p hp
  have hold : ∀ p ∈ before, (fun b => decide (b < W.heap.size)) p.block = true := fun p hp => by simpa using hlt p hp
  refine ⟨ds, gs, before, [], pa, pv, hW, hres _ _ _, hargs _ hold, hvars _ hold, World.keptBut_mono (fun p hp => ⟨hp, ?_⟩) (hb.frame (· ∈ before)), fun _ => ?_⟩
  · rw [hps, List.mem_append] at hp
    exact Or.inr hp
  · obtain ⟨_, _, _, _, _, hz, hn⟩ := hW
    refine ⟨hok, _, _, ([] ++ pa) ++ pv, ⟨[] ++ pa, pv, trodAll_append (hargs _ (fun _ _ => rfl)) (hres _ _ _), hvars _ (fun _ _ => rfl), rfl, ?_, ?_⟩, ?_⟩
    · intro b off hp
      have hin : MemPlace.cell b off ∈ before := by rw [hps]; simpa using hp
      rw [hb.frozen (hlt _ hin)]
      exact hz b off hin
    · intro ha
      have := hn ha
      rw [hps] at this
      simpa using this
    · intro p hp _
      rw [hps]
      simpa using hp
end

/-- Whatever is read lies within reach. -/
def Wt {H : Type} (P : Program) (t : TypeId) (d : DataW H) : Prop := ∀ n ∈ d.weights P t, n ≤ reachBytes
theorem wt_of {H : Type} {P : Program} {ts : List TypeId} {ds : List (DataW H)} (h : (DataW.weightsEach P ts ds).all (· ≤ reachBytes) = true) {j : Nat} {t : TypeId} {d : DataW H} (ht : ts[j]? = some t) (hd : ds[j]? = some d) : Wt P t d := by
  intro n hn
  have := List.all_eq_true.1 h n (DataW.weights_mem_each ht hd n hn)
  simpa using this
theorem weightsAll_mem {H : Type} {P : Program} {e : TypeId} : ∀ {l : List (DataW H)} {d : DataW H}, d ∈ l → ∀ n ∈ d.weights P e, n ∈ DataW.weightsAll P e l
  | [], _, h => by simp at h
  | x :: l, d, h => fun n hn => by
    rw [DataW.weightsAll, List.mem_append]
    rcases List.mem_cons.1 h with rfl | h
    · exact .inl hn
    · exact .inr (weightsAll_mem h n hn)
theorem reach_lim : reachBytes ≤ lim := by decide
theorem reach_val : reachBytes = 140737488351232 := rfl
theorem bytes_int : Tryd.prog.bytesOf 3 = 8 := by kernel_rfl
theorem bytes_ints : Tryd.prog.bytesOf 29 = 24 := by kernel_rfl
theorem bytes_str : Tryd.prog.bytesOf 9 = 16 := by kernel_rfl
theorem bytes_bool : Tryd.prog.bytesOf 4 = 1 := by kernel_rfl
theorem cells_int : Tryd.prog.cellsOf 3 = 1 := by kernel_rfl
theorem cells_ints : Tryd.prog.cellsOf 29 = 1 := by kernel_rfl
theorem cells_str : Tryd.prog.cellsOf 9 = 1 := by kernel_rfl
theorem cells_bool : Tryd.prog.cellsOf 4 = 1 := by kernel_rfl

theorem spot_none {W : World} {a : Addr} {v : Value} (h : W.cell? (a.add 0) = some v) : ∃ b o, a = ⟨b, o, none⟩ := by
  obtain ⟨b, o, s⟩ := a
  have : s = none := by simpa [Addr.add] using World.cell?_spot h
  exact ⟨b, o, by rw [this]⟩
theorem sl_of_cells {W : World} {a : Addr} {len cap : Nat} {F : Nat → Value} (hl : len ≤ cap) (hlim : len ≤ lim) (hc : ∀ i, i < cap → W.cell? (a.add i) = some (F i)) : Sl W (.slice (some a) len cap) ((List.range len).map F) := by
  refine ⟨some a, cap, by simp, by simpa using hlim, ?_⟩
  by_cases h0 : len = 0
  · left; rw [h0]; rfl
  · right
    obtain ⟨b, o, rfl⟩ := spot_none (hc 0 (by omega))
    refine ⟨b, o, rfl, fun j u hu => ?_⟩
    obtain ⟨hj, he⟩ := List.getElem?_eq_some_iff.1 hu
    have hjl : j < len := by simpa using hj
    have := hc j (by omega)
    rw [add_plain'] at this
    rw [this, ← he]
    simp

section
variable {H : Type} {enc : TypeId × Value → H} {W : World} {base : Nat} {held : Bool}
theorem open_hv {n : Nat} {v : Value} {y : DataW H × List MemPlace} (h : DataW.trod enc Tryd.prog W base (fun _ => true) held n 44 [v] = some y) (hw : Wt Tryd.prog 44 y.1) : ∃ hs, RBools W v hs := by
  rcases open_bools Tryd.underlying44 Tryd.underlying4 cells_bool h with ⟨h1, h2⟩ | ⟨a, len, cap, B, h1, _, hl, hm, h2, hc⟩
  · simp at h1
    subst h1
    exact ⟨[], Sl.none_ W 0⟩
  · simp at h1
    subst h1
    refine ⟨(List.range len).map B, ?_⟩
    have hsz : len ≤ lim := by
      have := hw ((len + (cap - len)) * Tryd.prog.bytesOf 4) (by rw [h2]; simp [boolRow, DataW.weights, Tryd.underlying44])
      rw [bytes_bool, reach_val] at this
      rw [lim_val]; omega
    have := sl_of_cells (F := fun i => .bool (B i)) hl hsz hc
    unfold RBools
    rw [List.map_map]
    exact this
theorem open_us {n : Nat} {v : Value} {y : DataW H × List MemPlace} (h : DataW.trod enc Tryd.prog W base (fun _ => true) held n 25 [v] = some y) (hw : Wt Tryd.prog 25 y.1) : ∃ us, RStrs W v us ∧ ∀ u ∈ us, u.size ≤ lim := by
  rcases open_strs Tryd.underlying25 Tryd.underlying9 cells_str h with ⟨h1, h2⟩ | ⟨a, len, cap, m, Sx, h1, _, hl, hm, hmm, h2, hc⟩
  · simp at h1
    subst h1
    exact ⟨[], Sl.none_ W 0, by simp⟩
  · simp at h1
    subst h1
    simp only [if_true] at hmm
    subst hmm
    refine ⟨(List.range len).map Sx, ?_, ?_⟩
    · have hsz : len ≤ lim := by
        have := hw ((len + (m - len)) * Tryd.prog.bytesOf 9) (by rw [h2]; simp [DataW.weights, Tryd.underlying25])
        rw [bytes_str, reach_val] at this
        rw [lim_val]; omega
      have := sl_of_cells (F := fun i => .string (Sx i)) hl hsz (fun i hi => (hc i hi).1)
      unfold RStrs
      rw [List.map_map]
      exact this
    · intro u hu
      obtain ⟨i, hi, rfl⟩ := List.mem_map.1 hu
      have := hw (Sx i).data.toList.length (by
        rw [h2]
        simp only [DataW.weights, Tryd.underlying25]
        refine List.mem_cons_of_mem _ (List.mem_append_left _ (weightsAll_mem (d := .lit (.string (Sx i).data.toList)) (List.mem_map.2 ⟨i, hi, rfl⟩) _ (by simp [DataW.weights])))
      )
      rw [reach_val] at this
      rw [lim_val]
      have e : (Sx i).data.toList.length = (Sx i).size := Array.length_toList
      omega
theorem open_par {n : Nat} {v : Value} {y : DataW H × List MemPlace} (h : DataW.trod enc Tryd.prog W base (fun _ => true) held n 22 [v] = some y) (hw : Wt Tryd.prog 22 y.1) : ∃ par, RRows W v par := by
  rcases open_int_rows Tryd.underlying22 Tryd.underlying29 Tryd.underlying3 cells_ints cells_int h with ⟨h1, h2⟩ | ⟨a, len, cap, A, L, C, Z, h1, _, hl, hm, h2, hr⟩
  · simp at h1
    subst h1
    exact ⟨[], [], Sl.none_ W 0, trivial⟩
  · simp at h1
    subst h1
    have hsz : len ≤ lim := by
      have := hw ((len + (cap - len)) * Tryd.prog.bytesOf 29) (by rw [h2]; simp [DataW.weights, Tryd.underlying22])
      rw [bytes_ints, reach_val] at this
      rw [lim_val]; omega
    refine ⟨(List.range len).map fun r => (Z r).take (L r), (List.range len).map fun r => .slice (A r) (L r) (C r), sl_of_cells (F := fun r => .slice (A r) (L r) (C r)) hl hsz (fun i hi => (hr i hi).1), ?_⟩
    have key : ∀ r, r < len → RInts W (.slice (A r) (L r) (C r)) ((Z r).take (L r)) := by
      intro r hrl
      obtain ⟨_, q1, q2, q3, q4, q5, q6⟩ := hr r (by omega)
      have hll : ((Z r).take (L r)).length = L r := by rw [List.length_take]; omega
      cases hA : A r with
      | none =>
        have h0 := q5 hA
        have hL0 : L r = 0 := by omega
        rw [hL0]
        exact ⟨none, C r, by simp, by rw [List.take_zero]; exact Nat.zero_le _, .inl (by simp)⟩
      | some a' =>
        obtain ⟨_, hc⟩ := q6 a' hA
        have hLl : L r ≤ lim := by
          have := hw ((L r + (C r - L r)) * Tryd.prog.bytesOf 3) (by
            rw [h2]
            simp only [DataW.weights, Tryd.underlying22]
            refine List.mem_cons_of_mem _ (List.mem_append_left _ (weightsAll_mem (d := intRow .i64 (A r) (L r) (Z r)) (List.mem_map.2 ⟨r, List.mem_range.2 hrl, rfl⟩) _ ?_))
            rw [hA]
            have e1 : (lits (H := H) .i64 ((Z r).take (L r))).length + (lits (H := H) .i64 ((Z r).drop (L r))).length = L r + (C r - L r) := by
              unfold lits
              rw [List.length_map, List.length_map, List.length_take, List.length_drop]; omega
            simp only [intRow, DataW.weights, Tryd.underlying29, e1]
            exact List.mem_cons_self)
          rw [bytes_int, reach_val] at this
          rw [lim_val]; omega
        have := sl_of_cells (F := fun c => .int .i64 ((Z r).getD c 0)) q1 hLl hc
        unfold RInts
        have e : ((Z r).take (L r)).map (Value.int .i64) = (List.range (L r)).map fun c => Value.int .i64 ((Z r).getD c 0) := by
          apply List.ext_getElem
          · simp; omega
          · intro i h1 h2
            have : i < (Z r).length := by simp at h1; omega
            simp [this]
        rw [e]
        exact this
    have : ∀ l : List Nat, (∀ r ∈ l, r < len) → All2 (RInts W) (l.map fun r => Value.slice (A r) (L r) (C r)) (l.map fun r => (Z r).take (L r)) := by
      intro l
      induction l with
      | nil => intro _; trivial
      | cons x l ih => intro h; exact ⟨key x (h x (by simp)), ih fun r hr => h r (by simp [hr])⟩
    exact this _ (fun r hr => List.mem_range.1 hr)
end
end Go.Proofs.YtgflflpeilfinaaDoor

/- What all rows of layer 8 share: the table of the fields, the code as an argument, a world for the witness. -/
set_option linter.unusedVariables false
set_option linter.unusedSimpArgs false
namespace Go.Proofs.YtgflflpeilfinaaDoor
open Go.Joins Go.ChangeShapes Go.WideShapes Go.ChangeAt Go.RowKit Go.Deep

theorem ownKnob_ : ownKnob Tryd.prog.godebug = none := by kernel_rfl
theorem laidOut_ : laidOutB Tryd.prog = true := by kernel_rfl
theorem gFields : Tryd.prog.globalNamed "solvent/field.fields" = some 0 := by kernel_rfl
theorem gFieldsType : (Tryd.prog.globals[0]?).map (·.type) = some 126 := by kernel_rfl
theorem cells_fields : Tryd.prog.cellsOf 126 = 4 := by kernel_rfl
theorem cells_param : Tryd.prog.cellsOf 125 = 2 := by kernel_rfl

set_option maxRecDepth 100000 in
/-- A pair of whole numbers that reads as two literals. -/
theorem pair_of {H : Type} {enc : TypeId × Value → H} {w : World} {base : Nat} {sp : Nat → Bool} {held : Bool} {fuel : Nat} {cs : List Value} {a b : Int} {p : List MemPlace}
    (h : DataW.trod enc Tryd.prog w base sp held fuel 125 cs = some (.agg [.lit (.int .i64 a), .lit (.int .i64 b)], p)) : cs = [.int .i64 a, .int .i64 b] := by
  obtain ⟨xs, n, _, hx, hl, hxl, hf⟩ := DataW.trod_struct Tryd.underlying125 h
  rw [cells_param] at hl
  have h0 := hf 0 _ rfl
  have h1 := hf 1 _ rfl
  match cs, hl with
  | [c0, c1], _ =>
    match xs, hxl with
    | [x0, x1], _ =>
      simp only [Prod.mk.injEq, List.map_cons, List.map_nil, DataW.agg.injEq, List.cons.injEq, and_true] at hx
      obtain ⟨⟨e0, e1⟩, _⟩ := hx
      simp [cells_int] at h0 h1
      obtain ⟨z0, q0, r0, _⟩ := DataW.trod_int Tryd.underlying3 h0
      obtain ⟨z1, q1, r1, _⟩ := DataW.trod_int Tryd.underlying3 h1
      rw [r0] at e0
      rw [r1] at e1
      simp only [DataW.lit.injEq, Lit.int.injEq, true_and] at e0 e1
      simp only [List.cons.injEq, and_true] at q0 q1
      rw [q0, q1, e0, e1]

set_option maxRecDepth 100000 in
theorem laid_of {W : World} (h : laidMetH Tryd.prog [("solvent/field.fields", Rows.laid_solvent_field_fields)] W) : Laid W := by
  have h' : laidMet Tryd.prog [("solvent/field.fields", Rows.laid_solvent_field_fields)] W := h
  obtain ⟨ps, ⟨g', t', cs, fuel, p, q, hg', ht', hvar, hd, _, _⟩, _⟩ := h'
  obtain rfl := Option.some.inj (gFields.symm.trans hg')
  obtain rfl := Option.some.inj (gFieldsType.symm.trans ht')
  have key : cs.toList = [.int .i64 8, .int .i64 285, .int .i64 16, .int .i64 69643] := by
    cases fuel with
    | zero => simp [DataW.trod] at hd
    | succ fuel =>
      simp only [DataW.trod, Tryd.underlying126, cells_fields, cells_param] at hd
      split at hd
      · rename_i hl
        obtain ⟨xs, hm, hx⟩ := Option.map_eq_some_iff.1 hd
        have hm2 : (List.range 2).mapM (fun i => DataW.trod (fun _ => ()) Tryd.prog W 0 (fun _ => true) false fuel 125 ((cs.toList.drop (i * 2)).take 2)) = some xs := hm
        have e : List.range 2 = [0, 1] := rfl
        rw [e] at hm2
        simp only [List.mapM_cons, List.mapM_nil, Option.bind_eq_bind, Option.bind_eq_some_iff, Option.pure_def, Option.some.injEq] at hm2
        obtain ⟨x0, h0, r0, ⟨x1, h1, r1, hr1, hr0⟩, hxs⟩ := hm2
        subst hr1 hr0 hxs
        simp only [Prod.mk.injEq, List.map_cons, List.map_nil] at hx
        obtain ⟨hx1, _⟩ := hx
        unfold Rows.laid_solvent_field_fields at hx1
        simp only [DataW.agg.injEq, List.cons.injEq, and_true] at hx1
        obtain ⟨x0, p0⟩ := x0
        obtain ⟨x1, p1⟩ := x1
        obtain ⟨rfl, rfl⟩ := hx1
        have k0 := pair_of h0
        have k1 := pair_of h1
        have hl4 : cs.toList.length = 4 := by simpa using hl
        match hcs : cs.toList, hl4 with
        | [a, b, c, d], _ =>
          rw [hcs] at k0 k1
          simp at k0 k1
          rw [k0.1, k0.2, k1.1, k1.2]
      · cases hd
  have hc : ∀ i, W.cell? ⟨0, i, none⟩ = cs.toList[i]? := fun i => by rw [World.var?_cell gFields hvar i]; simp
  exact ⟨by rw [hc, key]; rfl, by rw [hc, key]; rfl, by rw [hc, key]; rfl, by rw [hc, key]; rfl⟩

section
variable {H : Type} {enc : TypeId × Value → H} {W : World} {base : Nat} {held : Bool}
theorem cells_code : Tryd.prog.cellsOf 24 = 5 := by kernel_rfl
set_option maxRecDepth 100000 in
theorem i64_wf {z : Int} (h : (Lit.int .i64 z).wf = true) : -9223372036854775808 ≤ z ∧ z ≤ 9223372036854775807 := by
  unfold Lit.wf at h
  rw [Bool.and_eq_true] at h
  exact ⟨of_decide_eq_true h.1, of_decide_eq_true h.2⟩
set_option maxRecDepth 100000 in
theorem open_code {r : Reach} {b0 : Nat} {v : Value} {d : DataW H} {p : List MemPlace} (hv : Value.okWide Tryd.prog W r b0 24 v) (h : DataW.Trod enc Tryd.prog W base (fun _ => true) held 24 v d p) (hw : Wt Tryd.prog 24 d) :
    ∃ (nm : ByteArray) (f n dm : Int) (vp : Value) (par : List (List Int)), v = vCd nm f n vp dm ∧ RRows W vp par ∧ -9223372036854775808 ≤ n ∧ n ≤ 9223372036854775807 := by
  obtain ⟨v0, v1, v2, v3, v4, y0, y1, y2, y3, y4, k, rfl, rfl, _, t0, t1, t2, t3, t4⟩ := open_agg5 Tryd.underlying24 (by kernel_rfl) cells_code hv h
  obtain ⟨s, e0, _, _⟩ := DataW.trod_string Tryd.underlying9 t0
  obtain ⟨z1, e1, _, _⟩ := DataW.trod_int Tryd.underlying3 t1
  obtain ⟨z2, e2, _, w2⟩ := DataW.trod_int Tryd.underlying3 t2
  obtain ⟨z4, e4, _, _⟩ := DataW.trod_int Tryd.underlying3 t4
  simp only [List.cons.injEq, and_true] at e0 e1 e2 e4
  subst e0 e1 e2 e4
  obtain ⟨par, hpar⟩ := open_par t3 (fun n hn => hw n (by
    simp only [DataW.weights, Tryd.underlying24]
    exact DataW.weights_mem_each (j := 3) rfl rfl n hn))
  exact ⟨s, z1, z2, z4, v3, par, rfl, hpar, (i64_wf w2).1, (i64_wf w2).2⟩
end

/-- A world for the witness: the settled one, the table (block 0) holding what its initialiser lays. -/
noncomputable def laidWorld (os : Os) : World :=
  { World.holding Tryd.prog os ⟨#[], #[], []⟩ with heap := (World.holding Tryd.prog os ⟨#[], #[], []⟩).heap.modify 0 fun
      | .cells _ t frozen => .cells #[.int .i64 8, .int .i64 285, .int .i64 16, .int .i64 69643] t frozen
      | o => o }

end Go.Proofs.YtgflflpeilfinaaDoor
