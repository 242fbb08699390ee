/- The statement ErasureCoefficientsAddUp: for every input the function answers true, and each argument reads behind the call as it read before. Its condition: the table field.fields starts as the program's text lays it (the card ties it). -/
import Derived.Test.YtgflflpeilfinaaDoorLawC
import Derived.Test.YtgflflpeilfinaaDoorRowB
set_option linter.unusedVariables false
set_option linter.unusedSimpArgs false
namespace Go.Proofs.YtgflflpeilfinaaDoor
open Go.Joins Go.ChangeShapes Go.WideShapes Go.ChangeAt Go.RowKit Go.Deep

set_option maxRecDepth 100000 in
set_option maxHeartbeats 1000000 in
theorem contract_ErasureCoefficientsAddUp (H : Type) (enc : TypeId × Value → H) (W : World) (base : Nat) (args : Array Value) (ds gs : List (DataW H)) (before : List MemPlace)
    (hval : ∀ (j : Nat) t v, Tryd.f5.params[j]? = some t → args[j]? = some v → Value.okWide Tryd.prog W .any base t v)
    (hW : DataW.Whole enc Tryd.prog Tryd.f5.params.toList Rows.erasureCoefficientsAddUpSpec.vars false W args.toList ds gs before)
    (hR : (DataW.weightsEach Tryd.prog (Tryd.f5.params.toList ++ (OpenSpec.ofChange Rows.erasureCoefficientsAddUpSpec).bare.plain.varTypes Tryd.prog) (ds ++ gs)).all (· ≤ reachBytes) = true) (hL : laidMetH Tryd.prog Rows.erasureCoefficientsAddUpRow.laid W) :
    Calls Tryd.prog 5 args W fun e W' => ∃ v, e = .returned v ∧ Rows.erasureCoefficientsAddUpSpec.post enc Tryd.prog Tryd.f5 false true false false W args v W' := by
  have hLd : Laid W := laid_of hL
  have hW' := hW
  obtain ⟨p, q, hA0, hV, rfl, hfz, hnd⟩ := hW
  have hA : DataW.TrodAll enc Tryd.prog W 0 (fun _ => true) true Tryd.f5.params.toList args.toList ds p := hA0
  rw [Tryd.params5] at hA hval hR
  obtain ⟨v0, vs0, d0, ds0, p0, q0, hargs0, rfl, rfl, h0, r0⟩ := trodAll_cons hA
  obtain ⟨v1, vs1, d1, ds1, p1, q1, hargs1, rfl, rfl, h1, r1⟩ := trodAll_cons r0
  obtain ⟨v2, vs2, d2, ds2, p2, q2, hargs2, rfl, rfl, h2, r2⟩ := trodAll_cons r1
  obtain ⟨rfl, rfl, rfl⟩ := trodAll_nil r2
  subst hargs2
  subst hargs1
  obtain rfl : args = #[v0, v1, v2] := by cases args; simp_all
  obtain ⟨rfl, rfl⟩ := trodVars_none hV
  have w0 : Wt Tryd.prog 24 d0 := wt_of hR (j := 0) rfl rfl
  have w1 : Wt Tryd.prog 44 d1 := wt_of hR (j := 1) rfl rfl
  have w2 : Wt Tryd.prog 5 d2 := wt_of hR (j := 2) rfl rfl
  have ok0 := hval 0 24 v0 rfl rfl
  have ok1 := hval 1 44 v1 rfl rfl
  have ok2 := hval 2 5 v2 rfl rfl
  clear hA0 hR hval
  simp only [List.append_nil] at hW'
  have k0 := h0
  have k1 := h1
  have k2 := h2
  obtain ⟨nm0, f0, n0, dm0, vp0, par0, rfl, hp0, hn0, hn0'⟩ := open_code ok0 h0 w0
  obtain ⟨a1, len1, cap1, rfl⟩ := okWide_slice Tryd.underlying44 ok1
  obtain ⟨m1, g1⟩ := h1
  obtain ⟨hs1, hh1⟩ := open_hv g1 w1
  obtain ⟨x2, rfl, _, _, wf2⟩ := open_int Tryd.underlying5 ok2 h2
  refine (lawC_any nm0 f0 n0 dm0 par0 vp0 _ hs1 x2 W hLd hp0 hh1 wf2 hn0 hn0').mono fun e W' ⟨he, hx⟩ => ?_
  subst he
  exact ⟨_, rfl, post_of_below hW' (fun _ _ _ => trodAll_cons_mk (shut_bool Tryd.underlying4 _) trodAll_mk0) (fun sp hsp => (trodAll_cons_mk (WideElems.Trod_stays laidOut_ (by kernel_rfl) (of_decide_eq_true (by kernel_rfl)) k0 (fun x hx0 => hx.same (hW'.lt x (List.mem_append_left _ hx0))) (fun x hx0 => hsp x (List.mem_append_left _ hx0))) (trodAll_cons_mk (WideElems.Trod_stays laidOut_ (by kernel_rfl) (of_decide_eq_true (by kernel_rfl)) k1 (fun x hx0 => hx.same (hW'.lt x (List.mem_append_right _ (List.mem_append_left _ hx0)))) (fun x hx0 => hsp x (List.mem_append_right _ (List.mem_append_left _ hx0)))) (trodAll_cons_mk (WideElems.Trod_stays laidOut_ (by kernel_rfl) (of_decide_eq_true (by kernel_rfl)) k2 (fun x hx0 => hx.same (hW'.lt x (List.mem_append_right _ (List.mem_append_right _ hx0)))) (fun x hx0 => hsp x (List.mem_append_right _ (List.mem_append_right _ hx0)))) (trodAll_mk0))))) (fun _ _ => rfl) (by simp) hx (ok_one (by kernel_rfl) rfl (okWide_bool_mk Tryd.underlying4 _))⟩

theorem laidMet_ErasureCoefficientsAddUp (os : Os) : laidMet Tryd.prog Rows.erasureCoefficientsAddUpRow.laid ((laidWorld os).forCall (fun _ _ => 0) ⟨#[], #[(.agg #[.string ⟨#[]⟩, .int .i64 0, .int .i64 0, .slice none 0 0, .int .i64 0] : Value), (.slice none 0 0 : Value), (.int .u8 0 : Value)], []⟩).memory :=
  laidMet_of_run' 8 (by kernel_rfl) (by kernel_rfl)
theorem reads_ErasureCoefficientsAddUp (os : Os) {H : Type} (enc : TypeId × Value → H) : ∃ places, DataW.whole enc Tryd.prog ((laidWorld os).forCall (fun _ _ => 0) ⟨#[], #[(.agg #[.string ⟨#[]⟩, .int .i64 0, .int .i64 0, .slice none 0 0, .int .i64 0] : Value), (.slice none 0 0 : Value), (.int .u8 0 : Value)], []⟩).memory Tryd.f5.params.toList Rows.erasureCoefficientsAddUpSpec.vars false #[(.agg #[.string ⟨#[]⟩, .int .i64 0, .int .i64 0, .slice none 0 0, .int .i64 0] : Value), (.slice none 0 0 : Value), (.int .u8 0 : Value)].toList 8 = some ([.agg [.lit (.string []), .lit (.int .i64 0), .lit (.int .i64 0), .nil, .lit (.int .i64 0)], .nil, .lit (.int .u8 0)], [], places) :=
  ⟨[], by kernel_rfl⟩
set_option maxRecDepth 100000 in
theorem lifted_ErasureCoefficientsAddUp (os : Os) (started : os.Started) (H : Type) (enc : TypeId × Value → H) (F : Stop.Interp) :
    ReturnsInHanded {} Tryd.checked os 5 .any ((OpenSpec.ofChange Rows.erasureCoefficientsAddUpSpec).preRow enc Tryd.prog Tryd.f5 Rows.erasureCoefficientsAddUpRow.domain false Rows.erasureCoefficientsAddUpRow.laid) (((OpenSpec.ofChange Rows.erasureCoefficientsAddUpSpec).at F).post enc Tryd.prog Tryd.f5 false true false false) := by
  obtain ⟨places, hx⟩ := reads_ErasureCoefficientsAddUp os enc
  refine returnsInHanded_of_row (C := Tryd.checked) (s := OpenSpec.ofChange Rows.erasureCoefficientsAddUpSpec) ownKnob_ started (by kernel_rfl) Tryd.func5
    (witness_row_at (enc := enc) (C := Tryd.checked) false (laidWorld os) #[(.agg #[.string ⟨#[]⟩, .int .i64 0, .int .i64 0, .slice none 0 0, .int .i64 0] : Value), (.slice none 0 0 : Value), (.int .u8 0 : Value)] rfl (by kernel_rfl) (by kernel_rfl) (by kernel_rfl)
      (OpenSpec.preRow_of_cond 8 hx (by kernel_rfl) (fun k hk => by cases hk) (by kernel_rfl) (laidMet_ErasureCoefficientsAddUp os))) ?_
  intro W base args ds gs before hval hW _ _ hR hL _ _
  exact contract_ErasureCoefficientsAddUp H enc W base args ds gs before hval hW hR hL
theorem said_ErasureCoefficientsAddUp : Rows.ErasureCoefficientsAddUpSaid :=
  OpenClaim.holds_of_cond 5 Tryd.f5 rfl rfl rfl rfl rfl rfl rfl ⟨rfl, rfl, rfl, rfl, rfl⟩ rfl rfl rfl rfl rfl (by kernel_rfl) Tryd.func5 (by kernel_rfl)
    (of_decide_eq_true (by kernel_rfl)) (by unfold Func.isWrapper; first | (rw [if_pos (by decide +kernel)]; kernel_rfl) | (rw [if_neg (by decide +kernel)]; exact ⟨rfl, rfl⟩))
    (fun os started H enc _ F => by rw [OpenClaim.pre_eq_preRow]; exact lifted_ErasureCoefficientsAddUp os started H enc F)
theorem plain_ErasureCoefficientsAddUp (f : FuncId) (fn : Func) (hf : Tryd.pinned.checked.prog.funcNamed "solvent/solventlaw08.ErasureCoefficientsAddUp" = some f) (hfn : Tryd.pinned.checked.prog.funcs[f]? = some fn) :
    false = Tryd.pinned.checked.prog.looks [] ∧ ∀ (j : Nat) t, fn.params[j]? = some t → Tryd.pinned.checked.prog.wantsStandIn t = false := by
  obtain rfl : f = 5 := Option.some.inj ((show Tryd.prog.funcNamed "solvent/solventlaw08.ErasureCoefficientsAddUp" = some 5 by kernel_rfl).symm.trans hf) |>.symm
  obtain rfl : fn = Tryd.f5 := (Option.some.inj (Tryd.func5.symm.trans hfn)).symm
  refine ⟨by kernel_rfl, fun j t ht => ?_⟩
  rw [Tryd.params5] at ht
  have hm := Array.mem_of_getElem? ht
  have hm2 : t = 24 ∨ t = 44 ∨ t = 5 := by simpa using hm
  rcases hm2 with rfl | rfl | rfl
  · exact (show Tryd.prog.wantsStandIn 24 = false by kernel_rfl)
  · exact (show Tryd.prog.wantsStandIn 44 = false by kernel_rfl)
  · exact (show Tryd.prog.wantsStandIn 5 = false by kernel_rfl)

/-- The card. -/
theorem card_ErasureCoefficientsAddUp : Rows.ErasureCoefficientsAddUpCardSaid :=
  Claim7.holds_tied_plain_at .later [] _ _ _ _ said_ErasureCoefficientsAddUp (fun _ h => by cases h) (by kernel_rfl) (fun _ h => by cases h) erasureCoefficientsAddUp_row_tie rfl ⟨rfl, rfl⟩ (by kernel_rfl) rfl plain_ErasureCoefficientsAddUp (by kernel_rfl)

#print axioms card_ErasureCoefficientsAddUp
end Go.Proofs.YtgflflpeilfinaaDoor
