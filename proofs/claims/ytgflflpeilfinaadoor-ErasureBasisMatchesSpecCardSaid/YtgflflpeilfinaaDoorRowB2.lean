/- The statement ErasureBasisMatchesSpec: for every input the function answers true, and each argument reads behind the call as it read before. Its condition: the table field.fields starts as the program's text lays it (the card ties it). -/
import Derived.Test.YtgflflpeilfinaaDoorLawB
import Derived.Test.YtgflflpeilfinaaDoorRowB
set_option linter.unusedVariables false
set_option linter.unusedSimpArgs false
namespace Go.Proofs.YtgflflpeilfinaaDoor
open Go.Joins Go.ChangeShapes Go.WideShapes Go.ChangeAt Go.RowKit Go.Deep

set_option maxRecDepth 100000 in
set_option maxHeartbeats 1000000 in
theorem contract_ErasureBasisMatchesSpec (H : Type) (enc : TypeId × Value → H) (W : World) (base : Nat) (args : Array Value) (ds gs : List (DataW H)) (before : List MemPlace)
    (hval : ∀ (j : Nat) t v, Tryd.f8.params[j]? = some t → args[j]? = some v → Value.okWide Tryd.prog W .any base t v)
    (hW : DataW.Whole enc Tryd.prog Tryd.f8.params.toList Rows.erasureBasisMatchesSpecSpec.vars false W args.toList ds gs before)
    (hR : (DataW.weightsEach Tryd.prog (Tryd.f8.params.toList ++ (OpenSpec.ofChange Rows.erasureBasisMatchesSpecSpec).bare.plain.varTypes Tryd.prog) (ds ++ gs)).all (· ≤ reachBytes) = true) (hL : laidMetH Tryd.prog Rows.erasureBasisMatchesSpecRow.laid W) :
    Calls Tryd.prog 8 args W fun e W' => ∃ v, e = .returned v ∧ Rows.erasureBasisMatchesSpecSpec.post enc Tryd.prog Tryd.f8 false true false false W args v W' := by
  have hLd : Laid W := laid_of hL
  have hW' := hW
  obtain ⟨p, q, hA0, hV, rfl, hfz, hnd⟩ := hW
  have hA : DataW.TrodAll enc Tryd.prog W 0 (fun _ => true) true Tryd.f8.params.toList args.toList ds p := hA0
  rw [Tryd.params8] at hA hval hR
  obtain ⟨v0, vs0, d0, ds0, p0, q0, hargs0, rfl, rfl, h0, r0⟩ := trodAll_cons hA
  obtain ⟨v1, vs1, d1, ds1, p1, q1, hargs1, rfl, rfl, h1, r1⟩ := trodAll_cons r0
  obtain ⟨v2, vs2, d2, ds2, p2, q2, hargs2, rfl, rfl, h2, r2⟩ := trodAll_cons r1
  obtain ⟨rfl, rfl, rfl⟩ := trodAll_nil r2
  subst hargs2
  subst hargs1
  obtain rfl : args = #[v0, v1, v2] := by cases args; simp_all
  obtain ⟨rfl, rfl⟩ := trodVars_none hV
  have w0 : Wt Tryd.prog 24 d0 := wt_of hR (j := 0) rfl rfl
  have w1 : Wt Tryd.prog 44 d1 := wt_of hR (j := 1) rfl rfl
  have w2 : Wt Tryd.prog 3 d2 := wt_of hR (j := 2) rfl rfl
  have ok0 := hval 0 24 v0 rfl rfl
  have ok1 := hval 1 44 v1 rfl rfl
  have ok2 := hval 2 3 v2 rfl rfl
  clear hA0 hR hval
  simp only [List.append_nil] at hW'
  have k0 := h0
  have k1 := h1
  have k2 := h2
  obtain ⟨nm0, f0, n0, dm0, vp0, par0, rfl, hp0, hn0, hn0'⟩ := open_code ok0 h0 w0
  obtain ⟨a1, len1, cap1, rfl⟩ := okWide_slice Tryd.underlying44 ok1
  obtain ⟨m1, g1⟩ := h1
  obtain ⟨hs1, hh1⟩ := open_hv g1 w1
  obtain ⟨x2, rfl, _, _, wf2⟩ := open_int Tryd.underlying3 ok2 h2
  refine (lawB_any nm0 f0 n0 dm0 par0 vp0 _ hs1 x2 W hLd hp0 hh1 wf2 hn0 hn0').mono fun e W' ⟨he, hx⟩ => ?_
  subst he
  exact ⟨_, rfl, post_of_below hW' (fun _ _ _ => trodAll_cons_mk (shut_bool Tryd.underlying4 _) trodAll_mk0) (fun sp hsp => (trodAll_cons_mk (WideElems.Trod_stays laidOut_ (by kernel_rfl) (of_decide_eq_true (by kernel_rfl)) k0 (fun x hx0 => hx.same (hW'.lt x (List.mem_append_left _ hx0))) (fun x hx0 => hsp x (List.mem_append_left _ hx0))) (trodAll_cons_mk (WideElems.Trod_stays laidOut_ (by kernel_rfl) (of_decide_eq_true (by kernel_rfl)) k1 (fun x hx0 => hx.same (hW'.lt x (List.mem_append_right _ (List.mem_append_left _ hx0)))) (fun x hx0 => hsp x (List.mem_append_right _ (List.mem_append_left _ hx0)))) (trodAll_cons_mk (WideElems.Trod_stays laidOut_ (by kernel_rfl) (of_decide_eq_true (by kernel_rfl)) k2 (fun x hx0 => hx.same (hW'.lt x (List.mem_append_right _ (List.mem_append_right _ hx0)))) (fun x hx0 => hsp x (List.mem_append_right _ (List.mem_append_right _ hx0)))) (trodAll_mk0))))) (fun _ _ => rfl) (by simp) hx (ok_one (by kernel_rfl) rfl (okWide_bool_mk Tryd.underlying4 _))⟩

theorem laidMet_ErasureBasisMatchesSpec (os : Os) : laidMet Tryd.prog Rows.erasureBasisMatchesSpecRow.laid ((laidWorld os).forCall (fun _ _ => 0) ⟨#[], #[(.agg #[.string ⟨#[]⟩, .int .i64 0, .int .i64 0, .slice none 0 0, .int .i64 0] : Value), (.slice none 0 0 : Value), (.int .i64 0 : Value)], []⟩).memory :=
  laidMet_of_run' 8 (by kernel_rfl) (by kernel_rfl)
theorem reads_ErasureBasisMatchesSpec (os : Os) {H : Type} (enc : TypeId × Value → H) : ∃ places, DataW.whole enc Tryd.prog ((laidWorld os).forCall (fun _ _ => 0) ⟨#[], #[(.agg #[.string ⟨#[]⟩, .int .i64 0, .int .i64 0, .slice none 0 0, .int .i64 0] : Value), (.slice none 0 0 : Value), (.int .i64 0 : Value)], []⟩).memory Tryd.f8.params.toList Rows.erasureBasisMatchesSpecSpec.vars false #[(.agg #[.string ⟨#[]⟩, .int .i64 0, .int .i64 0, .slice none 0 0, .int .i64 0] : Value), (.slice none 0 0 : Value), (.int .i64 0 : Value)].toList 8 = some ([.agg [.lit (.string []), .lit (.int .i64 0), .lit (.int .i64 0), .nil, .lit (.int .i64 0)], .nil, .lit (.int .i64 0)], [], places) :=
  ⟨[], by kernel_rfl⟩
set_option maxRecDepth 100000 in
theorem lifted_ErasureBasisMatchesSpec (os : Os) (started : os.Started) (H : Type) (enc : TypeId × Value → H) (F : Stop.Interp) :
    ReturnsInHanded {} Tryd.checked os 8 .any ((OpenSpec.ofChange Rows.erasureBasisMatchesSpecSpec).preRow enc Tryd.prog Tryd.f8 Rows.erasureBasisMatchesSpecRow.domain false Rows.erasureBasisMatchesSpecRow.laid) (((OpenSpec.ofChange Rows.erasureBasisMatchesSpecSpec).at F).post enc Tryd.prog Tryd.f8 false true false false) := by
  obtain ⟨places, hx⟩ := reads_ErasureBasisMatchesSpec os enc
  refine returnsInHanded_of_row (C := Tryd.checked) (s := OpenSpec.ofChange Rows.erasureBasisMatchesSpecSpec) ownKnob_ started (by kernel_rfl) Tryd.func8
    (witness_row_at (enc := enc) (C := Tryd.checked) false (laidWorld os) #[(.agg #[.string ⟨#[]⟩, .int .i64 0, .int .i64 0, .slice none 0 0, .int .i64 0] : Value), (.slice none 0 0 : Value), (.int .i64 0 : Value)] rfl (by kernel_rfl) (by kernel_rfl) (by kernel_rfl)
      (OpenSpec.preRow_of_cond 8 hx (by kernel_rfl) (fun k hk => by cases hk) (by kernel_rfl) (laidMet_ErasureBasisMatchesSpec os))) ?_
  intro W base args ds gs before hval hW _ _ hR hL _ _
  exact contract_ErasureBasisMatchesSpec H enc W base args ds gs before hval hW hR hL
theorem said_ErasureBasisMatchesSpec : Rows.ErasureBasisMatchesSpecSaid :=
  OpenClaim.holds_of_cond 8 Tryd.f8 rfl rfl rfl rfl rfl rfl rfl ⟨rfl, rfl, rfl, rfl, rfl⟩ rfl rfl rfl rfl rfl (by kernel_rfl) Tryd.func8 (by kernel_rfl)
    (of_decide_eq_true (by kernel_rfl)) (by unfold Func.isWrapper; first | (rw [if_pos (by decide +kernel)]; kernel_rfl) | (rw [if_neg (by decide +kernel)]; exact ⟨rfl, rfl⟩))
    (fun os started H enc _ F => by rw [OpenClaim.pre_eq_preRow]; exact lifted_ErasureBasisMatchesSpec os started H enc F)
theorem plain_ErasureBasisMatchesSpec (f : FuncId) (fn : Func) (hf : Tryd.pinned.checked.prog.funcNamed "solvent/solventlaw08.ErasureBasisMatchesSpec" = some f) (hfn : Tryd.pinned.checked.prog.funcs[f]? = some fn) :
    false = Tryd.pinned.checked.prog.looks [] ∧ ∀ (j : Nat) t, fn.params[j]? = some t → Tryd.pinned.checked.prog.wantsStandIn t = false := by
  obtain rfl : f = 8 := Option.some.inj ((show Tryd.prog.funcNamed "solvent/solventlaw08.ErasureBasisMatchesSpec" = some 8 by kernel_rfl).symm.trans hf) |>.symm
  obtain rfl : fn = Tryd.f8 := (Option.some.inj (Tryd.func8.symm.trans hfn)).symm
  refine ⟨by kernel_rfl, fun j t ht => ?_⟩
  rw [Tryd.params8] at ht
  have hm := Array.mem_of_getElem? ht
  have hm2 : t = 24 ∨ t = 44 ∨ t = 3 := by simpa using hm
  rcases hm2 with rfl | rfl | rfl
  · exact (show Tryd.prog.wantsStandIn 24 = false by kernel_rfl)
  · exact (show Tryd.prog.wantsStandIn 44 = false by kernel_rfl)
  · exact (show Tryd.prog.wantsStandIn 3 = false by kernel_rfl)

/-- The card. -/
theorem card_ErasureBasisMatchesSpec : Rows.ErasureBasisMatchesSpecCardSaid :=
  Claim7.holds_tied_plain_at .later [] _ _ _ _ said_ErasureBasisMatchesSpec (fun _ h => by cases h) (by kernel_rfl) (fun _ h => by cases h) erasureBasisMatchesSpec_row_tie rfl ⟨rfl, rfl⟩ (by kernel_rfl) rfl plain_ErasureBasisMatchesSpec (by kernel_rfl)

#print axioms card_ErasureBasisMatchesSpec
end Go.Proofs.YtgflflpeilfinaaDoor
