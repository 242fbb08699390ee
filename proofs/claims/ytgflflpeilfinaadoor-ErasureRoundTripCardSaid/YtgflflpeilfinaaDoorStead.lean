/- A region that draws its order, whose operations answer the same in every world of a family that its calls do not leave: it goes by one walk, in the order of the text. -/
import Derived.Test.YtgflflpeilfinaaDoorBase
import Derived.Still
import Derived.StillTactics
set_option linter.unusedVariables false
set_option linter.unusedSimpArgs false
namespace Go.Proofs.YtgflflpeilfinaaDoor
open Go

/-- What an operation comes to at one world of the family: the value v, and the family is not left. -/
def OpGives (P : Program) (I : World → Prop) (v : Value) (w : World) : Result Next → Prop
  | .ok (.value u) w' => w' = w ∧ u = v
  | .ok .skip w' => w' = w ∧ v = undef
  | .ok (.enter f args) w' => w' = w ∧ Calls P f args w fun e w'' => e = .returned v ∧ I w''
  | _ => False
def OpAt (P : Program) (I : World → Prop) (o : Oper) (a : Act) (v : Value) (w : World) : Prop := OpGives P I v w ((execOp a.eval o).run P w)
theorem OpGives_value (P : Program) (I : World → Prop) (v u : Value) (w : World) : OpGives P I v w (.ok (.value u) w) = (u = v) := by simp [OpGives]
theorem OpGives_enter (P : Program) (I : World → Prop) (v : Value) (w : World) (f : FuncId) (args : Array Value) : OpGives P I v w (.ok (.enter f args) w) = Calls P f args w (fun e w'' => e = .returned v ∧ I w'') := by simp [OpGives]

section
variable {P : Program} {ops : Array Oper} {md : Region.Mode} {I : World → Prop}
def StV (P : Program) (ops : Array Oper) (I : World → Prop) (o : Oper) (v : Value) (a : Act) : Prop :=
  (Region.wanted o (yielded ops a.tmps) = true ∧ ∀ w, I w → OpAt P I o a v w) ∨ (Region.wanted o (yielded ops a.tmps) = false ∧ v = undef)
theorem StV.same {o : Oper} {v : Value} {a a' : Act} (h : StV P ops I o v a) (he : execOp a'.eval o = execOp a.eval o) (hw : Region.wanted o (yielded ops a'.tmps) = Region.wanted o (yielded ops a.tmps)) : StV P ops I o v a' := by
  unfold StV OpAt at *
  rw [he, hw]
  exact h
/-- In the order of the text. -/
def wpSt (P : Program) (ops : Array Oper) (I : World → Prop) (Q : Act → Prop) : List Oper → Act → Prop
  | [], a => Q a
  | o :: rest, a => ∃ v, StV P ops I o v a ∧ wpSt P ops I Q rest (a.put o.dst v)
def stI (P : Program) (ops : Array Oper) (I : World → Prop) (i : Nat) (K : Act → Prop) (a : Act) : Prop :=
  match ops[i]? with
  | none => K a
  | some o => ∃ v, StV P ops I o v a ∧ K (a.put o.dst v)
def anySt (P : Program) (md : Region.Mode) (ops : Array Oper) (I : World → Prop) (Q : Act → Prop) : Nat → Array Bool → Act → Prop
  | 0, listed, a => Region.ready md ops listed = [] ∧ Q a
  | fuel + 1, listed, a => (Region.ready md ops listed = [] → Q a) ∧ ∀ i ∈ Region.ready md ops listed, stI P ops I i (anySt P md ops I Q fuel (listed.setIfInBounds i true)) a
theorem stI.mono {i : Nat} {a : Act} {K K' : Act → Prop} (h : ∀ a, K a → K' a) (hh : stI P ops I i K a) : stI P ops I i K' a := by
  unfold stI at *
  split
  · exact h _ (by simpa [*] using hh)
  · rename_i o ho
    simp only [ho] at hh
    obtain ⟨v, h1, h2⟩ := hh
    exact ⟨v, h1, h _ h2⟩
theorem wpOp_stI {i : Nat} {K : Act → Prop} {a : Act} {w : World} {K' : Act → World → Prop} {Q' : Exit → Act → World → Prop} (hw : I w) (h : ∀ a w, I w → K a → K' a w) (hh : stI P ops I i K a) : wpOp P ops Q' i K' a w := by
  unfold stI at hh
  unfold wpOp
  split
  · rename_i ho; simp only [ho] at hh; exact h _ _ hw hh
  · rename_i o ho
    simp only [ho] at hh
    obtain ⟨v, hv, hK⟩ := hh
    rcases hv with ⟨hwt, hat⟩ | ⟨hwt, rfl⟩
    · rw [if_pos hwt]
      left
      have hat := hat w hw
      unfold OpAt at hat
      unfold Oper.wp
      generalize (execOp a.eval o).run P w = r at *
      cases r with
      | ok n w' =>
        cases n <;> simp only [OpGives] at hat <;> simp only [Oper.upon]
        case value u => obtain ⟨rfl, rfl⟩ := hat; exact h _ _ hw hK
        case skip => obtain ⟨rfl, rfl⟩ := hat; exact h _ _ hw hK
        case enter f args =>
          obtain ⟨rfl, hc⟩ := hat
          exact hc.mono fun e w'' ⟨he, hi⟩ => by subst he; exact h _ _ hi hK
      | halt x w' => simp only [OpGives] at hat
    · rw [if_neg (by rw [hwt]; exact Bool.false_ne_true)]
      exact h _ _ hw hK
theorem wpAny_st {Q : Act → Prop} {Q' : Exit → Act → World → Prop} (hQ : ∀ a w, I w → Q a → Q' .normal a w) : ∀ (fuel : Nat) (listed : Array Bool) (a : Act) (w : World), I w →
    anySt P md ops I Q fuel listed a → wpAny P md ops Q' fuel listed a w
  | 0, _, _, _, hw, h => ⟨h.1, hQ _ _ hw h.2⟩
  | fuel + 1, _, _, _, hw, h => ⟨fun h0 => hQ _ _ hw (h.1 h0), fun i hi => wpOp_stI hw (fun a' w' hw' => wpAny_st hQ fuel _ a' w' hw') (h.2 i hi)⟩
theorem stI_at {i : Nat} {o : Oper} {v : Value} {a : Act} (hi : ops[i]? = some o) (hy : StV P ops I o v a) {K : Act → Prop} (h : K (a.put o.dst v)) : stI P ops I i K a := by
  unfold stI
  simp only [hi]
  exact ⟨v, hy, h⟩
theorem stI_put {j : Nat} {oi oj : Oper} {v : Value} (hj : ops[j]? = some oj) (hap : oi.apart ops oj = true) (hsi : ∀ cs b, oi.op ≠ .select cs b) (hsj : ∀ cs b, oj.op ≠ .select cs b) {K : Act → Prop} {a : Act}
    (hy : StV P ops I oi v a) (h : stI P ops I j K (a.put oi.dst v)) : stI P ops I j (fun a' => StV P ops I oi v a' ∧ K (a'.put oi.dst v)) a := by
  obtain ⟨h1, h2, h3⟩ := Oper.apart_spec hap
  unfold stI at *
  simp only [hj] at *
  obtain ⟨u, hu, hK⟩ := h
  refine ⟨u, ?_, hy.same (execOp_put oi hsi a oj.dst u h3) (wanted_put oi a oj.dst u h3), ?_⟩
  · exact hu.same (execOp_put oj hsj a oi.dst v h1).symm (wanted_put oj a oi.dst v h1).symm
  · rw [← Act.put_comm a v u h2]; exact hK
theorem anySt_first {Q : Act → Prop} {i : Nat} {oi : Oper} {v : Value} (hi : ops[i]? = some oi) (hsel : ∀ (j : Nat) (o : Oper) cs b, ops[j]? = some o → o.op ≠ .select cs b) :
    ∀ (fuel : Nat) (listed : Array Bool) (a : Act),
      (∀ j oj, ops[j]? = some oj → j ≠ i → listed.getD j true = false → (∀ e ∈ oj.after, Region.binds md e = true → e.on ≠ i) → oi.apart ops oj = true) →
      i ∈ Region.ready md ops listed → StV P ops I oi v a →
      anySt P md ops I Q fuel (listed.setIfInBounds i true) (a.put oi.dst v) → anySt P md ops I Q (fuel + 1) listed a := by
  intro fuel
  induction fuel with
  | zero =>
    intro listed a _ hr hy H
    refine ⟨fun h => (by rw [h] at hr; cases hr), fun j hj => ?_⟩
    by_cases hji : j = i
    · subst hji; exact stI_at hi hy H
    · have := ready_mono hj hji
      rw [H.1] at this
      cases this
  | succ fuel ih =>
    intro listed a hfree hr hy H
    refine ⟨fun h => (by rw [h] at hr; cases hr), fun j hj => ?_⟩
    by_cases hji : j = i
    · subst hji; exact stI_at hi hy H
    · have h1 := H.2 j (ready_mono hj hji)
      obtain ⟨hjun, oj, hoj, hall⟩ := mem_ready.1 hj
      have hnot : ∀ e ∈ oj.after, Region.binds md e = true → e.on ≠ i := fun e he hb heq => by
        have g1 := hall e he hb
        have g0 := (mem_ready.1 hr).1
        rw [heq] at g1
        rcases Nat.lt_or_ge i listed.size with h' | h'
        · simp [h'] at g0 g1; rw [g0] at g1; cases g1
        · simp [Array.getElem?_eq_none h'] at g1
      have h2 := stI_put hoj (hfree j oj hoj hji hjun hnot) (fun cs b => hsel i oi cs b hi) (fun cs b => hsel j oj cs b hoj) hy h1
      have hfree' : ∀ k ok, ops[k]? = some ok → k ≠ i → (listed.setIfInBounds j true).getD k true = false →
          (∀ e ∈ ok.after, Region.binds md e = true → e.on ≠ i) → oi.apart ops ok = true := fun k ok hk hki hun hno => by
        refine hfree k ok hk hki ?_ hno
        by_cases hjk : j = k
        · subst hjk; exact hjun
        · rw [getD_set_ne true hjk] at hun; exact hun
      refine h2.mono fun a' h3 => ih (listed.setIfInBounds j true) a' hfree' (ready_mono hr (Ne.symm hji)) h3.1 ?_
      rw [Array.setIfInBounds_comm _ _ hji]
      exact h3.2
theorem anySt_lex {Q : Act → Prop} (hs : Region.noSelect ops = true) : ∀ (l : List Oper) (k : Nat) (listed : Array Bool) (a : Act), (∀ j, l[j]? = ops[k + j]?) →
    Region.lexFrom md ops l.length k listed = true → wpSt P ops I Q l a → anySt P md ops I Q l.length listed a
  | [], _, _, _, _, hB, h => ⟨by simpa [Region.lexFrom] using hB, h⟩
  | o :: l, k, listed, a, hl, hB, h => by
    have h0 : ops[k]? = some o := by simpa using (hl 0).symm
    simp only [List.length_cons, Region.lexFrom, Bool.and_eq_true] at hB
    obtain ⟨⟨hr, hf⟩, hB'⟩ := hB
    obtain ⟨v, hy, hK⟩ := h
    exact anySt_first h0 (Region.noSelect_spec hs) l.length listed a (Region.free_spec h0 hf) (by simpa using hr) hy
      (anySt_lex hs l (k + 1) _ _ (fun j => by have := hl (j + 1); simpa [Nat.add_assoc, Nat.add_comm 1 j] using this) hB' hK)
theorem wp_steady {id : Nat} {Q : Exit → Act → World → Prop} {a : Act} {w : World} {l : List Oper} (I : World → Prop) (hm : P.follows .mixedOrders = true) (hB : Region.lexB .any l.toArray = true) (hI : I w.drew)
    (h : wpSt P l.toArray I (fun a' => ∀ w', I w' → Q .normal a' w') l a) : (Code.region id l.toArray true).wp P Q a w := by
  simp only [Region.lexB, Bool.and_eq_true] at hB
  refine wp_region_any hm (wpAny_st (I := I) (Q := fun a' => ∀ w', I w' → Q .normal a' w') (fun a w hw h => h w hw) _ _ _ _ hI ?_)
  have := anySt_lex (md := .any) (P := P) (I := I) hB.1 l 0 (Array.replicate l.toArray.size false) a (by simp) (by simpa using hB.2) h
  simpa using this
theorem wpSt_nil {Q : Act → Prop} {a : Act} (h : Q a) : wpSt P ops I Q [] a := h
/-- One operation: it is passed over, or it gives v. -/
theorem wpSt_step {Q : Act → Prop} {a : Act} {o : Oper} {rest : List Oper}
    (h : ∀ K : Act → Prop, (∀ a, wpSt P ops I Q rest a → K a) → if Region.wanted o (yielded ops a.tmps) = true then ∃ v, (∀ w, I w → OpAt P I o a v w) ∧ K (a.put o.dst v) else K (a.put o.dst undef)) : wpSt P ops I Q (o :: rest) a := by
  have h := h _ (fun _ h => h)
  by_cases hw : Region.wanted o (yielded ops a.tmps) = true
  · rw [if_pos hw] at h
    obtain ⟨v, h1, h2⟩ := h
    exact ⟨v, .inl ⟨hw, h1⟩, h2⟩
  · rw [if_neg hw] at h
    exact ⟨undef, .inr ⟨by simpa using hw, rfl⟩, h⟩
theorem wpSt_skip {Q : Act → Prop} {a : Act} {o : Oper} {rest : List Oper} (hw : Region.wanted o (yielded ops a.tmps) = false) (h : wpSt P ops I Q rest (a.put o.dst undef)) : wpSt P ops I Q (o :: rest) a := ⟨undef, .inr ⟨hw, rfl⟩, h⟩
theorem wpSt_do {Q : Act → Prop} {a : Act} {o : Oper} {rest : List Oper} (hw : Region.wanted o (yielded ops a.tmps) = true) (v : Value) (h1 : ∀ w, I w → OpAt P I o a v w) (h : wpSt P ops I Q rest (a.put o.dst v)) : wpSt P ops I Q (o :: rest) a := ⟨v, .inl ⟨hw, h1⟩, h⟩
end

end Go.Proofs.YtgflflpeilfinaaDoor
