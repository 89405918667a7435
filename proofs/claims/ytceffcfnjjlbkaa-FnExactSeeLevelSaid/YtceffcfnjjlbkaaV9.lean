/- A typed evaluator for loaded code, 10: a region's operations, code, a whole function. -/
import Derived.Test.YtceffcfnjjlbkaaV8
namespace Go.Proofs.Ytceffcfnjjlbkaa.V
open Go.RowKit Go.Proofs.YtceffcfnjjlbkaaW.PrintWords Go.Proofs.YtceffcfnjjlbkaaW.PrintLast Go.Proofs.YtceffcfnjjlbkaaW.PrintMore
set_option linter.unusedVariables false
set_option linter.unusedSimpArgs false
section
variable {P : Program} {Γ : Nat → Option Sig} {B : Nat} {wE : World} {C : Cx} {st : St} {a : Act} {R : Type} {r : R}

/-! ### a region in the text's order -/
def QN (N : Act → World → Prop) : Exit → Act → World → Prop
  | .normal, a, w => N a w
  | _, _, _ => False
theorem Rel.know (hR : Rel B wE C st a) {d : Nat} {b : Bool} (hd : st.tm[d]? = some (.c (.bool b))) : Rel B wE C (st.know d b) a := by
  refine ⟨hR.inv, by simp [St.know]; exact hR.sz, fun i tv hi => ?_, hR.df⟩
  by_cases h : d = i
  · subst h
    have hlt : d < st.tm.length := (List.getElem?_eq_some_iff.1 hd).1
    simp only [St.know] at hi
    rw [List.getElem?_set_self hlt] at hi
    injection hi with hi
    subst hi
    exact hR.tm d _ hd
  · simp only [St.know] at hi
    rw [List.getElem?_set_ne h] at hi
    exact hR.tm i tv hi
theorem yielded_ok (hR : Rel B wE C st a) {ops : Array Oper} {j d : Nat} {b : Bool} (hj : (ops[j]?).bind (·.dst) = some d) (hd : st.tm[d]? = some (.c (.bool b))) : yielded ops a.tmps j = some b := by
  have hv : a.tmps.getD d undef = .bool b := hR.tm d _ hd
  have hlt : d < a.tmps.size := by rw [hR.sz]; exact (List.getElem?_eq_some_iff.1 hd).1
  have : a.tmps[d]? = some (.bool b) := by
    rw [Array.getElem?_eq_getElem hlt]
    simp [Array.getD, hlt] at hv
    rw [hv]
  simp [yielded, hj, this]
theorem evOps_ok (hΓ : ∀ g s, Γ g = some s → FnOk P g s) {ops : Array Oper} {K : St → Option R} {N : Act → World → Prop} : ∀ {l : List Nat} {st : St} {C : Cx} {a : Act}, Rel B wE C st a → evOps P Γ ops l st K = some r →
    (∀ C' st' a', Rel B wE C' st' a' → K st' = some r → N a' C'.w) → wpOps P ops (QN N) l a C.w
  | [], st, C, a, hR, h, hK => hK C st a hR h
  | i :: l, st, C, a, hR, h, hK => by
    simp only [evOps] at h
    split at h
    · rename_i o ho
      simp only [wpOps, ho]
      split at h
      · rename_i hg
        have hw : Region.wanted o (yielded ops a.tmps) = true := by simp [Region.wanted, hg]
        rw [if_pos hw]
        exact .inl (evOp_ok hΓ hR h fun C' st' a' _ hR' hk => evOps_ok hΓ hR' hk hK)
      · rename_i j want hg
        split at h
        · rename_i d hd
          split at h
          · rename_i b hb
            have hy := yielded_ok hR hd hb
            split at h
            · rename_i hbt
              subst hbt
              split at h
              · have hw : Region.wanted o (yielded ops a.tmps) = true := by simp [Region.wanted, hg, hy]
                rw [if_pos hw]
                exact .inl (evOp_ok hΓ (hR.know hb) h fun C' st' a' _ hR' hk => evOps_ok hΓ hR' hk hK)
              · have hw : ¬ Region.wanted o (yielded ops a.tmps) = true := by simp [Region.wanted, hg, hy]
                rw [if_neg hw]
                exact evOps_ok hΓ ((hR.know hb).un _ _) h hK
            · rename_i hbt
              have hbf : b = false := by simpa using hbt
              subst hbf
              split at h
              · have hw : ¬ Region.wanted o (yielded ops a.tmps) = true := by simp [Region.wanted, hg, hy]
                rw [if_neg hw]
                exact evOps_ok hΓ ((hR.know hb).un _ _) h hK
              · have hw : Region.wanted o (yielded ops a.tmps) = true := by simp [Region.wanted, hg, hy]
                rw [if_pos hw]
                exact .inl (evOp_ok hΓ (hR.know hb) h fun C' st' a' _ hR' hk => evOps_ok hΓ hR' hk hK)
          · cases h
        · cases h
    · cases h

/-! ### a list of things to do -/
def Goes (P : Program) (f : Nat) (Rt : Ending → World → Prop) (todo : List Item) (a : Act) (w : World) : Prop :=
  ∀ (b : Frame) (cs : List Frame), b.fn = f → b.kind = .normal → ∃ e w' fr, Rt e w' ∧ Comes P (lone (b.at a todo) cs w) (lone fr cs w') e ∧ fr.fn = f ∧ fr.leaving P w' e
variable {f : Nat} {Rt : Ending → World → Prop} {w : World}
theorem Goes.step {todo todo' : List Item} {a' : Act} {w' : World} (h : ∀ (b : Frame) cs, step P (lone (b.at a todo) cs w) = .next (lone (b.at a' todo') cs w')) (h' : Goes P f Rt todo' a' w') : Goes P f Rt todo a w := fun b cs hb hk =>
  let ⟨e, w1, fr, h1, h2, h3⟩ := h' b cs hb hk
  ⟨e, w1, fr, h1, Comes.of_steps (.one (h b cs)) h2, h3⟩
theorem Goes.region {id : Nat} {ops : Array Oper} {k : List Item} (h : wpOps P ops (QN (Goes P f Rt k)) (List.range ops.size) a w) : Goes P f Rt (.code (.region id ops false) :: k) a w := fun b cs hb hk => by
  obtain ⟨e, a', w', hq, harr⟩ := wp_ops _ a w h b k cs
  cases e with
  | normal =>
    obtain ⟨e, w1, fr, h1, h2, h3⟩ := hq b cs hb hk
    exact ⟨e, w1, fr, h1, Comes.of_steps (.head step_region harr) h2, h3⟩
  | _ => exact hq.elim
/-- What the end of a function has to show. -/
def Ends (P : Program) (fn : Func) (Rt : Ending → World → Prop) (a : Act) (w : World) : Prop := a.defers = [] ∧ ∃ v, (results fn a.tmps).run P w = .ok v w ∧ Rt (.returned v) w
theorem Goes.ret {fn : Func} (hf : P.funcs[f]? = some fn) {k : List Item} (h : Ends P fn Rt a w) : Goes P f Rt (.code .ret :: k) a w := fun b cs hb hk => by
  obtain ⟨hd, v, hr, hR⟩ := h
  exact ⟨.returned v, w, _, hR, Steps.one step_ret, hb, rfl, hd, hk, fn, by show P.funcs[b.fn]? = _; rw [hb]; exact hf, hr⟩
theorem Goes.nil {fn : Func} (hf : P.funcs[f]? = some fn) (h : Ends P fn Rt a w) : Goes P f Rt [] a w := fun b cs hb hk => by
  obtain ⟨hd, v, hr, hR⟩ := h
  exact ⟨.returned v, w, _, hR, Steps.one step_end, hb, rfl, hd, hk, fn, by show P.funcs[b.fn]? = _; rw [hb]; exact hf, hr⟩
theorem seg_ok (hΓ : ∀ g s, Γ g = some s → FnOk P g s) {fn : Func} (hf : P.funcs[f]? = some fn) {fi : St → Option R} {cut : Nat → Bool} {lp : List Item → St → Option R}
    (hfin : ∀ C st a, Rel B wE C st a → fi st = some r → Ends P fn Rt a C.w)
    (hlp : ∀ C st a todo, Rel B wE C st a → lp todo st = some r → Goes P f Rt (arr todo) a C.w) : ∀ (n : Nat) (fl : Bool) (todo : List Item) (st : St) (C : Cx) (a : Act), Rel B wE C st a → seg P Γ fi cut lp n fl todo st = some r → Goes P f Rt todo a C.w := by
  intro n
  induction n with
  | zero => intro fl todo st C a hR h; simp [seg] at h
  | succ n ih =>
    intro fl todo st C a hR h
    match todo with
    | [] => exact Goes.nil hf (hfin C st a hR (by simpa [seg] using h))
    | .inBlock id :: k => exact Goes.step (fun _ _ => step_inBlock) (ih fl k st C a hR (by simpa [seg] using h))
    | .inLoop c :: k => exact Goes.step (fun _ _ => step_inLoop) (hlp C st a (.inLoop c :: k) hR (by simpa [seg] using h))
    | .code c :: k =>
      cases c with
      | skip => exact Goes.step (fun _ _ => step_skip) (ih fl k st C a hR (by simpa [seg] using h))
      | seq x y => exact Goes.step (fun _ _ => step_seq) (ih fl _ st C a hR (by simpa [seg] using h))
      | block id c => exact Goes.step (fun _ _ => step_block) (ih fl _ st C a hR (by simpa [seg] using h))
      | loop c => exact Goes.step (fun _ _ => step_loop) (hlp C st a (.inLoop c :: k) hR (by simpa [seg] using h))
      | ret => exact Goes.ret hf (hfin C st a hR (by simpa [seg] using h))
      | exit id =>
        simp only [seg] at h
        split at h
        · rename_i k' hk'
          exact Goes.step (fun _ _ => step_exit hk') (ih false k' st C a hR h)
        · cases h
      | cond x c1 c2 =>
        simp only [seg] at h
        split at h
        · rename_i t hx
          have he : a.eval x = .bool t := evO_ok hR hx
          have hkn : Rel B wE C (knowO st x t) a := by
            cases x with
            | tmp d => exact hR.know hx
            | _ => exact hR
          split at h
          · rename_i ht
            subst ht
            exact Goes.step (fun _ _ => by rw [step_cond he]; rfl) (ih false _ _ C a hkn h)
          · rename_i ht
            have ht : t = false := by simpa using ht
            subst ht
            exact Goes.step (fun _ _ => by rw [step_cond he]; rfl) (ih false _ _ C a hkn h)
        · cases h
      | region id ops draw =>
        simp only [seg] at h
        split at h
        · exact hlp C st a (.code (.region id ops draw) :: k) hR h
        · split at h
          · cases h
          · rename_i hd
            have hd : draw = false := by simpa using hd
            subst hd
            exact Goes.region (evOps_ok hΓ hR h fun C' st' a' hR' hk => ih false k st' C' a' hR' hk)
      | _ => simp [seg] at h
    | .inScope _ :: _ | .inRegion _ _ :: _ | .inRangeFunc _ :: _ | .endRangeFunc _ :: _ => simp [seg] at h
end
end Go.Proofs.Ytceffcfnjjlbkaa.V
