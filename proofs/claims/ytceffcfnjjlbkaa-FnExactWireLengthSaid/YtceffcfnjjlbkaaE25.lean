/- The evaluator, 25: what it says of code is what the machine does. -/
import Derived.Test.YtceffcfnjjlbkaaE24
import Derived.Laws.Cover3
namespace Go.Proofs.Ytceffcfnjjlbkaa.E
open Go.RowKit
set_option linter.unusedVariables false
set_option linter.unusedSimpArgs false
section
variable {P : Program} {Γ : Nat → Option Sig} {M : Nat → Prop} {wE : World} {C : Cx} {st : St} {a : Act} {R : Type} {r : R}
/-! ### a region in the text's order -/
def QN (N : Act → World → Prop) : Exit → Act → World → Prop
  | .normal, a, w => N a w
  | _, _, _ => False
theorem Rel.know (hR : Rel P M wE C st a) {d : Nat} {b : Bool} (hd : st.tm[d]? = some (.c (.bool b))) : Rel P M wE C (st.know d b) a := by
  refine ⟨hR.inv, by simp [St.know]; exact hR.sz, fun i tv hi => ?_, hR.df⟩
  by_cases h : d = i
  · subst h
    have hlt : d < st.tm.length := (List.getElem?_eq_some_iff.1 hd).1
    simp only [St.know] at hi
    rw [List.getElem?_set_self hlt] at hi
    injection hi with hi
    subst hi
    exact hR.tm d _ hd
  · simp only [St.know] at hi
    rw [List.getElem?_set_ne h] at hi
    exact hR.tm i tv hi
theorem sees_all (st : St) : Sees (tget st.tm) (lget st.loc) st := ⟨fun t v h => by rw [← tget_eq]; exact h, fun b lb h => h⟩
theorem eq_nil_run {o : Oper} {op : BinOp} {E e : Nat} {x y : Operand} {yt : TypeId} (hop : o.op = .binOp op E x y yt) (hb : op = .eql ∨ op = .neq) (hu : P.underlying E = some (.slice e)) {A : Option Addr} {n c : Nat} (hx : a.eval x = .slice A n c) (hy : a.eval y = .slice none 0 0) (w : World) :
    (execOp a.eval o).run P w = .ok (.value (.bool (if op = .eql then A.isNone else !A.isNone))) w := by
  unfold execOp
  rcases hb with rfl | rfl
  · simp only [hop, hx, hy]
    simp [Sem.run_bind, eqGuard, binOp, run_equal_slice_nil w E e A n c hu, Sem.run_pure]
  · simp only [hop, hx, hy]
    simp [Sem.run_bind, eqGuard, binOp, run_equal_slice_nil w E e A n c hu, Sem.run_pure]
theorem lenOf_ok (hR : Rel P M wE C st a) {c : CV} {n : Nat} (h : lenOf (lget st.loc) c = some n) {v : Value} (hv : RC P C st.loc c v) : ∃ A m cap, v = .slice A m cap ∧ (n ≠ 0 → A.isNone = false) := by
  have rd : ∀ {S : Nat → Prop} {e : Nat} {t : Ty} {xs : List t.den} {u : Value}, Rd S C.w (.sl e t) xs [u] → ∃ A m cap, u = .slice A m cap ∧ (xs.length ≠ 0 → A.isNone = false) := fun {S e t xs u} hr => by
    obtain ⟨A, cap, he, _, h3⟩ := hr
    injection he with he _
    refine ⟨A, _, cap, he, fun hne => ?_⟩
    obtain ⟨ad, rfl, _⟩ := h3 (fun hx => hne (by rw [hx]; rfl))
    rfl
  unfold lenOf at h
  split at h
  · injection h with h
    subst h
    exact rd hv
  · rename_i b
    obtain ⟨lb, hlb, ⟨A, m, cap, rfl⟩, hal⟩ := hv
    split at h
    · rename_i d ep e t xs hb
      injection h with h
      subst h
      rw [hb] at hlb
      injection hlb with hlb
      subst hlb
      rw [hal rfl]
      exact rd (row_rd (e' := 0) hR.inv hb)
    · rename_i e t xs hb
      injection h with h
      subst h
      rw [hb] at hlb
      injection hlb with hlb
      subst hlb
      rw [hal rfl]
      exact rd (hR.inv.ok _ _ hb)
    · cases h
  · cases h
theorem evOne_ok {R : Type} {nid : Nat} {o : Oper} {K : Eff → Option R} {r : R} (hΓ : ∀ g s, Γ g = some s → FnOk P g s) (hR : Rel P M wE C st a) (hfr : ∀ j, j < 64 → lget st.loc (64 * nid + j) = none) (h : evOne P Γ (tget st.tm) (lget st.loc) nid o K = some r) :
    ∃ eff, K eff = some r ∧ Does P M wE C st a o eff := by
  have hs := sees_all st
  unfold evOne at h
  split at h
  · rename_i pos n sure hnt
    unfold nilTest at hnt
    split at hnt
    · rename_i op E x y yt hop
      split at hnt
      · rename_i c hx hy
        have hxv : RC P C st.loc c (a.eval x) := evO_ok hR hs hx
        have hyv : a.eval y = .slice none 0 0 := evO_ok hR hs hy
        split at hnt
        · rename_i hsl
          obtain ⟨e, hu⟩ := isSliceT_ok hsl
          -- what the machine says
          have does : ∀ {A : Option Addr} {m cap : Nat}, a.eval x = .slice A m cap → (op = .eql ∨ op = .neq) → Does P M wE C st a o ⟨.c (.bool (if op = .eql then A.isNone else !A.isNone)), []⟩ := fun {A m cap} hxe hb => Does.val hR (eq_nil_run hop hb hu hxe hyv C.w) rfl
          have fin : ∀ (b : Bool), (op = .eql ∨ op = .neq) → (op = .eql → pos = true) → (op = .neq → pos = false) → (isNilC c = true ∧ sure = true ∨ isNilC c = false ∧ sure = false ∧ lenOf (lget st.loc) c = some n) → ∃ eff, K eff = some r ∧ Does P M wE C st a o eff := fun b hb hp1 hp2 hcase => by
            rcases hcase with ⟨hc, rfl⟩ | ⟨hc, rfl, hlen⟩
            · have hc : c = .nil := by cases c <;> first | rfl | cases hc
              subst hc
              have hxe : a.eval x = .slice none 0 0 := hxv
              have hd := does hxe hb
              rw [if_pos rfl] at h
              refine ⟨_, h, ?_⟩
              rcases hb with rfl | rfl
              · rw [hp1 rfl]; simpa using hd
              · rw [hp2 rfl]; simpa using hd
            · obtain ⟨A, m, cap, hxe, hA⟩ := lenOf_ok hR hlen hxv
              have hd := does hxe hb
              rw [if_neg (by simp)] at h
              have hval : (if op = .eql then A.isNone else !A.isNone) = (if A.isNone = true then pos else !pos) := by
                rcases hb with rfl | rfl
                · rw [hp1 rfl]; cases A <;> simp
                · rw [hp2 rfl]; cases A <;> simp
              rw [hval] at hd
              by_cases hn : n = 0
              · rw [if_pos hn] at h
                obtain ⟨h1, h2⟩ := both_some h
                cases hAn : A.isNone with
                | true => rw [hAn] at hd; exact ⟨_, h1, by simpa using hd⟩
                | false => rw [hAn] at hd; exact ⟨_, h2, by simpa using hd⟩
              · rw [if_neg hn] at h
                rw [hA hn] at hd
                exact ⟨_, h, by simpa using hd⟩
          split at hnt
          · split at hnt
            · rename_i hc
              simp only [Option.some.injEq, Prod.mk.injEq] at hnt
              obtain ⟨rfl, rfl, rfl⟩ := hnt
              exact fin true (.inl rfl) (fun _ => rfl) (fun hq => by cases hq) (.inl ⟨hc, rfl⟩)
            · rename_i hc
              split at hnt
              · rename_i n' hn
                simp only [Option.some.injEq, Prod.mk.injEq] at hnt
                obtain ⟨rfl, rfl, rfl⟩ := hnt
                exact fin true (.inl rfl) (fun _ => rfl) (fun hq => by cases hq) (.inr ⟨by simpa using hc, rfl, hn⟩)
              · cases hnt
          · split at hnt
            · rename_i hc
              simp only [Option.some.injEq, Prod.mk.injEq] at hnt
              obtain ⟨rfl, rfl, rfl⟩ := hnt
              exact fin true (.inr rfl) (fun hq => by cases hq) (fun _ => rfl) (.inl ⟨hc, rfl⟩)
            · rename_i hc
              split at hnt
              · rename_i n' hn
                simp only [Option.some.injEq, Prod.mk.injEq] at hnt
                obtain ⟨rfl, rfl, rfl⟩ := hnt
                exact fin true (.inr rfl) (fun hq => by cases hq) (fun _ => rfl) (.inr ⟨by simpa using hc, rfl, hn⟩)
              · cases hnt
          · cases hnt
        · cases hnt
      · cases hnt
    · cases hnt
  · exact evEff_ok hΓ hR hs hfr h
theorem evOps_ok {Pz : Cx → Loc → Prop} (hPz : Carries Pz) (hΓ : ∀ g s, Γ g = some s → FnOk P g s) {rid : Nat} {ops : Array Oper} {K : St → Option R} {N : Act → World → Prop} : ∀ {l : List Nat} {st : St} {C : Cx} {a : Act}, Pz C st.loc → Rel P M wE C st a → evOps P Γ rid ops l st K = some r →
    (∀ C' st' a', Pz C' st'.loc → Rel P M wE C' st' a' → K st' = some r → N a' C'.w) → wpOps P ops (QN N) l a C.w
  | [], st, C, a, hp, hR, h, hK => hK C st a hp hR h
  | i :: l, st, C, a, hp, hR, h, hK => by
    simp only [evOps] at h
    split at h
    · rename_i o ho
      simp only [wpOps, ho]
      have put : ∀ (st : St) (d : Option Nat), (st.put d (.c .un)).loc = st.loc := fun st d => by cases d <;> rfl
      have go : ∀ (st : St), Pz C st.loc → Rel P M wE C st a → (if freshB (nidOf rid i o) st.loc = true then evOne P Γ (tget st.tm) (lget st.loc) (nidOf rid i o) o (fun e => evOps P Γ rid ops l (st.apply o.dst e) K) else none) = some r →
          Region.wanted o (yielded ops a.tmps) = true → (if Region.wanted o (yielded ops a.tmps) = true then o.wp P a C.w (wpOps P ops (QN N) l) (QN N) ∨ (o.asks P a C.w ∧ LetsOut (QN N)) else wpOps P ops (QN N) l (a.put o.dst undef) C.w) := fun st hp hR h hw => by
        split at h
        · rename_i hf
          obtain ⟨eff, he, hd⟩ := evOne_ok hΓ hR (freshB_ok hf) h
          rw [if_pos hw]
          exact .inl (hd _ _ fun C' a' hE hR' => evOps_ok hPz hΓ (hPz _ _ _ _ hp hE) hR' he hK)
        · cases h
      have skip : ∀ (st : St), Pz C st.loc → Rel P M wE C st a → evOps P Γ rid ops l (st.put o.dst (.c .un)) K = some r → Region.wanted o (yielded ops a.tmps) = false →
          (if Region.wanted o (yielded ops a.tmps) = true then o.wp P a C.w (wpOps P ops (QN N) l) (QN N) ∨ (o.asks P a C.w ∧ LetsOut (QN N)) else wpOps P ops (QN N) l (a.put o.dst undef) C.w) := fun st hp hR h hw => by
        rw [if_neg (by rw [hw]; simp)]
        exact evOps_ok hPz hΓ (by rw [put]; exact hp) (hR.un _ _) h hK
      split at h
      · rename_i hg
        exact go st hp hR h (by simp [Region.wanted, hg])
      · rename_i j want hg
        split at h
        · rename_i d hd
          split at h
          · rename_i b hb
            rw [tget_eq] at hb
            have hy := yielded_ok hR hd hb
            split at h
            · rename_i hbt
              subst hbt
              split at h
              · rename_i hwt
                exact go (st.know d true) hp (hR.know hb) h (by simp [Region.wanted, hg, hy, hwt])
              · rename_i hwt
                exact skip (st.know d true) hp (hR.know hb) h (by simp only [Region.wanted, hg, hy]; cases want <;> simp_all)
            · rename_i hbt
              have hbf : b = false := by simpa using hbt
              subst hbf
              split at h
              · rename_i hwt
                exact skip (st.know d false) hp (hR.know hb) h (by simp [Region.wanted, hg, hy, hwt])
              · rename_i hwt
                exact go (st.know d false) hp (hR.know hb) h (by simp only [Region.wanted, hg, hy]; cases want <;> simp_all)
          · cases h
        · cases h
    · cases h

/-! ### a list of things to do -/
def Goes (P : Program) (f : Nat) (Rt : Ending → World → Prop) (todo : List Item) (a : Act) (w : World) : Prop :=
  ∀ (b : Frame) (cs : List Frame), b.fn = f → b.kind = .normal → ∃ e w' fr, Rt e w' ∧ Comes P (lone (b.at a todo) cs w) (lone fr cs w') e ∧ fr.fn = f ∧ fr.leaving P w' e
variable {f : Nat} {Rt : Ending → World → Prop} {w : World}
theorem Goes.step {todo todo' : List Item} {a' : Act} {w' : World} (h : ∀ (b : Frame) cs, step P (lone (b.at a todo) cs w) = .next (lone (b.at a' todo') cs w')) (h' : Goes P f Rt todo' a' w') : Goes P f Rt todo a w := fun b cs hb hk =>
  let ⟨e, w1, fr, h1, h2, h3⟩ := h' b cs hb hk
  ⟨e, w1, fr, h1, Comes.of_steps (.one (h b cs)) h2, h3⟩
theorem Goes.region {id : Nat} {ops : Array Oper} {k : List Item} (h : wpOps P ops (QN (Goes P f Rt k)) (List.range ops.size) a w) : Goes P f Rt (.code (.region id ops false) :: k) a w := fun b cs hb hk => by
  obtain ⟨e, a', w', hq, harr⟩ := wp_ops _ a w h b k cs
  cases e with
  | normal =>
    obtain ⟨e, w1, fr, h1, h2, h3⟩ := hq b cs hb hk
    exact ⟨e, w1, fr, h1, Comes.of_steps (.head step_region harr) h2, h3⟩
  | _ => exact hq.elim
theorem Goes.draw {id : Nat} {ops : Array Oper} {k : List Item} (h : (Code.region id ops true).wp P (QN (Goes P f Rt k)) a w) : Goes P f Rt (.code (.region id ops true) :: k) a w := fun b cs hb hk => by
  obtain ⟨e, a', w', hq, harr⟩ := h b k cs
  cases e with
  | normal =>
    obtain ⟨e, w1, fr, h1, h2, h3⟩ := hq b cs hb hk
    exact ⟨e, w1, fr, h1, Comes.of_steps harr h2, h3⟩
  | _ => exact hq.elim
/-- What the end of a function has to show. -/
def Ends (P : Program) (fn : Func) (Rt : Ending → World → Prop) (a : Act) (w : World) : Prop := a.defers = [] ∧ ∃ v, (results fn a.tmps).run P w = .ok v w ∧ Rt (.returned v) w
theorem Goes.ret {fn : Func} (hf : P.funcs[f]? = some fn) {k : List Item} (h : Ends P fn Rt a w) : Goes P f Rt (.code .ret :: k) a w := fun b cs hb hk => by
  obtain ⟨hd, v, hr, hR⟩ := h
  exact ⟨.returned v, w, _, hR, Steps.one step_ret, hb, rfl, hd, hk, fn, by show P.funcs[b.fn]? = _; rw [hb]; exact hf, hr⟩
theorem Goes.nil {fn : Func} (hf : P.funcs[f]? = some fn) (h : Ends P fn Rt a w) : Goes P f Rt [] a w := fun b cs hb hk => by
  obtain ⟨hd, v, hr, hR⟩ := h
  exact ⟨.returned v, w, _, hR, Steps.one step_end, hb, rfl, hd, hk, fn, by show P.funcs[b.fn]? = _; rw [hb]; exact hf, hr⟩
theorem seg_ok {Pz : Cx → Loc → Prop} (hPz : Carries Pz) (hΓ : ∀ g s, Γ g = some s → FnOk P g s) {fn : Func} (hf : P.funcs[f]? = some fn) {fi : St → Option R} {cut : Nat → Bool} {lp : List Item → St → Option R}
    (hfin : ∀ C st a, Pz C st.loc → Rel P M wE C st a → fi st = some r → Ends P fn Rt a C.w)
    (hlp : ∀ C st a todo, Pz C st.loc → Rel P M wE C st a → lp todo st = some r → Goes P f Rt (arr todo) a C.w) : ∀ (n : Nat) (fl : Bool) (todo : List Item) (st : St) (C : Cx) (a : Act), Pz C st.loc → Rel P M wE C st a → segr P Γ fi cut lp n fl todo st = some r → Goes P f Rt todo a C.w := by
  intro n
  induction n with
  | zero => intro fl todo st C a hp hR h; simp [segr] at h
  | succ n ih =>
    intro fl todo st C a hp hR h
    match todo with
    | [] => exact Goes.nil hf (hfin C st a hp hR (by simpa [segr] using h))
    | .inBlock id :: k => exact Goes.step (fun _ _ => step_inBlock) (ih fl k st C a hp hR (by simpa [segr] using h))
    | .inLoop c :: k => exact Goes.step (fun _ _ => step_inLoop) (hlp C st a (.inLoop c :: k) hp hR (by simpa [segr] using h))
    | .code c :: k =>
      cases c with
      | skip => exact Goes.step (fun _ _ => step_skip) (ih fl k st C a hp hR (by simpa [segr] using h))
      | seq x y => exact Goes.step (fun _ _ => step_seq) (ih fl _ st C a hp hR (by simpa [segr] using h))
      | block id c => exact Goes.step (fun _ _ => step_block) (ih fl _ st C a hp hR (by simpa [segr] using h))
      | loop c => exact Goes.step (fun _ _ => step_loop) (hlp C st a (.inLoop c :: k) hp hR (by simpa [segr] using h))
      | ret => exact Goes.ret hf (hfin C st a hp hR (by simpa [segr] using h))
      | exit id =>
        simp only [segr] at h
        split at h
        · rename_i k' hk'
          exact Goes.step (fun _ _ => step_exit hk') (ih false k' st C a hp hR h)
        · cases h
      | cond x c1 c2 =>
        simp only [segr] at h
        split at h
        · rename_i t hx
          have he : a.eval x = .bool t := evO_ok hR (sees_all st) hx
          have hkn : Rel P M wE C (knowO st x t) a ∧ (knowO st x t).loc = st.loc := by
            cases x with
            | tmp d => exact ⟨hR.know (by rw [← tget_eq]; exact hx), rfl⟩
            | _ => exact ⟨hR, rfl⟩
          split at h
          · rename_i ht
            subst ht
            exact Goes.step (fun _ _ => by rw [step_cond he]; rfl) (ih false _ _ C a (by rw [hkn.2]; exact hp) hkn.1 h)
          · rename_i ht
            have ht : t = false := by simpa using ht
            subst ht
            exact Goes.step (fun _ _ => by rw [step_cond he]; rfl) (ih false _ _ C a (by rw [hkn.2]; exact hp) hkn.1 h)
        · cases h
      | region id ops draw =>
        simp only [segr] at h
        split at h
        · exact hlp C st a (.code (.region id ops draw) :: k) hp hR h
        · split at h
          · rename_i hd
            subst hd
            split at h
            · rename_i hm
              obtain ⟨acc, S, ht, hlen, hK⟩ := evDraw_text (Text.nil (P := P) (Γ := Γ) (ops := ops) (st0 := st)) (fun j => by
                simp only [List.length_nil, Nat.zero_add]
                split
                · rw [List.getElem?_range (by assumption)]
                · exact List.getElem?_eq_none (by rw [List.length_range]; omega)) h
              refine Goes.draw (wp_region_any hm ?_)
              have hb : Below C.w.heap.size C.w { C.w with drawn := C.w.drawn + 1 } := ⟨rfl, rfl, rfl, Nat.le_refl _, fun _ _ => rfl⟩
              have hst := Steps.move hR.inv hb
              have hR1 := hR.step (eff := ⟨.c .un, []⟩) (d := none) (v := undef) hst (fun b lb h => by cases h) trivial
              have hp1 := hPz _ _ _ _ hp (hst.ext hR.inv)
              refine draw_any hPz hΓ ht (hlen (by simp)) (N := Goes P f Rt k) (fun a w h => h) (fun C' a' hz' hR' => ih false k S C' a' hz' hR' hK) ops.size (Array.replicate ops.size false) { C with w := { C.w with drawn := C.w.drawn + 1 } } st a (by simp) ?_ ?_ hp1 hR1 ?_
              · rw [Array.toList_replicate, List.count_replicate]
                simp
              · intro y hy hd k hk
                exfalso
                have := (ht.idx.1 y hy)
                revert hd
                simp [Array.getD]
              · rw [app_congr (D' := fun _ => false) (fun x hx => by simp [Array.getD])]
                have : ∀ l : List Done, app st (fun _ => false) l = st := fun l => by
                  induction l with
                  | nil => rfl
                  | cons x l ih => simp only [app, Bool.false_eq_true, if_false]; exact ih
                rw [this]
                exact Sim.refl _
            · cases h
          · rename_i hd
            have hd : draw = false := by simpa using hd
            subst hd
            exact Goes.region (evOps_ok hPz hΓ hp hR h fun C' st' a' hp' hR' hk => ih false k st' C' a' hp' hR' hk)
      | _ => simp [segr] at h
    | .inScope _ :: _ | .inRegion _ _ :: _ | .inRangeFunc _ :: _ | .endRangeFunc _ :: _ => simp [segr] at h
end
end Go.Proofs.Ytceffcfnjjlbkaa.E
