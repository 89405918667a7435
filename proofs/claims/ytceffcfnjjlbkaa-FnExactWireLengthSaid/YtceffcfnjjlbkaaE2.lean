/- The evaluator, 2: a step of memory, and what the state says behind it. -/
import Derived.Test.YtceffcfnjjlbkaaE1
namespace Go.Proofs.Ytceffcfnjjlbkaa.E
open Go.RowKit
set_option linter.unusedVariables false
set_option linter.unusedSimpArgs false
def Lives (loc : Loc) (b : Nat) : Prop := ∃ lb, lget loc b = some lb ∧ lb.alive = true
def isIn (u : Loc) (b : Nat) : Prop := ∃ lb, lget u b = some lb
section
variable {P : Program} {M : Nat → Prop} {wE : World} {C C' : Cx} {st : St} {a : Act} {loc loc' : Loc}
theorem RLv_ext (hE : Ext C C' loc loc') {v : Value} {φ : Nat → Prop} {lb : LB} (hk : ∀ k, φ k → C'.w.heap[k]? = C.w.heap[k]?) (h : RLv P C loc v φ lb) : RLv P C' loc' v φ lb := by
  cases lb with
  | dead => trivial
  | cells T cs =>
    obtain ⟨g, vs, h1, h2, h3, h4⟩ := h
    exact ⟨g, vs, h1, blk_same h2 (hk g h3), h3, RCs_ext hE h4⟩
  | row d ep e t xs =>
    cases d with
    | true => exact Own.move hk h
    | false =>
      rcases h with h | ⟨g, o, c, cur, h1, h2, h3, h4, h5, h6, h7⟩
      · exact .inl h
      · exact .inr ⟨g, o, c, cur, h1, blk_same h2 (hk g h6), h3, h4, h5, h6, fun i x hx => Rd.mono hE.S hE.keep (h7 i x hx)⟩
  | sett e t xs => exact Rd.mono hE.S hE.keep h
  | arr T k n xs =>
    obtain ⟨h0, g, h1, h2, h3⟩ := h
    exact ⟨h0, g, h1, blk_same h2 (hk g h3), h3⟩
  | mp T ks =>
    obtain ⟨g, bs, cl, h1, h2, h3, h4⟩ := h
    exact ⟨g, bs, cl, h1, h2, (hk g h4).trans h3, h4⟩
theorem RL_ext (hE : Ext C C' loc loc') {b : Nat} {lb : LB} (hρ : C'.ρ b = C.ρ b) (hφ : C'.φ b = C.φ b) (hk : ∀ k, C.φ b k → C'.w.heap[k]? = C.w.heap[k]?) (h : RL P C loc b lb) : RL P C' loc' b lb := by
  show RLv P C' loc' (C'.ρ b) (C'.φ b) lb
  rw [hρ, hφ]
  exact RLv_ext hE hk h
/-- What a step has to keep in mind: these names are new or were changed or are gone (upd); memory elsewhere is as it was. -/
structure Steps (C C' : Cx) (loc upd : Loc) : Prop where
  S0 : C'.S0 = C.S0
  size : C.w.heap.size ≤ C'.w.heap.size
  os : C'.w.os = C.w.os
  tape : C'.w.tape = C.w.tape
  output : C'.w.output = C.w.output
  keep : ∀ k, k < C.w.heap.size → (∀ b, isIn upd b → Lives loc b → ¬ C.φ b k) → C'.w.heap[k]? = C.w.heap[k]?
  S : ∀ k, C.S k → C'.S k
  S_new : ∀ k, C'.S k → C.S k ∨ (k < C'.w.heap.size ∧ (C.w.heap.size ≤ k ∨ ∃ b, isIn upd b ∧ Lives loc b ∧ C.φ b k))
  own : ∀ b lb, lget upd b = some lb → lb.alive = true → ∀ k, C'.φ b k → k < C'.w.heap.size ∧ ¬ C'.S k ∧ (C.w.heap.size ≤ k ∨ ∃ b0, isIn upd b0 ∧ Lives loc b0 ∧ C.φ b0 k)
  disj : ∀ b b' lb lb', b ≠ b' → lget upd b = some lb → lget upd b' = some lb' → lb.alive = true → lb'.alive = true → ∀ k, C'.φ b k → ¬ C'.φ b' k
  φ : ∀ b, ¬ isIn upd b → C'.φ b = C.φ b
  ρ : ∀ b lb, lget loc b = some lb → C'.ρ b = C.ρ b
  again : ∀ b lb, lget upd b = some lb → lb.alive = true → lget loc b = none ∨ ∃ lb0, lget loc b = some lb0 ∧ lb0.alive = true ∧ ∀ d' ep' e' t' (ys' : List (Ty.den t')), lb = .row d' ep' e' t' ys' → ∃ d ep e t, ∃ ys : List (Ty.den t), lb0 = .row d ep e t ys ∧ ep < ep'
theorem lget_upd {upd loc : Loc} {b : Nat} {lb : LB} (h : lget (upd ++ loc) b = some lb) : lget upd b = some lb ∨ (¬ isIn upd b ∧ lget loc b = some lb) := by
  rw [lget_append] at h
  cases hu : lget upd b with
  | some x => rw [hu] at h; exact .inl h
  | none =>
    rw [hu] at h
    exact .inr ⟨(fun ⟨x, hx⟩ => by rw [hu] at hx; cases hx), by simpa using h⟩
theorem lget_upd_in {upd loc : Loc} {b : Nat} {lb : LB} (h : lget upd b = some lb) : lget (upd ++ loc) b = some lb := by
  rw [lget_append, h]; rfl
theorem lget_upd_out {upd loc : Loc} {b : Nat} (h : ¬ isIn upd b) : lget (upd ++ loc) b = lget loc b := by
  rw [lget_append]
  cases hu : lget upd b with
  | some x => exact absurd ⟨x, hu⟩ h
  | none => rfl
theorem Steps.ext (hI : Inv P M wE C loc) {upd : Loc} (h : Steps C C' loc upd) : Ext C C' loc (upd ++ loc) := by
  refine ⟨h.size, fun k hk => h.keep k (hI.S_lt k hk) (fun b _ ⟨lb, h1, h2⟩ hφ => (hI.own b lb h1 h2 k hφ).2.1 hk), h.S, h.S0, fun b lb hb => ?_⟩
  by_cases hu : isIn upd b
  · obtain ⟨lb', hu'⟩ := hu
    refine ⟨lb', lget_upd_in hu', fun ha => ?_⟩
    rcases h.again b lb' hu' ha with h0 | ⟨lb0, h0, h1, h2⟩
    · rw [hb] at h0; cases h0
    · rw [hb] at h0
      injection h0 with h0
      subst h0
      exact ⟨h1, h.ρ b _ hb, fun d' ep' e' t' ys' he => by obtain ⟨d, ep, e, t, ys, q1, q2⟩ := h2 d' ep' e' t' ys' he; exact ⟨d, ep, e, t, ys, q1, .inl q2⟩⟩
  · refine ⟨lb, by rw [lget_upd_out hu]; exact hb, fun ha => ⟨ha, h.ρ b _ hb, fun d' ep' e' t' ys' he => ⟨d', ep', e', t', ys', he, .inr ⟨rfl, fun k hk => ?_, h.φ b hu⟩⟩⟩⟩
    exact h.keep k (hI.own b lb hb ha k hk).1 (fun b' hu' ⟨lb', h1, h2⟩ hφ => hI.disj b b' lb lb' (fun he => hu (he ▸ hu')) hb h1 ha h2 k hk hφ)
theorem Inv.step (hI : Inv P M wE C loc) {upd : Loc} (h : Steps C C' loc upd) (hok : ∀ b lb, lget upd b = some lb → RL P C' (upd ++ loc) b lb) : Inv P M wE C' (upd ++ loc) := by
  have hE := h.ext hI
  have old : ∀ k, (C.w.heap.size ≤ k ∨ ∃ b0, isIn upd b0 ∧ Lives loc b0 ∧ C.φ b0 k) → wE.heap.size ≤ k ∨ M k := fun k hk => by
    rcases hk with hk | ⟨b0, _, ⟨lb0, h1, h2⟩, h3⟩
    · exact .inl (Nat.le_trans hI.size hk)
    · exact (hI.own b0 lb0 h1 h2 k h3).2.2
  refine ⟨h.os.trans hI.os, h.tape.trans hI.tape, h.output.trans hI.output, Nat.le_trans hI.size h.size, fun k hk hM => ?_, fun k hk => ?_, fun k hk => ?_, fun b lb hb ha k hk => ?_, fun b lb hb => ?_, fun b b' lb lb' hne hb hb' ha ha' k hk hk' => ?_⟩
  · rw [h.keep k (Nat.lt_of_lt_of_le hk hI.size) (fun b _ ⟨lb, h1, h2⟩ hφ => by
      rcases (hI.own b lb h1 h2 k hφ).2.2 with h3 | h3
      · omega
      · exact hM h3)]
    exact hI.kept k hk hM
  · rcases h.S_new k hk with h1 | h1
    · exact Nat.lt_of_lt_of_le (hI.S_lt k h1) h.size
    · exact h1.1
  · rw [h.S0]
    rcases h.S_new k hk with h1 | h1
    · exact hI.old k h1
    · exact .inr (old k h1.2)
  · rcases lget_upd hb with hu | ⟨hu, hl⟩
    · obtain ⟨h1, h2, h3⟩ := h.own b lb hu ha k hk
      exact ⟨h1, h2, old k h3⟩
    · rw [h.φ b hu] at hk
      obtain ⟨h1, h2, h3⟩ := hI.own b lb hl ha k hk
      refine ⟨Nat.lt_of_lt_of_le h1 h.size, fun hs => ?_, h3⟩
      rcases h.S_new k hs with h4 | ⟨_, h4 | ⟨b0, h5, ⟨lb0, h6, h7⟩, h8⟩⟩
      · exact h2 h4
      · omega
      · exact hI.disj b b0 lb lb0 (fun he => hu (he ▸ h5)) hl h6 ha h7 k hk h8
  · rcases lget_upd hb with hu | ⟨hu, hl⟩
    · exact hok b lb hu
    · cases hal : lb.alive with
      | false => cases lb <;> first | trivial | cases hal
      | true =>
        exact RL_ext hE (h.ρ b lb hl) (h.φ b hu) (fun k hk => h.keep k (hI.own b lb hl hal k hk).1 (fun b' hu' ⟨lb', h1, h2⟩ hφ => hI.disj b b' lb lb' (fun he => hu (he ▸ hu')) hl h1 hal h2 k hk hφ)) (hI.ok b lb hl)
  · rcases lget_upd hb with hu | ⟨hu, hl⟩ <;> rcases lget_upd hb' with hu' | ⟨hu', hl'⟩
    · exact h.disj b b' lb lb' hne hu hu' ha ha' k hk hk'
    · rw [h.φ b' hu'] at hk'
      obtain ⟨h1, _, h3⟩ := hI.own b' lb' hl' ha' k hk'
      rcases (h.own b lb hu ha k hk).2.2 with h4 | ⟨b0, h5, ⟨lb0, h6, h7⟩, h8⟩
      · omega
      · exact hI.disj b' b0 lb' lb0 (fun he => hu' (he ▸ h5)) hl' h6 ha' h7 k hk' h8
    · rw [h.φ b hu] at hk
      obtain ⟨h1, _, h3⟩ := hI.own b lb hl ha k hk
      rcases (h.own b' lb' hu' ha' k hk').2.2 with h4 | ⟨b0, h5, ⟨lb0, h6, h7⟩, h8⟩
      · omega
      · exact hI.disj b b0 lb lb0 (fun he => hu (he ▸ h5)) hl h6 ha h7 k hk h8
    · rw [h.φ b hu] at hk
      rw [h.φ b' hu'] at hk'
      exact hI.disj b b' lb lb' hne hl hl' ha ha' k hk hk'

/-! ### entries: a name, its block, its value, its memory -/
structure Ent where
  b : Nat
  lb : LB
  v : Value
  φ : Nat → Prop
def eget : List Ent → Nat → Option Ent
  | [], _ => none
  | e :: l, b => if e.b = b then some e else eget l b
def ups (E : List Ent) : Loc := E.map fun e => (e.b, e.lb)
theorem eget_mem : ∀ {E : List Ent} {b : Nat} {e : Ent}, eget E b = some e → e ∈ E ∧ e.b = b
  | [], b, e, h => by cases h
  | e0 :: E, b, e, h => by
    simp only [eget] at h
    split at h
    · rename_i hb
      injection h with h
      subst h
      exact ⟨List.mem_cons_self .., hb⟩
    · obtain ⟨h1, h2⟩ := eget_mem h
      exact ⟨List.mem_cons_of_mem _ h1, h2⟩
theorem lget_ups : ∀ (E : List Ent) (b : Nat), lget (ups E) b = (eget E b).map (·.lb)
  | [], b => rfl
  | e :: E, b => by
    simp only [ups, List.map_cons, lget, eget]
    by_cases hb : e.b = b
    · rw [if_pos hb, show Nat.beq e.b b = true by rw [hb]; exact Nat.beq_refl b]
      rfl
    · rw [if_neg hb, show Nat.beq e.b b = false by
        cases h : Nat.beq e.b b with
        | false => rfl
        | true => exact absurd (Nat.eq_of_beq_eq_true h) hb]
      exact lget_ups E b
theorem eget_in : ∀ {E : List Ent} {e : Ent}, e ∈ E → ∃ e', eget E e.b = some e'
  | e0 :: E, e, h => by
    simp only [eget]
    split
    · exact ⟨_, rfl⟩
    · rename_i hb
      rcases List.mem_cons.1 h with rfl | h
      · exact absurd rfl hb
      · exact eget_in h
theorem isIn_ups {E : List Ent} {b : Nat} (h : isIn (ups E) b) : ∃ e, eget E b = some e := by
  obtain ⟨lb, h⟩ := h
  rw [lget_ups] at h
  obtain ⟨e, he, _⟩ := Option.map_eq_some_iff.1 h
  exact ⟨e, he⟩
theorem in_ups {E : List Ent} {e : Ent} (h : e ∈ E) : isIn (ups E) e.b := by
  obtain ⟨e', he⟩ := eget_in h
  exact ⟨e'.lb, by rw [lget_ups, he]; rfl⟩
def Cx.ents (C : Cx) (w' : World) (S' : Nat → Prop) (E : List Ent) : Cx :=
  { w := w', S := S', S0 := C.S0, ρ := fun b => match eget E b with | some e => e.v | none => C.ρ b, φ := fun b => match eget E b with | some e => e.φ | none => C.φ b }
theorem ents_at {w' : World} {S' : Nat → Prop} {E : List Ent} {b : Nat} {e : Ent} (h : eget E b = some e) : (C.ents w' S' E).ρ b = e.v ∧ (C.ents w' S' E).φ b = e.φ := by
  constructor
  · show (match eget E b with | some e => e.v | none => C.ρ b) = _
    rw [h]
  · show (match eget E b with | some e => e.φ | none => C.φ b) = _
    rw [h]
structure EntsOk (C : Cx) (loc : Loc) (w' : World) (S' : Nat → Prop) (E : List Ent) : Prop where
  size : C.w.heap.size ≤ w'.heap.size
  os : w'.os = C.w.os
  tape : w'.tape = C.w.tape
  output : w'.output = C.w.output
  keep : ∀ k, k < C.w.heap.size → (∀ e ∈ E, Lives loc e.b → ¬ C.φ e.b k) → w'.heap[k]? = C.w.heap[k]?
  S : ∀ k, C.S k → S' k
  S_new : ∀ k, S' k → C.S k ∨ (k < w'.heap.size ∧ (C.w.heap.size ≤ k ∨ ∃ e ∈ E, Lives loc e.b ∧ C.φ e.b k))
  own : ∀ e ∈ E, e.lb.alive = true → ∀ k, e.φ k → k < w'.heap.size ∧ ¬ S' k ∧ (C.w.heap.size ≤ k ∨ ∃ e0 ∈ E, Lives loc e0.b ∧ C.φ e0.b k)
  disj : ∀ e ∈ E, ∀ e' ∈ E, e.b ≠ e'.b → e.lb.alive = true → e'.lb.alive = true → ∀ k, e.φ k → ¬ e'.φ k
  val : ∀ e ∈ E, ∀ lb, lget loc e.b = some lb → e.v = C.ρ e.b
  again : ∀ e ∈ E, e.lb.alive = true → lget loc e.b = none ∨ ∃ lb0, lget loc e.b = some lb0 ∧ lb0.alive = true ∧ ∀ d' ep' e' t' (ys' : List (Ty.den t')), e.lb = .row d' ep' e' t' ys' → ∃ d ep e t, ∃ ys : List (Ty.den t), lb0 = .row d ep e t ys ∧ ep < ep'
theorem EntsOk.steps {w' : World} {S' : Nat → Prop} {E : List Ent} (h : EntsOk C loc w' S' E) : Steps C (C.ents w' S' E) loc (ups E) := by
  have key : ∀ {b : Nat} {lb : LB}, lget (ups E) b = some lb → ∃ e, e ∈ E ∧ e.b = b ∧ e.lb = lb ∧ (C.ents w' S' E).ρ b = e.v ∧ (C.ents w' S' E).φ b = e.φ := by
    intro b lb hb
    rw [lget_ups] at hb
    obtain ⟨e, he, hl⟩ := Option.map_eq_some_iff.1 hb
    obtain ⟨h1, h2⟩ := eget_mem he
    exact ⟨e, h1, h2, hl, ents_at he⟩
  have ex : ∀ k, (∃ e ∈ E, Lives loc e.b ∧ C.φ e.b k) → ∃ b, isIn (ups E) b ∧ Lives loc b ∧ C.φ b k := fun k ⟨e, h1, h2, h3⟩ => ⟨e.b, in_ups h1, h2, h3⟩
  refine ⟨rfl, h.size, h.os, h.tape, h.output, fun k hk hn => h.keep k hk (fun e he hl => hn e.b (in_ups he) hl), h.S, fun k hk => (h.S_new k hk).imp id (fun ⟨h1, h2⟩ => ⟨h1, h2.imp id (ex k)⟩), fun b lb hb ha k hk => ?_, fun b b' lb lb' hne hb hb' ha ha' k hk hk' => ?_, fun b hb => ?_, fun b lb hb => ?_, fun b lb hb ha => ?_⟩
  · obtain ⟨e, h1, h2, h3, h4, h5⟩ := key hb
    rw [h5] at hk
    obtain ⟨q1, q2, q3⟩ := h.own e h1 (h3 ▸ ha) k hk
    exact ⟨q1, q2, q3.imp id (ex k)⟩
  · obtain ⟨e, h1, h2, h3, h4, h5⟩ := key hb
    obtain ⟨e', h1', h2', h3', h4', h5'⟩ := key hb'
    rw [h5] at hk
    rw [h5'] at hk'
    exact h.disj e h1 e' h1' (by rw [h2, h2']; exact hne) (h3 ▸ ha) (h3' ▸ ha') k hk hk'
  · show (match eget E b with | some e => e.φ | none => C.φ b) = _
    cases he : eget E b with
    | none => rfl
    | some e => exact absurd ⟨e.lb, by rw [lget_ups, he]; rfl⟩ hb
  · show (match eget E b with | some e => e.v | none => C.ρ b) = _
    cases he : eget E b with
    | none => rfl
    | some e =>
      obtain ⟨h1, h2⟩ := eget_mem he
      subst h2
      exact h.val e h1 lb hb
  · obtain ⟨e, h1, h2, h3, h4, h5⟩ := key hb
    subst h2; subst h3
    exact h.again e h1 ha

/-! ### slots -/
theorem put_size (a : Act) (d : Option Tmp) (v : Value) : (a.put d v).tmps.size = a.tmps.size := by
  cases d <;> simp [Act.put]
theorem put_defers (a : Act) (d : Option Tmp) (v : Value) : (a.put d v).defers = a.defers := by
  cases d <;> rfl
def St.put (st : St) (d : Option Nat) (v : TV) : St :=
  match d with
  | some d => { st with tm := st.tm.set d v }
  | none => st
structure Eff where
  val : TV
  upd : Loc
def St.apply (st : St) (d : Option Nat) (e : Eff) : St := { (st.put d e.val) with loc := e.upd ++ st.loc }
theorem stput_len (st : St) (d : Option Nat) (v : TV) : (st.put d v).tm.length = st.tm.length := by
  cases d <;> simp [St.put]
theorem put_at {a : Act} {d i : Nat} {v : Value} (hi : i < a.tmps.size) : (a.put (some d) v).tmps.getD i undef = if d = i then v else a.tmps.getD i undef := by
  simp only [Act.put]
  by_cases h : d = i
  · subst h
    simp [hi]
  · simp [h, Array.getElem?_setIfInBounds_ne h]
theorem Rel.step (hR : Rel P M wE C st a) {eff : Eff} (h : Steps C C' st.loc eff.upd) (hok : ∀ b lb, lget eff.upd b = some lb → RL P C' (eff.upd ++ st.loc) b lb) {d : Option Nat} {v : Value} (hv : RV P C' (eff.upd ++ st.loc) eff.val v) :
    Rel P M wE C' (st.apply d eff) (a.put d v) := by
  have hE := h.ext hR.inv
  refine ⟨hR.inv.step h hok, by rw [put_size]; simp only [St.apply]; rw [stput_len]; exact hR.sz, fun i tv hi => ?_, by rw [put_defers]; exact hR.df⟩
  cases d with
  | none => exact RV_ext hE (hR.tm i tv hi)
  | some d =>
    simp only [St.apply, St.put] at hi ⊢
    have hlt : i < a.tmps.size := by
      have := (List.getElem?_eq_some_iff.1 hi).1
      rw [List.length_set] at this
      rw [hR.sz]
      exact this
    rw [put_at hlt]
    by_cases hd : d = i
    · subst hd
      rw [if_pos rfl]
      rw [List.getElem?_set_self (by rw [← hR.sz]; exact hlt)] at hi
      injection hi with hi
      exact hi ▸ hv
    · rw [if_neg hd]
      rw [List.getElem?_set_ne hd] at hi
      exact RV_ext hE (hR.tm i tv hi)
/-- A step that leaves memory alone. -/
theorem Steps.none (C : Cx) (loc : Loc) : Steps C C loc [] :=
  ⟨rfl, Nat.le_refl _, rfl, rfl, rfl, fun _ _ _ => rfl, fun _ h => h, fun _ h => .inl h, (fun b lb h => by cases h), (fun b b' lb lb' _ h => by cases h), fun _ _ => rfl, fun _ _ _ => rfl, (fun b lb h => by cases h)⟩
theorem Rel.val (hR : Rel P M wE C st a) {tv : TV} {d : Option Nat} {v : Value} (hv : RV P C st.loc tv v) : Rel P M wE C (st.apply d ⟨tv, []⟩) (a.put d v) :=
  hR.step (eff := ⟨tv, []⟩) (Steps.none C st.loc) (fun b lb h => by cases h) (by simpa using hv)
/-- Memory has only grown. -/
theorem Steps.move (hI : Inv P M wE C loc) {w' : World} (hb : Below C.w.heap.size C.w w') : Steps C { C with w := w' } loc [] :=
  ⟨rfl, hb.size, hb.os, hb.tape, hb.output, fun k hk _ => hb.block k hk, fun _ h => h, fun _ h => .inl h, (fun b lb h => by cases h), (fun b b' lb lb' _ h => by cases h), fun _ _ => rfl, fun _ _ _ => rfl, (fun b lb h => by cases h)⟩
/-- A step, by its entries. -/
theorem Rel.ents (hR : Rel P M wE C st a) {w' : World} {S' : Nat → Prop} {E : List Ent} {tv : TV} (h : EntsOk C st.loc w' S' E) (hok : ∀ e ∈ E, eget E e.b = some e → RLv P (C.ents w' S' E) (ups E ++ st.loc) e.v e.φ e.lb) {d : Option Nat} {v : Value} (hv : RV P (C.ents w' S' E) (ups E ++ st.loc) tv v) :
    Rel P M wE (C.ents w' S' E) (st.apply d ⟨tv, ups E⟩) (a.put d v) := by
  refine hR.step (eff := ⟨tv, ups E⟩) h.steps (fun b lb hb => ?_) hv
  have hb : lget (ups E) b = some lb := hb
  rw [lget_ups] at hb
  obtain ⟨e, he, hl⟩ := Option.map_eq_some_iff.1 hb
  obtain ⟨h1, h2⟩ := eget_mem he
  subst hl; subst h2
  show RLv P _ _ ((C.ents w' S' E).ρ e.b) ((C.ents w' S' E).φ e.b) e.lb
  rw [(ents_at he).1, (ents_at he).2]
  exact hok e h1 he
theorem EntsOk.ext (hI : Inv P M wE C loc) {w' : World} {S' : Nat → Prop} {E : List Ent} (h : EntsOk C loc w' S' E) : Ext C (C.ents w' S' E) loc (ups E ++ loc) := h.steps.ext hI
end
end Go.Proofs.Ytceffcfnjjlbkaa.E
