/- The evaluator, 7: new blocks and stores. -/
import Derived.Test.YtceffcfnjjlbkaaE6
namespace Go.Proofs.Ytceffcfnjjlbkaa.E
open Go.RowKit
set_option linter.unusedVariables false
set_option linter.unusedSimpArgs false
/-- An operation that is carried out has this effect. -/
def Does (P : Program) (M : Nat → Prop) (wE : World) (C : Cx) (st : St) (a : Act) (o : Oper) (eff : Eff) : Prop :=
  ∀ (next : Act → World → Prop) (Q : Exit → Act → World → Prop), (∀ C' a', Ext C C' st.loc (eff.upd ++ st.loc) → Rel P M wE C' (st.apply o.dst eff) a' → next a' C'.w) → o.wp P a C.w next Q
section
variable {P : Program} {M : Nat → Prop} {wE : World} {C : Cx} {st : St} {a : Act} {T : Nat → Option TV} {L : Nat → Option LB} {o : Oper}
theorem Does.val (hR : Rel P M wE C st a) {tv : TV} {v : Value} (hrun : (execOp a.eval o).run P C.w = .ok (.value v) C.w) (hv : RV P C st.loc tv v) : Does P M wE C st a o ⟨tv, []⟩ := fun next Q h => by
  unfold Oper.wp
  rw [hrun]
  exact h C _ (Ext.refl C st.loc) (hR.val hv)
theorem Does.ents (hR : Rel P M wE C st a) {tv : TV} {v : Value} {w' : World} {S' : Nat → Prop} {E : List Ent} (hrun : (execOp a.eval o).run P C.w = .ok (.value v) w') (h : EntsOk C st.loc w' S' E)
    (hok : ∀ e ∈ E, eget E e.b = some e → RLv P (C.ents w' S' E) (ups E ++ st.loc) e.v e.φ e.lb) (hv : RV P (C.ents w' S' E) (ups E ++ st.loc) tv v) : Does P M wE C st a o ⟨tv, ups E⟩ := fun next Q hn => by
  unfold Oper.wp
  rw [hrun]
  exact hn (C.ents w' S' E) _ (h.ext hR.inv) (hR.ents h hok hv)
theorem Does.unit (hR : Rel P M wE C st a) {w' : World} {S' : Nat → Prop} {E : List Ent} (hrun : (execOp a.eval o).run P C.w = .ok .skip w') (h : EntsOk C st.loc w' S' E)
    (hok : ∀ e ∈ E, eget E e.b = some e → RLv P (C.ents w' S' E) (ups E ++ st.loc) e.v e.φ e.lb) : Does P M wE C st a o ⟨.c .un, ups E⟩ := fun next Q hn => by
  unfold Oper.wp
  rw [hrun]
  exact hn (C.ents w' S' E) _ (h.ext hR.inv) (hR.ents (tv := .c .un) (v := undef) h hok trivial)
/-- One new name, in new memory. -/
theorem EntsOk.new (hI : Inv P M wE C st.loc) {b : Nat} (hb : lget st.loc b = none) {lb : LB} {v : Value} {w' : World} (hw : Below C.w.heap.size C.w w') {φ : Nat → Prop} (hφ : ∀ k, φ k → C.w.heap.size ≤ k ∧ k < w'.heap.size) : EntsOk C st.loc w' C.S [⟨b, lb, v, φ⟩] := by
  refine ⟨hw.size, hw.os, hw.tape, hw.output, fun k hk _ => hw.block k hk, fun _ h => h, fun _ h => .inl h, fun e he ha k hk => ?_, fun e he e' he' hne => ?_, fun e he lb' hl => ?_, fun e he _ => ?_⟩
  · simp only [List.mem_singleton] at he
    subst he
    obtain ⟨h1, h2⟩ := hφ k hk
    exact ⟨h2, fun hs => by have := hI.S_lt k hs; omega, .inl h1⟩
  · simp only [List.mem_singleton] at he he'
    subst he; subst he'
    exact absurd rfl hne
  · simp only [List.mem_singleton] at he
    subst he
    rw [hb] at hl
    cases hl
  · simp only [List.mem_singleton] at he
    subst he
    exact .inl hb
theorem below_new (w : World) (ob : Obj) : Below w.heap.size w (w.alloc ob) := (Below.refl _ _).alloc (Nat.le_refl _) ob
theorem lget_self {e : Ent} {E : List Ent} {loc : Loc} : lget (ups (e :: E) ++ loc) e.b = some e.lb := lget_upd_in (by rw [lget_ups]; simp [eget])
theorem eget_self {e : Ent} {l : List Ent} : eget (e :: l) e.b = some e := by simp [eget]
theorem Does.newVar (hR : Rel P M wE C st a) {b E : Nat} (hb : lget st.loc b = none) {cs : List CV} {vs : List Value} (hcs : RCs P C st.loc cs vs)
    (hrun : (execOp a.eval o).run P C.w = .ok (.value (.pointer (some ⟨C.w.heap.size, 0, none⟩))) (C.w.alloc (.cells vs.toArray E))) : Does P M wE C st a o ⟨.c (.ptr b 0), [(b, .cells E cs)]⟩ := by
  have hE := EntsOk.new (M := M) (wE := wE) hR.inv hb (lb := .cells E cs) (v := .pointer (some ⟨C.w.heap.size, 0, none⟩)) (w' := C.w.alloc (.cells vs.toArray E)) (below_new _ _) (φ := fun k => k = C.w.heap.size) (fun k hk => by subst hk; exact ⟨Nat.le_refl _, by simp⟩)
  refine Does.ents (E := [⟨b, .cells E cs, .pointer (some ⟨C.w.heap.size, 0, none⟩), fun k => k = C.w.heap.size⟩]) hR hrun hE (fun e he _ => ?_) ?_
  · simp only [List.mem_singleton] at he
    subst he
    exact ⟨_, vs, rfl, heap_alloc_new C.w _, rfl, RCs_ext (hE.ext hR.inv) hcs⟩
  · refine ⟨_, lget_self, ⟨_, rfl⟩, fun _ => ⟨C.w.heap.size, ?_, rfl⟩⟩
    exact (ents_at (C := C) eget_self).1
theorem Does.newArr (hR : Rel P M wE C st a) {b E n : Nat} {k : IntKind} (hb : lget st.loc b = none) {xs : List Int} (hn : xs.length = n)
    (hrun : (execOp a.eval o).run P C.w = .ok (.value (.pointer (some ⟨C.w.heap.size, 0, none⟩))) (C.w.alloc (.cells (xs.map (Value.int k)).toArray E))) : Does P M wE C st a o ⟨.c (.ptr b 0), [(b, .arr E k n xs)]⟩ := by
  have hE := EntsOk.new (M := M) (wE := wE) hR.inv hb (lb := .arr E k n xs) (v := .pointer (some ⟨C.w.heap.size, 0, none⟩)) (w' := C.w.alloc (.cells (xs.map (Value.int k)).toArray E)) (below_new _ _) (φ := fun k => k = C.w.heap.size) (fun k hk => by subst hk; exact ⟨Nat.le_refl _, by simp⟩)
  refine Does.ents (E := [⟨b, .arr E k n xs, .pointer (some ⟨C.w.heap.size, 0, none⟩), fun k => k = C.w.heap.size⟩]) hR hrun hE (fun e he _ => ?_) ?_
  · simp only [List.mem_singleton] at he
    subst he
    exact ⟨hn, _, rfl, heap_alloc_new C.w _, rfl⟩
  · refine ⟨_, lget_self, ⟨_, rfl⟩, fun _ => ⟨C.w.heap.size, ?_, rfl⟩⟩
    exact (ents_at (C := C) eget_self).1
/-- A new row, all its own. -/
theorem Does.newRow (hR : Rel P M wE C st a) {b e : Nat} {t : Ty} {d : Bool} {xs : List t.den} (hb : lget st.loc b = none) {w' : World} {v : Value} {φ : Nat → Prop} (hw : Below C.w.heap.size C.w w') (hφ : ∀ k, φ k → C.w.heap.size ≤ k ∧ k < w'.heap.size)
    (hO : ∀ C' loc', C'.w = w' → (∀ k, C.S k → C'.S k) → RLv P C' loc' v φ (.row d 0 e t xs)) (hv : ∃ A n c, v = .slice A n c) (hrun : (execOp a.eval o).run P C.w = .ok (.value v) w') : Does P M wE C st a o ⟨.c (.own b), [(b, .row d 0 e t xs)]⟩ := by
  have hE := EntsOk.new (M := M) (wE := wE) hR.inv hb (lb := .row d 0 e t xs) (v := v) hw hφ
  refine Does.ents (E := [⟨b, .row d 0 e t xs, v, φ⟩]) hR hrun hE (fun e' he _ => ?_) ?_
  · simp only [List.mem_singleton] at he
    subst he
    exact hO _ _ rfl (fun _ h => h)
  · refine ⟨_, lget_self, hv, fun _ => ?_⟩
    exact (ents_at (C := C) (w' := w') (S' := C.S) (eget_self (e := ⟨b, .row d 0 e t xs, v, φ⟩) (l := []))).1.symm

/-! ### stores -/
def deadEnts (C : Cx) (ids : List Nat) : List Ent := ids.map fun b => ⟨b, .dead, C.ρ b, fun _ => False⟩
theorem ups_dead (ids : List Nat) : ups (deadEnts C ids) = kills ids := by simp [ups, deadEnts, kills]
theorem mem_dead {ids : List Nat} {e : Ent} (h : e ∈ deadEnts C ids) : e.b ∈ ids ∧ e.lb = .dead ∧ e.v = C.ρ e.b := by
  obtain ⟨b, hb, rfl⟩ := List.mem_map.1 h
  exact ⟨hb, rfl, rfl⟩
/-- The memory of a block and of others that it takes over. -/
def takes (C : Cx) (loc : Loc) (b : Nat) (ids : List Nat) (k : Nat) : Prop := C.φ b k ∨ ∃ b', b' ∈ ids ∧ Lives loc b' ∧ C.φ b' k
/-- A block is changed where it lies; others become part of it. -/
theorem EntsOk.change (hI : Inv P M wE C st.loc) {b : Nat} {lb0 lb : LB} (hb : lget st.loc b = some lb0) (ha : lb0.alive = true) (hep : ∀ d' ep' e' t' (ys' : List (Ty.den t')), lb = .row d' ep' e' t' ys' → ∃ d ep e t, ∃ ys : List (Ty.den t), lb0 = .row d ep e t ys ∧ ep < ep')
    {ids : List Nat} (hids : b ∉ ids) {g : Nat} (hg : C.φ b g) {cur : Array Value} : EntsOk C st.loc (C.w.setRow g cur) C.S (⟨b, lb, C.ρ b, takes C st.loc b ids⟩ :: deadEnts C ids) := by
  have hl : Lives st.loc b := ⟨_, hb, ha⟩
  refine ⟨by simp, rfl, rfl, rfl, fun k hk hn => ?_, fun _ h => h, fun _ h => .inl h, fun e he hal k hk => ?_, fun e he e' he' hne hal hal' => ?_, fun e he lb' hl' => ?_, fun e he hal => ?_⟩
  · refine setRow_other _ _ _ _ (fun he => ?_)
    subst he
    exact hn _ (List.mem_cons_self ..) hl hg
  · rcases List.mem_cons.1 he with rfl | he
    · rcases hk with hk | ⟨b', hb', ⟨lb', h1, h2⟩, h3⟩
      · obtain ⟨q1, q2, _⟩ := hI.own b lb0 hb ha k hk
        exact ⟨by simpa using q1, q2, .inr ⟨_, List.mem_cons_self .., hl, hk⟩⟩
      · obtain ⟨q1, q2, _⟩ := hI.own b' lb' h1 h2 k h3
        refine ⟨by simpa using q1, q2, .inr ⟨⟨b', .dead, C.ρ b', fun _ => False⟩, List.mem_cons_of_mem _ (List.mem_map.2 ⟨b', hb', rfl⟩), ⟨lb', h1, h2⟩, h3⟩⟩
    · rw [(mem_dead he).2.1] at hal
      cases hal
  · rcases List.mem_cons.1 he with rfl | he
    · rcases List.mem_cons.1 he' with rfl | he'
      · exact absurd rfl hne
      · rw [(mem_dead he').2.1] at hal'
        cases hal'
    · rw [(mem_dead he).2.1] at hal
      cases hal
  · rcases List.mem_cons.1 he with rfl | he
    · rfl
    · exact (mem_dead he).2.2
  · rcases List.mem_cons.1 he with rfl | he
    · exact .inr ⟨lb0, hb, ha, hep⟩
    · rw [(mem_dead he).2.1] at hal
      cases hal
theorem cells_toList {g : Bool} {v : Value} {sg : List Value} (h : Pack g sg v) (h1 : ∀ u ∈ sg, u.oneCell' = true) : v.cells.toList = sg := by
  unfold Pack at h
  cases g with
  | true =>
    simp only [if_true] at h
    subst h
    simp [Value.cells]
  | false =>
    simp only [Bool.false_eq_true, if_false] at h
    subst h
    have := h1 v (by simp)
    cases v <;> first | rfl | cases this
theorem store_run {E : Nat} (hi : ∃ i, P.info? E = some i) {g off : Nat} {cur : List Value} {e : Nat} {w : World} (hb : blk w g cur e) {sg : List Value} (hl : sg.length = P.cellsOf E) (hle : off + sg.length ≤ cur.length) {v : Value} (hv : v.cells.toList = sg) (h1 : ∀ u ∈ sg, u.oneCell' = true) :
    (Instr.storeAt E (.pointer (some ⟨g, off, none⟩)) v).run P w = .ok () (w.setRow g (cur.take off ++ sg ++ cur.drop (off + sg.length)).toArray) := by
  obtain ⟨i, hi⟩ := hi
  have h := run_storeCells_at P g off e sg 0 cur.toArray w hb (by simpa using hle) h1
  have hsz : v.cells.size = P.cellsOf E := by rw [← hl, ← hv]; simp
  simp only [Nat.add_zero] at h
  simp only [Instr.storeAt, Instr.sureAddr, storeVar, Sem.run_bind, Sem.run_pure, Result.andThen_ok, size_run hi]
  rw [if_neg (by simp [hsz])]
  rw [hv]
  exact h
theorem blk_set {w : World} {g : Nat} {cur cur' : List Value} {e : Nat} (h : blk w g cur e) : blk (w.setRow g cur'.toArray) g cur' e := setRow_heap w g _ _ e _ h
/-- What a list of cells reads as, cell by cell. -/
def Fits (L : Nat → Option LB) (c c' : CV) : Prop :=
  match c' with
  | .bor e t ys => rdSl L t c = some ys
  | c' => c = c'
theorem unflat_flat : ∀ {t : Ty} {cs : List CV} {x : t.den} {r : List CV}, unflat L t cs = some (x, r) → ∃ d0, cs = d0 ++ r ∧ d0.length = t.sz ∧ ∀ (j : Nat) (c c' : CV), d0[j]? = some c → (flat t x)[j]? = some c' → Fits L c c'
  | .int k, cs, x, r, h => by
    cases cs with
    | nil => simp [unflat] at h
    | cons c cs =>
      simp only [unflat] at h
      split at h
      · rename_i n hn
        injection h with h
        injection h with h1 h2
        subst h1; subst h2
        refine ⟨[c], rfl, rfl, fun j c1 c' hc hc' => ?_⟩
        cases j with
        | zero => simp [flat] at hc hc'; subst hc; subst hc'; exact asI_ok hn
        | succ j => simp at hc
      · cases h
  | .bool, cs, x, r, h => by
    cases cs with
    | nil => simp [unflat] at h
    | cons c cs =>
      simp only [unflat] at h
      split at h
      · rename_i n hn
        injection h with h
        injection h with h1 h2
        subst h1; subst h2
        refine ⟨[c], rfl, rfl, fun j c1 c' hc hc' => ?_⟩
        cases j with
        | zero => simp [flat] at hc hc'; subst hc; subst hc'; exact asB_ok hn
        | succ j => simp at hc
      · cases h
  | .str, cs, x, r, h => by
    cases cs with
    | nil => simp [unflat] at h
    | cons c cs =>
      simp only [unflat] at h
      split at h
      · rename_i n hn
        injection h with h
        injection h with h1 h2
        subst h1; subst h2
        refine ⟨[c], rfl, rfl, fun j c1 c' hc hc' => ?_⟩
        cases j with
        | zero => simp [flat] at hc hc'; subst hc; subst hc'; exact asS_ok hn
        | succ j => simp at hc
      · cases h
  | .sl e t, cs, x, r, h => by
    cases cs with
    | nil => simp [unflat] at h
    | cons c cs =>
      simp only [unflat] at h
      split at h
      · rename_i ys hn
        injection h with h
        injection h with h1 h2
        subst h1; subst h2
        refine ⟨[c], rfl, rfl, fun j c1 c' hc hc' => ?_⟩
        cases j with
        | zero => simp [flat] at hc hc'; subst hc; subst hc'; exact hn
        | succ j => simp at hc
      · cases h
  | .pair p q, cs, x, r, h => by
    simp only [unflat] at h
    split at h
    · rename_i x0 r0 h0
      split at h
      · rename_i y r1 h1
        injection h with h
        injection h with e1 e2
        subst e1; subst e2
        obtain ⟨d0, rfl, l0, f0⟩ := unflat_flat h0
        obtain ⟨d1, rfl, l1, f1⟩ := unflat_flat h1
        refine ⟨d0 ++ d1, by rw [List.append_assoc], by simp [l0, l1, Ty.sz], fun j c c' hc hc' => ?_⟩
        simp only [flat] at hc'
        by_cases hj : j < d0.length
        · rw [List.getElem?_append_left hj] at hc
          rw [List.getElem?_append_left (by rw [flat_length, ← l0]; exact hj)] at hc'
          exact f0 j c c' hc hc'
        · rw [List.getElem?_append_right (by omega)] at hc
          rw [List.getElem?_append_right (by rw [flat_length, ← l0]; omega), flat_length, ← l0] at hc'
          exact f1 _ c c' hc hc'
      · cases h
    · cases h
theorem OCs.own {w : World} : ∀ {t : Ty} {x : t.den} {cs : List Value} {φ : Nat → Prop}, OCs w (flat t x) cs φ → Own w t x cs φ
  | .int k, n, cs, φ, h => by
    obtain ⟨hl, ψ, h1, h2, h3⟩ := h
    match cs, hl with
    | [v], _ => rw [show v = _ from h3 0 _ v rfl rfl]; rfl
  | .bool, n, cs, φ, h => by
    obtain ⟨hl, ψ, h1, h2, h3⟩ := h
    match cs, hl with
    | [v], _ => rw [show v = _ from h3 0 _ v rfl rfl]; rfl
  | .str, n, cs, φ, h => by
    obtain ⟨hl, ψ, h1, h2, h3⟩ := h
    match cs, hl with
    | [v], _ => rw [show v = _ from h3 0 _ v rfl rfl]; rfl
  | .sl e t, xs, cs, φ, h => by
    obtain ⟨hl, ψ, h1, h2, h3⟩ := h
    match cs, hl with
    | [v], _ => exact Own.mono (h1 0) (h3 0 (.bor e t xs) v rfl rfl : Own w (.sl e t) xs [v] (ψ 0))
  | .pair p q, x, cs, φ, h => by
    obtain ⟨hl, ψ, h1, h2, h3⟩ := h
    simp only [flat, List.length_append, flat_length] at hl
    have e0 : (cs.take p.sz).length = p.sz := by rw [List.length_take]; omega
    refine ⟨cs.take p.sz, cs.drop p.sz, fun k => ∃ j, j < p.sz ∧ ψ j k, fun k => ∃ j, p.sz ≤ j ∧ ψ j k, (List.take_append_drop _ _).symm, ?_, ?_, fun k ⟨j, _, hk⟩ => h1 j k hk, fun k ⟨j, _, hk⟩ => h1 j k hk, fun k ⟨j, hj, hk⟩ ⟨j', hj', hk'⟩ => by have := h2 j j' k hk hk'; omega⟩
    · refine OCs.own ⟨by rw [flat_length, e0], fun j k => j < p.sz ∧ ψ j k, fun j k hk => ⟨j, hk⟩, fun i j k hi hj => h2 i j k hi.2 hj.2, fun j c v hc hv => ?_⟩
      have hj : j < p.sz := by rw [← e0]; exact (List.getElem?_eq_some_iff.1 hv).1
      rw [List.getElem?_take, if_pos hj] at hv
      have := h3 j c v (by rw [flat, List.getElem?_append_left (by rw [flat_length]; exact hj)]; exact hc) hv
      have e : (fun k => j < p.sz ∧ ψ j k) = ψ j := funext fun k => by simp [hj]
      show OC w c v (fun k => j < p.sz ∧ ψ j k)
      rw [e]
      exact this
    · refine OCs.own ⟨by rw [flat_length, List.length_drop]; omega, fun j k => ψ (p.sz + j) k, fun j k hk => ⟨_, by omega, hk⟩, fun i j k hi hj => by have := h2 _ _ k hi hj; omega, fun j c v hc hv => ?_⟩
      rw [List.getElem?_drop] at hv
      exact h3 (p.sz + j) c v (by rw [flat, List.getElem?_append_right (by rw [flat_length]; omega), flat_length, Nat.add_sub_cancel_left]; exact hc) hv
end
end Go.Proofs.Ytceffcfnjjlbkaa.E
