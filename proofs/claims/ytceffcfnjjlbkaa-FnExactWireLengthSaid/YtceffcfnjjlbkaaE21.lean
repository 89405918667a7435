/- The evaluator, 21: an operation's effect does not hang on what comes behind it; states that say the same. -/
import Derived.Test.YtceffcfnjjlbkaaE20
namespace Go.Proofs.Ytceffcfnjjlbkaa.E
open Go.RowKit
set_option linter.unusedVariables false
set_option linter.unusedSimpArgs false
section
variable {R : Type} {P : Program} {Γ : Nat → Option Sig} {T : Nat → Option TV} {L : Nat → Option LB} {K : Eff → Option R} {r : R}
set_option maxHeartbeats 2000000 in
theorem evEff_some {nid : Nat} {o : Oper} (h : evEff P Γ T L nid o K = some r) : ∃ e, evEff P Γ T L nid o some = some e ∧ K e = some r := by
  unfold evEff at h ⊢
  split at h
  all_goals first
    | exact evLit_some h
    | skip
  all_goals repeat' (split at h)
  all_goals first
    | (cases h; done)
    | exact evAppend_some h
    | exact evCopy_some h
    | exact evCall_some h
    | (rw [if_pos (by assumption)]; exact evAppend_some h)
    | (rw [if_pos (by assumption)]; exact evCopy_some h)
    | (simp_all; done)
    | skip
end

/-! ### states that say the same -/
structure Sim (s s' : St) : Prop where
  tm : s.tm = s'.tm
  loc : ∀ b, lget s.loc b = lget s'.loc b
theorem Sim.refl (s : St) : Sim s s := ⟨rfl, fun _ => rfl⟩
theorem Sim.trans {s s1 s2 : St} (h : Sim s s1) (k : Sim s1 s2) : Sim s s2 := ⟨h.tm.trans k.tm, fun b => (h.loc b).trans (k.loc b)⟩
theorem Sim.symm {s s1 : St} (h : Sim s s1) : Sim s1 s := ⟨h.tm.symm, fun b => (h.loc b).symm⟩
theorem apply_tm (s : St) (d : Option Nat) (e : Eff) : (s.apply d e).tm = (match d with | some d => s.tm.set d e.val | none => s.tm) := by
  cases d <;> rfl
theorem apply_loc (s : St) (d : Option Nat) (e : Eff) : (s.apply d e).loc = e.upd ++ s.loc := rfl
theorem Sim.apply {s s' : St} (h : Sim s s') (d : Option Nat) (e : Eff) : Sim (s.apply d e) (s'.apply d e) :=
  ⟨by rw [apply_tm, apply_tm, h.tm], fun b => by rw [apply_loc, apply_loc, lget_append, lget_append, h.loc b]⟩
theorem lget_names {u : Loc} {b : Nat} (h : b ∉ names u) : lget u b = none := lget_none_of h
theorem Sim.comm (s : St) {d d' : Option Nat} {e e' : Eff} (hd : ∀ x, d = some x → d' ≠ some x) (hn : ∀ b ∈ names e.upd, b ∉ names e'.upd) : Sim ((s.apply d e).apply d' e') ((s.apply d' e').apply d e) := by
  refine ⟨?_, fun b => ?_⟩
  · rw [apply_tm, apply_tm, apply_tm, apply_tm]
    cases d with
    | none => rfl
    | some x =>
      cases d' with
      | none => rfl
      | some y =>
        have hne : x ≠ y := fun he => hd x rfl (by rw [he])
        exact List.set_comm _ _ hne
  · rw [apply_loc, apply_loc, apply_loc, apply_loc, lget_append, lget_append, lget_append, lget_append]
    by_cases h1 : b ∈ names e.upd
    · rw [lget_names (hn b h1)]
      simp
    · rw [lget_names h1]
      simp
section
variable {P : Program} {M : Nat → Prop} {wE : World} {C : Cx} {st : St} {a : Act}
theorem Ext.same (C : Cx) {loc loc' : Loc} (h : ∀ b, lget loc b = lget loc' b) : Ext C C loc loc' :=
  ⟨Nat.le_refl _, fun _ _ => rfl, fun _ h => h, rfl, fun b lb hb => ⟨lb, by rw [← h b]; exact hb, fun ha => ⟨ha, rfl, fun d ep e t ys he => ⟨d, ep, e, t, ys, he, .inr ⟨rfl, fun _ _ => rfl, rfl⟩⟩⟩⟩⟩
theorem Inv.same {loc loc' : Loc} (hI : Inv P M wE C loc) (h : ∀ b, lget loc b = lget loc' b) : Inv P M wE C loc' := by
  refine ⟨hI.os, hI.tape, hI.output, hI.size, hI.kept, hI.S_lt, hI.old, fun b lb hb => hI.own b lb (by rw [h b]; exact hb), fun b lb hb => ?_, fun b b' lb lb' hne hb hb' => hI.disj b b' lb lb' hne (by rw [h b]; exact hb) (by rw [h b']; exact hb')⟩
  exact RLv_ext (Ext.same C h) (fun _ _ => rfl) (hI.ok b lb (by rw [h b]; exact hb))
theorem Rel.same {st' : St} (hR : Rel P M wE C st a) (h : Sim st st') : Rel P M wE C st' a :=
  ⟨hR.inv.same h.loc, by rw [← h.tm]; exact hR.sz, fun i tv hi => RV_ext (Ext.same C h.loc) (hR.tm i tv (by rw [h.tm]; exact hi)), hR.df⟩
end

/-! ### what has been done so far -/
def app (st0 : St) (D : Nat → Bool) : List Done → St
  | [] => st0
  | x :: l => if D x.i = true then (app st0 D l).apply x.dst x.eff else app st0 D l
theorem app_congr {st0 : St} {D D' : Nat → Bool} : ∀ {l : List Done}, (∀ x ∈ l, D x.i = D' x.i) → app st0 D l = app st0 D' l
  | [], _ => rfl
  | x :: l, h => by
    simp only [app]
    rw [h x (List.mem_cons_self ..), app_congr (l := l) fun y hy => h y (List.mem_cons_of_mem _ hy)]
theorem app_len {st0 : St} {D : Nat → Bool} : ∀ {l : List Done}, (app st0 D l).tm.length = st0.tm.length
  | [] => rfl
  | x :: l => by
    simp only [app]
    split
    · rw [apply_tm]
      cases x.dst with
      | none => exact app_len
      | some d => simp [app_len]
    · exact app_len
theorem app_tm {st0 : St} {D D' : Nat → Bool} {t : Nat} : ∀ {l : List Done}, (∀ x ∈ l, D x.i ≠ D' x.i → x.dst ≠ some t) → (app st0 D l).tm[t]? = (app st0 D' l).tm[t]?
  | [], _ => rfl
  | x :: l, h => by
    have ih := app_tm (st0 := st0) (t := t) (l := l) fun y hy => h y (List.mem_cons_of_mem _ hy)
    have hx := h x (List.mem_cons_self ..)
    have ne : x.dst ≠ some t → ∀ s : St, (s.apply x.dst x.eff).tm[t]? = s.tm[t]? := fun hn s => by
      rw [apply_tm]
      cases hd : x.dst with
      | none => rfl
      | some d => exact List.getElem?_set_ne (fun he => hn (by rw [hd, he]))
    have both : ∀ s s' : St, s.tm.length = s'.tm.length → s.tm[t]? = s'.tm[t]? → (s.apply x.dst x.eff).tm[t]? = (s'.apply x.dst x.eff).tm[t]? := fun s s' hl h => by
      rw [apply_tm, apply_tm]
      cases hd : x.dst with
      | none => exact h
      | some d =>
        simp only
        rw [List.getElem?_set, List.getElem?_set, hl, h]
    simp only [app]
    cases h1 : D x.i <;> cases h2 : D' x.i <;> simp only [if_true, Bool.false_eq_true, if_false]
    · exact ih
    · rw [ne (hx (by rw [h1, h2]; simp))]; exact ih
    · rw [ne (hx (by rw [h1, h2]; simp))]; exact ih
    · exact both _ _ (by rw [app_len, app_len]) ih
theorem app_loc {st0 : St} {D D' : Nat → Bool} {b : Nat} : ∀ {l : List Done}, (∀ x ∈ l, D x.i ≠ D' x.i → b ∉ names x.eff.upd) → lget (app st0 D l).loc b = lget (app st0 D' l).loc b
  | [], _ => rfl
  | x :: l, h => by
    have ih := app_loc (st0 := st0) (b := b) (l := l) fun y hy => h y (List.mem_cons_of_mem _ hy)
    have hx := h x (List.mem_cons_self ..)
    have ne : b ∉ names x.eff.upd → ∀ s : St, lget (s.apply x.dst x.eff).loc b = lget s.loc b := fun hn s => by
      rw [apply_loc, lget_append, lget_names hn]
      rfl
    simp only [app]
    cases h1 : D x.i <;> cases h2 : D' x.i <;> simp only [if_true, Bool.false_eq_true, if_false]
    · exact ih
    · rw [ne (hx (by rw [h1, h2]; simp))]; exact ih
    · rw [ne (hx (by rw [h1, h2]; simp))]; exact ih
    · rw [apply_loc, apply_loc, lget_append, lget_append, ih]
structure Indep (x y : Done) : Prop where
  dst : ∀ d, x.dst = some d → d ∉ y.tmps ∧ y.dst ≠ some d
  dst' : ∀ d, y.dst = some d → d ∉ x.tmps ∧ x.dst ≠ some d
  upd : ∀ b ∈ names x.eff.upd, b ∉ y.foot ∧ b ∉ names y.eff.upd ∧ b / 64 ≠ y.nid
  upd' : ∀ b ∈ names y.eff.upd, b ∉ x.foot ∧ b ∉ names x.eff.upd ∧ b / 64 ≠ x.nid
theorem Indep.symm {x y : Done} (h : Indep x y) : Indep y x := ⟨h.dst', h.dst, h.upd', h.upd⟩
theorem memB_false {n : Nat} {l : List Nat} (h : memB n l = false) : n ∉ l := fun hm => by rw [memB_iff.2 hm] at h; cases h
theorem beq_false {n m : Nat} (h : Nat.beq n m = false) : n ≠ m := fun he => by rw [he, Nat.beq_refl] at h; cases h
theorem indepB_ok {x y : Done} (h : indepB x y = true) : Indep x y := by
  unfold indepB at h
  simp only [Bool.and_eq_true] at h
  obtain ⟨⟨⟨h1, h2⟩, h3⟩, h4⟩ := h
  rw [noneOf_iff] at h3 h4
  have hd : ∀ d, x.dst = some d → d ∉ y.tmps ∧ y.dst ≠ some d := fun d hx => by
    rw [hx] at h1
    simp only [Bool.and_eq_true, Bool.not_eq_true'] at h1
    refine ⟨memB_false h1.1, fun hy => ?_⟩
    rw [hy] at h1
    have h12 := h1.2
    simp only [Nat.beq_refl, Bool.not_true, Bool.false_eq_true] at h12
  refine ⟨hd, fun d hy => ?_, fun b hb => ?_, fun b hb => ?_⟩
  · rw [hy] at h2
    simp only [Bool.not_eq_true'] at h2
    exact ⟨memB_false h2, fun hx => (hd d hx).2 hy⟩
  · have := h3 b hb
    simp only [Bool.or_eq_false_iff] at this
    exact ⟨memB_false this.1.1, memB_false this.1.2, beq_false this.2⟩
  · have := h4 b hb
    simp only [Bool.or_eq_false_iff] at this
    refine ⟨memB_false this.1, fun hx => ?_, beq_false this.2⟩
    have := h3 b hx
    simp only [Bool.or_eq_false_iff] at this
    exact memB_false this.1.2 hb
theorem pairsB_ok {x : Done} : ∀ {l : List Done}, pairsB x l = true → ∀ y ∈ l, y.i ∈ x.anc ∨ Indep x y
  | [], _, y, hy => by cases hy
  | z :: l, h, y, hy => by
    simp only [pairsB, Bool.and_eq_true, Bool.or_eq_true] at h
    rcases List.mem_cons.1 hy with rfl | hy
    · exact h.1.imp memB_iff.1 indepB_ok
    · exact pairsB_ok h.2 y hy
theorem app_step {st0 : St} {D : Nat → Bool} {x : Done} (hx : D x.i = false) : ∀ {l : List Done}, x ∈ l → (l.map (·.i)).Nodup → (∀ pre post y, l = pre ++ y :: post → x ∈ post → D y.i = true → Indep y x) → Sim (app st0 (fun k => D k || Nat.beq k x.i) l) ((app st0 D l).apply x.dst x.eff)
  | [], hm, _, _ => by cases hm
  | y :: l, hm, hn, hi => by
    simp only [List.map_cons, List.nodup_cons] at hn
    rcases List.mem_cons.1 hm with rfl | hm
    · simp only [app, Nat.beq_refl, Bool.or_true, if_true, hx, Bool.false_eq_true, if_false]
      rw [app_congr (D := fun k => D k || Nat.beq k x.i) (D' := D)]
      · exact Sim.refl _
      · intro z hz
        have hne : Nat.beq z.i x.i = false := by
          cases hb : Nat.beq z.i x.i with
          | false => rfl
          | true => exact absurd (List.mem_map.2 ⟨z, hz, Nat.eq_of_beq_eq_true hb⟩) hn.1
        simp [hne]
    · have ih := app_step (st0 := st0) hx hm hn.2 fun pre post z hz hp hd => hi (y :: pre) post z (by rw [hz]; rfl) hp hd
      have hne : Nat.beq y.i x.i = false := by
        cases hb : Nat.beq y.i x.i with
        | false => rfl
        | true => exact absurd (List.mem_map.2 ⟨x, hm, (Nat.eq_of_beq_eq_true hb).symm⟩) hn.1
      simp only [app, hne, Bool.or_false]
      cases hy : D y.i with
      | false =>
        simp only [Bool.false_eq_true, if_false]
        exact ih
      | true =>
        simp only [if_true]
        have hid := hi [] l y rfl hm hy
        exact (ih.apply y.dst y.eff).trans (Sim.comm _ (fun d hd => (hid.dst' d hd).2) (fun b hb => (hid.upd' b hb).2.1))
end Go.Proofs.Ytceffcfnjjlbkaa.E
