/- The evaluator, 22: a drawing region. -/
import Derived.Test.YtceffcfnjjlbkaaE21
namespace Go.Proofs.Ytceffcfnjjlbkaa.E
open Go.RowKit
set_option linter.unusedVariables false
set_option linter.unusedSimpArgs false
/-- The guard's slot says b. -/
def Guards (ops : Array Oper) (S : St) (o : Oper) (ts : List Nat) (c : Bool) : Prop :=
  ∃ j want d b, o.guard = some (j, want) ∧ (ops[j]?).bind (·.dst) = some d ∧ tget S.tm d = some (.c (.bool b)) ∧ (c = true ↔ b = want)
structure ValidD (P : Program) (Γ : Nat → Option Sig) (ops : Array Oper) (S : St) (x : Done) : Prop where
  ok : ∃ o, ops[x.i]? = some o ∧ x.dst = o.dst ∧ x.tmps = o.looksAt ops ∧ (∀ e ∈ o.after, Region.binds .any e = true → e.on < x.i) ∧
    (((o.guard = none ∨ Guards ops S o x.tmps true) ∧ evEff P Γ (restr x.tmps (tget S.tm)) (restr x.foot (lget S.loc)) x.nid o some = some x.eff) ∨ (Guards ops S o x.tmps false ∧ x.eff = ⟨.c .un, []⟩))
  fresh : freshB x.nid S.loc = true
def ancOk (ops : Array Oper) (acc : List Done) (x : Done) : Prop :=
  ∀ k ∈ x.anc, ∃ o, ops[x.i]? = some o ∧ ∃ e ∈ o.after, Region.binds .any e = true ∧ (k = e.on ∨ ∃ y ∈ acc, y.i = e.on ∧ k ∈ y.anc)
inductive Text (P : Program) (Γ : Nat → Option Sig) (ops : Array Oper) (st0 : St) : List Done → St → Prop
  | nil : Text P Γ ops st0 [] st0
  | cons {acc : List Done} {S : St} {x : Done} : Text P Γ ops st0 acc S → ValidD P Γ ops S x → ancOk ops acc x → x.i = acc.length → (∀ y ∈ acc, y.i ∈ x.anc ∨ Indep x y) → Text P Γ ops st0 (x :: acc) (S.apply x.dst x.eff)
section
variable {P : Program} {Γ : Nat → Option Sig} {ops : Array Oper} {st0 : St} {R : Type} {r : R}
theorem ancOf_ok {acc : List Done} {o : Oper} {i : Nat} (ho : ops[i]? = some o) {x : Done} (hi : x.i = i) (ha : x.anc = ancOf acc o) : ancOk ops acc x := by
  intro k hk
  rw [ha] at hk
  unfold ancOf at hk
  obtain ⟨e, he, hk⟩ := List.mem_flatMap.1 hk
  obtain ⟨he, hb⟩ := List.mem_filter.1 he
  refine ⟨o, by rw [hi]; exact ho, e, by simpa using he, hb, ?_⟩
  rcases List.mem_cons.1 hk with rfl | hk
  · exact .inl rfl
  · split at hk
    · rename_i y hy
      exact .inr ⟨y, List.mem_of_find?_eq_some hy, Nat.eq_of_beq_eq_true (List.find?_some (p := fun y : Done => Nat.beq y.i e.on) hy), hk⟩
    · cases hk
theorem evDraw_text {rid : Nat} {K : St → Option R} : ∀ {l : List Nat} {acc : List Done} {S : St}, Text P Γ ops st0 acc S → (∀ j, l[j]? = if acc.length + j < ops.size then some (acc.length + j) else none) → evDraw P Γ rid ops l acc S K = some r →
    ∃ acc' S', Text P Γ ops st0 acc' S' ∧ (acc.length ≤ ops.size → acc'.length = ops.size) ∧ K S' = some r
  | [], acc, S, ht, hl, h => by
    refine ⟨acc, S, ht, fun hle => ?_, h⟩
    have := hl 0
    simp only [List.getElem?_nil] at this
    split at this
    · cases this
    · omega
  | i :: l, acc, S, ht, hl, h => by
    have h0 := hl 0
    simp only [List.getElem?_cons_zero, Nat.add_zero] at h0
    split at h0
    case isFalse => cases h0
    rename_i hlt
    injection h0 with h0
    subst h0
    simp only [evDraw] at h
    split at h
    · rename_i o ho
      split at h
      case isFalse => cases h
      rename_i hef
      simp only [Bool.and_eq_true] at hef
      obtain ⟨hedge, hfr⟩ := hef
      have hedges : ∀ e ∈ o.after, Region.binds .any e = true → e.on < acc.length := fun e he hb => by
        have := List.all_eq_true.1 hedge e (by simpa using he)
        simp only [hb, Bool.not_true, Bool.false_or] at this
        exact Nat.le_of_ble_eq_true this
      have next : ∀ {e : Eff}, ValidD P Γ ops S (mkDone rid ops acc S acc.length o e) → (if pairsB (mkDone rid ops acc S acc.length o e) acc = true then evDraw P Γ rid ops l (mkDone rid ops acc S acc.length o e :: acc) (S.apply o.dst e) K else none) = some r →
          ∃ acc' S', Text P Γ ops st0 acc' S' ∧ (acc.length ≤ ops.size → acc'.length = ops.size) ∧ K S' = some r := fun {e} hv hn => by
        split at hn
        · rename_i hp
          obtain ⟨acc', S', q1, q2, q3⟩ := evDraw_text (Text.cons ht hv (ancOf_ok ho rfl rfl) rfl (pairsB_ok hp)) (fun j => by
            have := hl (j + 1)
            simp only [List.getElem?_cons_succ] at this
            rw [this]
            simp only [List.length_cons]
            rw [show acc.length + 1 + j = acc.length + (j + 1) by omega]) hn
          exact ⟨acc', S', q1, fun _ => q2 (by simp only [List.length_cons]; omega), q3⟩
        · cases hn
      split at h
      · rename_i hg
        obtain ⟨e, he, hn⟩ := evEff_some h
        exact next ⟨⟨o, ho, rfl, rfl, hedges, .inl ⟨.inl hg, he⟩⟩, hfr⟩ hn
      · rename_i j want hg
        split at h
        · rename_i d hd
          split at h
          · rename_i b hb
            split at h
            · rename_i hbw
              obtain ⟨e, he, hn⟩ := evEff_some h
              exact next ⟨⟨o, ho, rfl, rfl, hedges, .inl ⟨.inr ⟨j, want, d, b, hg, hd, hb, by simp [hbw]⟩, he⟩⟩, hfr⟩ hn
            · rename_i hbw
              exact next ⟨⟨o, ho, rfl, rfl, hedges, .inr ⟨⟨j, want, d, b, hg, hd, hb, by simp [hbw]⟩, rfl⟩⟩, hfr⟩ h
          · cases h
        · cases h
    · cases h
theorem Text.idx {acc : List Done} {S : St} (h : Text P Γ ops st0 acc S) : (∀ x ∈ acc, x.i < acc.length) ∧ (acc.map (·.i)).Nodup ∧ (∀ k, k < acc.length → ∃ x ∈ acc, x.i = k) := by
  induction h with
  | nil => exact ⟨(fun x hx => by cases hx), List.nodup_nil, (fun k hk => by simp at hk)⟩
  | @cons acc S x ht hv ha hi hp ih =>
    obtain ⟨h1, h2, h3⟩ := ih
    refine ⟨fun y hy => ?_, ?_, fun k hk => ?_⟩
    · rcases List.mem_cons.1 hy with rfl | hy
      · rw [hi, List.length_cons]; omega
      · have := h1 y hy
        rw [List.length_cons]; omega
    · simp only [List.map_cons, List.nodup_cons]
      refine ⟨fun hm => ?_, h2⟩
      obtain ⟨y, hy, he⟩ := List.mem_map.1 hm
      have := h1 y hy
      omega
    · by_cases hk' : k = acc.length
      · exact ⟨x, List.mem_cons_self .., by rw [hi, hk']⟩
      · obtain ⟨y, hy, he⟩ := h3 k (by rw [List.length_cons] at hk; omega)
        exact ⟨y, List.mem_cons_of_mem _ hy, he⟩
theorem Text.full {acc : List Done} {S : St} (h : Text P Γ ops st0 acc S) : S = app st0 (fun _ => true) acc := by
  induction h with
  | nil => rfl
  | cons ht hv ha hi hp ih =>
    simp only [app, if_true]
    rw [← ih]
theorem Text.valid {acc : List Done} {S : St} (h : Text P Γ ops st0 acc S) : ∀ x ∈ acc, ValidD P Γ ops (app st0 (fun k => decide (k < x.i)) acc) x := by
  induction h with
  | nil => intro x hx; cases hx
  | @cons acc S x ht hv ha hi hp ih =>
    intro y hy
    have hidx := ht.idx
    rcases List.mem_cons.1 hy with rfl | hy
    · simp only [app, Nat.lt_irrefl, decide_false, Bool.false_eq_true, if_false]
      rw [app_congr (D' := fun _ => true), ← ht.full]
      · exact hv
      · intro z hz
        simp only [decide_eq_true_eq]
        rw [hi]
        exact hidx.1 z hz
    · simp only [app]
      rw [if_neg (by
        have := hidx.1 y hy
        simp only [decide_eq_true_eq]
        omega)]
      exact ih y hy
theorem Text.anc {acc : List Done} {S : St} (h : Text P Γ ops st0 acc S) : ∀ x ∈ acc, ancOk ops acc x := by
  induction h with
  | nil => intro x hx; cases hx
  | @cons acc S x ht hv ha hi hp ih =>
    intro y hy
    have mono : ∀ z, ancOk ops acc z → ancOk ops (x :: acc) z := fun z hz k hk => by
      obtain ⟨o, q1, e, q2, q3, q4⟩ := hz k hk
      exact ⟨o, q1, e, q2, q3, q4.imp id (fun ⟨u, hu, q⟩ => ⟨u, List.mem_cons_of_mem _ hu, q⟩)⟩
    rcases List.mem_cons.1 hy with rfl | hy
    · exact mono _ ha
    · exact mono _ (ih y hy)
theorem Text.pairs {acc : List Done} {S : St} (h : Text P Γ ops st0 acc S) : ∀ x ∈ acc, ∀ y ∈ acc, y.i < x.i → y.i ∈ x.anc ∨ Indep x y := by
  induction h with
  | nil => intro x hx; cases hx
  | @cons acc S x ht hv ha hi hp ih =>
    intro u hu v hv' hlt
    have hidx := ht.idx
    rcases List.mem_cons.1 hu with rfl | _
    · rcases List.mem_cons.1 hv' with rfl | hv2
      · omega
      · exact hp v hv2
    · rename_i hu2
      rcases List.mem_cons.1 hv' with rfl | hv2
      · have := hidx.1 u hu2
        omega
      · exact ih u hu2 v hv2 hlt
theorem Text.later {acc : List Done} {S : St} (h : Text P Γ ops st0 acc S) : ∀ pre post y, acc = pre ++ y :: post → ∀ x ∈ post, x.i < y.i := by
  induction h with
  | nil => intro pre post y he; simp at he
  | @cons acc S z ht hv ha hi hp ih =>
    intro pre post y he x hx
    cases pre with
    | nil =>
      simp only [List.nil_append, List.cons.injEq] at he
      obtain ⟨rfl, rfl⟩ := he
      rw [hi]
      exact ht.idx.1 x hx
    | cons p pre =>
      simp only [List.cons_append, List.cons.injEq] at he
      exact ih pre post y he.2 x hx
end
end Go.Proofs.Ytceffcfnjjlbkaa.E
