/- The evaluator, 29: contracts. -/
import Derived.Test.YtceffcfnjjlbkaaE28
namespace Go.Proofs.Ytceffcfnjjlbkaa.E
open Go.RowKit
set_option linter.unusedVariables false
set_option linter.unusedSimpArgs false
section
variable {P : Program} {Γ : Nat → Option Sig} {M : Nat → Prop} {wE : World} {C C0 : Cx} {st : St} {a : Act} {w : World} {S : Nat → Prop}
theorem fin_ok {fn : Func} {ps : List PK} {rs : List RK} {xs : dens ps} {o : outs ps} {r : rdens rs} {vs : List Value} (hS0 : C0.S0 = S) (hS : C0.S = S) (hin : InOut P C0 ps xs startN vs) (hk : Kp C0 (resvP ps xs startN) C st.loc) (hR : Rel P M w C st a) (h : fin P fn ps rs xs st = some (o, r)) :
    Ends P fn (Post S M w ps rs vs o r) a C.w := by
  have hI := hR.inv
  unfold fin at h
  split at h
  · rename_i tvs o' io so htv ho
    split at h
    · rename_i r' ir sr hr
      split at h
      · rename_i hc
        injection h with h
        injection h with h1 h2
        subst h1; subst h2
        simp only [Bool.and_eq_true] at hc
        have hnd := nodupB_ok hc.1
        have hap : ∀ b ∈ so ++ sr, b ∉ io ++ ir := fun b hb => memB_false (noneOf_iff.1 hc.2 b hb)
        have hn := List.nodup_append.1 hnd
        obtain ⟨us, u1, u2, u3, u4⟩ := resTvs_ok hR htv
        obtain ⟨v, hv, hret⟩ := results_run u1
        have hown : ∀ k, ofIds C st.loc (io ++ ir) k → k < C.w.heap.size ∧ ¬ RdS C st.loc (so ++ sr) k ∧ (w.heap.size ≤ k ∨ M k) := fun k hk' => by
          have hk2 := hk'
          obtain ⟨b, hb, ⟨lb, q1, q2⟩, hφ⟩ := hk'
          obtain ⟨p1, p2, p3⟩ := hI.own b lb q1 q2 k hφ
          refine ⟨p1, fun hs => ?_, p3⟩
          rcases hs with hs | hs
          · exact p2 hs
          · exact ofIds_disj hI (i0 := so ++ sr) (i1 := io ++ ir) (fun b1 hb1 b2 hb2 he => hap b1 hb1 (by rw [he]; exact hb2)) k hs hk2
        refine ⟨hR.df, v, hv, us, ofIds C st.loc io, ofIds C st.loc ir, RdS C st.loc (so ++ sr), finO_ok hI hk hin (fun b hb => hb) ho hn.1 (fun b hb => List.mem_append.2 (.inl hb)), finR_ok hI hr u3 u4 hn.2.1 (fun b hb => List.mem_append.2 (.inr hb)), hret, ⟨hI.os, hI.tape, hI.output, hI.size, hI.kept⟩, fun k hk' => ?_, fun k h0 h1 => ofIds_disj hI hn.2.2 k h0 h1, fun k hs => .inl (hk.S k (by rw [hS]; exact hs)), fun k hs => ?_⟩
        · rcases hk' with hk' | hk'
          · exact hown k (ofIds_sub (fun b hb => List.mem_append.2 (.inl hb)) k hk')
          · exact hown k (ofIds_sub (fun b hb => List.mem_append.2 (.inr hb)) k hk')
        · rcases hs with hs | ⟨b, hb, ⟨lb, q1, q2⟩, hφ⟩
          · rcases hI.old k hs with h1 | h1
            · rw [hk.S0, hS0] at h1
              exact .inl h1
            · exact .inr ⟨hI.S_lt k hs, h1⟩
          · obtain ⟨p1, p2, p3⟩ := hI.own b lb q1 q2 k hφ
            exact .inr ⟨p1, p3⟩
      · cases h
    · cases h
  · cases h
/-- A FUNCTION THAT THE EVALUATOR RUNS KEEPS ITS CONTRACT. -/
theorem fnOk {g : Nat} {fn : Func} {s : Sig} {c : Code} (hΓ : ∀ g s, Γ g = some s → FnOk P g s) (hf : P.funcs[g]? = some fn) (hn : (fn.name == "runtime.NumGoroutine") = false) (hb : fn.body = some c) (cut : Nat → Bool) (keep : Nat → List Nat)
    (h : ∀ xs r, s.F xs = some r → ∃ j, whole P Γ fn cut keep s.ps s.rs j xs = some r) : FnOk P g s := by
  refine ⟨fun args w => Go.MuLone.run_callFunc_enter hf hn hb args w, fun xs o r hr w S M vs hS hM hv cs => ?_⟩
  obtain ⟨j, hj⟩ := h xs (o, r) hr
  unfold whole at hj
  split at hj
  case isFalse => cases hj
  rename_i hlow
  obtain ⟨C0, k1, k2, k3, k4, k5, k6⟩ := start_ok (fn := fn) hS hM hv
  have hgo := run_ok (Rt := Post S M w s.ps s.rs vs o r) hΓ hf (fun b hb => by
    have := noneOf_iff.1 hlow b hb
    by_cases hlt : b < 19300000
    · exact hlt
    · rw [Nat.ble_eq_true_of_le (by omega)] at this
      cases this) (fun C st a hp hR h => fin_ok k3 k2 k6 hp hR h) j _ _ C0 _ k5 k4 hj
  have hbo : bodyOf fn = c := by rw [bodyOf, hb]; rfl
  rw [hbo, k1] at hgo
  let b : Frame := { (default : Frame) with fn := g, kind := .normal }
  have henter : Frame.enter P g vs.toArray .normal = b.at { tmps := vs.toArray ++ Array.replicate (fn.ntmps - vs.toArray.size) undef, defers := [] } [.code c] := by
    simp [Frame.enter, Frame.at, hf, hb, b]
  rw [henter]
  exact hgo b cs rfl rfl

/-! ### more rounds, the same answer -/
variable {R : Type}
theorem evAppend_to {L : Nat → Option LB} {d E : Nat} {s x : TV} {e : Eff} {K : Eff → Option R} (h : evAppend P L d E s x some = some e) : evAppend P L d E s x K = K e := by
  unfold evAppend at h ⊢
  repeat' (split at h)
  all_goals first | (cases h; done) | (simp_all; done)
theorem evLit_to {T : Nat → Option TV} {L : Nat → Option LB} {d E len : Nat} {ps : List (Nat × Operand)} {e : Eff} {K : Eff → Option R} (h : evLit P T L d E len ps some = some e) : evLit P T L d E len ps K = K e := by
  unfold evLit at h ⊢
  repeat' (split at h)
  all_goals first | (cases h; done) | (simp_all; done)
theorem evCopy_to {L : Nat → Option LB} {E : Nat} {s x : TV} {e : Eff} {K : Eff → Option R} (h : evCopy P L E s x some = some e) : evCopy P L E s x K = K e := by
  unfold evCopy at h ⊢
  repeat' (split at h)
  all_goals first | (cases h; done) | (simp_all; done)
theorem evCall_to {T : Nat → Option TV} {L : Nat → Option LB} {d : Nat} {f : CV} {vs : List TV} {e : Eff} {K : Eff → Option R} (h : evCall Γ T L d f vs some = some e) : evCall Γ T L d f vs K = K e := by
  unfold evCall at h ⊢
  repeat' (split at h)
  all_goals first | (cases h; done) | skip
  all_goals
    obtain ⟨q, hq, h⟩ := Option.bind_eq_some_iff.1 h
    simp only [hq, Option.bind_some]
    repeat' (split at h)
    all_goals first | (cases h; done) | (simp_all; done)
set_option maxHeartbeats 2000000 in
theorem evEff_to {T : Nat → Option TV} {L : Nat → Option LB} {nid : Nat} {o : Oper} {e : Eff} {K : Eff → Option R} (h : evEff P Γ T L nid o some = some e) : evEff P Γ T L nid o K = K e := by
  unfold evEff at h ⊢
  split at h
  all_goals first
    | exact evLit_to h
    | skip
  all_goals repeat' (split at h)
  all_goals first
    | (cases h; done)
    | exact evAppend_to h
    | exact evCopy_to h
    | exact evCall_to h
    | (rw [if_pos (by assumption)]; exact evAppend_to h)
    | (rw [if_pos (by assumption)]; exact evCopy_to h)
    | (injection h with h; subst h; rw [if_neg (by assumption)]; done)
    | (simp_all; done)
    | skip
theorem evEff_mono {T : Nat → Option TV} {L : Nat → Option LB} {nid : Nat} {o : Oper} {K K' : Eff → Option R} {r : R} (hK : ∀ e r, K e = some r → K' e = some r) (h : evEff P Γ T L nid o K = some r) : evEff P Γ T L nid o K' = some r := by
  obtain ⟨e, h1, h2⟩ := evEff_some h
  rw [evEff_to h1]
  exact hK _ _ h2
theorem evOne_mono {T : Nat → Option TV} {L : Nat → Option LB} {nid : Nat} {o : Oper} {K K' : Eff → Option R} {r : R} (hK : ∀ e r, K e = some r → K' e = some r) (h : evOne P Γ T L nid o K = some r) : evOne P Γ T L nid o K' = some r := by
  unfold evOne at h ⊢
  split at h
  · split at h
    · rename_i hs
      simp only [hs, if_true]
      exact hK _ _ h
    · rename_i hs
      simp only [hs, Bool.false_eq_true, if_false]
      split at h
      · rename_i hn
        rw [if_pos hn]
        obtain ⟨h1, h2⟩ := both_some h
        rw [hK _ _ h1, hK _ _ h2, both_self]
      · rename_i hn
        rw [if_neg hn]
        exact hK _ _ h
  · exact evEff_mono hK h
theorem evOps_mono {rid : Nat} {ops : Array Oper} {K K' : St → Option R} (hK : ∀ s r, K s = some r → K' s = some r) : ∀ {l : List Nat} {st : St} {r : R}, evOps P Γ rid ops l st K = some r → evOps P Γ rid ops l st K' = some r
  | [], st, r, h => hK _ _ h
  | i :: l, st, r, h => by
    have ih := fun st r => evOps_mono (rid := rid) (ops := ops) hK (l := l) (st := st) (r := r)
    simp only [evOps] at h ⊢
    split at h
    case h_2 => cases h
    split at h
    · split at h
      · rename_i hf
        simp only [hf, if_true]
        exact evOne_mono (fun e r hr => ih _ _ hr) h
      · cases h
    · split at h
      case h_2 => cases h
      rename_i d hd
      try rw [hd]
      try simp only
      split at h
      case h_2 => cases h
      rename_i b hb
      try rw [hb]
      try simp only
      split at h
      · split at h
        · split at h
          · simp only [*, if_true]
            exact evOne_mono (fun e r hr => ih _ _ hr) h
          · cases h
        · simp only [*, if_true]
          exact ih _ _ h
      · split at h
        · simp only [*, if_true, if_false]
          exact ih _ _ h
        · split at h
          · simp only [*, if_true, if_false]
            exact evOne_mono (fun e r hr => ih _ _ hr) h
          · cases h
theorem evDraw_mono {rid : Nat} {ops : Array Oper} {K K' : St → Option R} (hK : ∀ s r, K s = some r → K' s = some r) : ∀ {l : List Nat} {acc : List Done} {st : St} {r : R}, evDraw P Γ rid ops l acc st K = some r → evDraw P Γ rid ops l acc st K' = some r
  | [], acc, st, r, h => hK _ _ h
  | i :: l, acc, st, r, h => by
    have ih := fun acc st r => evDraw_mono (rid := rid) (ops := ops) hK (l := l) (acc := acc) (st := st) (r := r)
    have next : ∀ {c : Bool} {acc st r}, (if c = true then evDraw P Γ rid ops l acc st K else none) = some r → (if c = true then evDraw P Γ rid ops l acc st K' else none) = some r := fun {c acc st r} h => by
      split at h
      · rw [if_pos (by assumption)]; exact ih _ _ _ h
      · cases h
    simp only [evDraw] at h ⊢
    split at h
    case h_2 => cases h
    split at h
    case isFalse => cases h
    rename_i hc
    simp only [hc, if_true]
    split at h
    · exact evEff_mono (fun e r hr => next hr) h
    · split at h
      case h_2 => cases h
      rename_i d hd
      try rw [hd]
      try simp only
      split at h
      case h_2 => cases h
      rename_i b hb
      try rw [hb]
      try simp only
      split at h
      · rename_i hw
        rw [if_pos hw]
        exact evEff_mono (fun e r hr => next hr) h
      · rename_i hw
        rw [if_neg hw]
        exact next h
theorem seg_mono {fi : St → Option R} {cut : Nat → Bool} {lp lp' : List Item → St → Option R} (hlp : ∀ k s r, lp k s = some r → lp' k s = some r) : ∀ (n : Nat) (fl : Bool) (todo : List Item) (st : St) (r : R), segr P Γ fi cut lp n fl todo st = some r → segr P Γ fi cut lp' n fl todo st = some r := by
  intro n
  induction n with
  | zero => intro fl todo st r h; simp [segr] at h
  | succ n ih =>
    intro fl todo st r h
    match todo with
    | [] => simpa [segr] using h
    | .inBlock id :: k => simp only [segr] at h ⊢; exact ih _ _ _ _ h
    | .inLoop c :: k => simp only [segr] at h ⊢; exact hlp _ _ _ h
    | .code c :: k =>
      cases c with
      | skip => simp only [segr] at h ⊢; exact ih _ _ _ _ h
      | seq x y => simp only [segr] at h ⊢; exact ih _ _ _ _ h
      | block id c => simp only [segr] at h ⊢; exact ih _ _ _ _ h
      | loop c => simp only [segr] at h ⊢; exact hlp _ _ _ h
      | ret => simpa [segr] using h
      | exit id =>
        simp only [segr] at h ⊢
        split at h
        · exact ih _ _ _ _ h
        · cases h
      | cond x c1 c2 =>
        simp only [segr] at h ⊢
        split at h
        · split at h
          · rename_i ht
            rw [if_pos ht]
            exact ih _ _ _ _ h
          · rename_i ht
            rw [if_neg ht]
            exact ih _ _ _ _ h
        · cases h
      | region id ops draw =>
        simp only [segr] at h ⊢
        split at h
        · rename_i hc
          rw [if_pos hc]
          exact hlp _ _ _ h
        · rename_i hc
          rw [if_neg hc]
          split at h
          · rename_i hd
            rw [if_pos hd]
            split at h
            · rename_i hm
              rw [if_pos hm]
              exact evDraw_mono (fun s r hr => ih _ _ _ _ hr) h
            · cases h
          · rename_i hd
            rw [if_neg hd]
            exact evOps_mono (fun s r hr => ih _ _ _ _ hr) h
      | _ => simp [segr] at h
    | .inScope _ :: _ | .inRegion _ _ :: _ | .inRangeFunc _ :: _ | .endRangeFunc _ :: _ => simp [segr] at h
theorem run_mono {fi : St → Option R} {cut : Nat → Bool} {resv : List Nat} {keep : Nat → List Nat} : ∀ (j : Nat) (todo : List Item) (st : St) (r : R), run P Γ fi cut resv keep j todo st = some r → run P Γ fi cut resv keep (j + 1) todo st = some r := by
  intro j
  induction j with
  | zero => intro todo st r h; simp [run] at h
  | succ j ih =>
    intro todo st r h
    rw [run] at h ⊢
    exact seg_mono (fun k s r hr => ih _ _ _ hr) _ _ _ _ _ h
theorem whole_mono {fn : Func} {cut : Nat → Bool} {keep : Nat → List Nat} {ps : List PK} {rs : List RK} {xs : dens ps} (j : Nat) (r : outs ps × rdens rs) (h : whole P Γ fn cut keep ps rs j xs = some r) : whole P Γ fn cut keep ps rs (j + 1) xs = some r := by
  unfold whole at h ⊢
  split at h
  · rename_i hc
    rw [if_pos hc]
    exact run_mono _ _ _ _ h
  · cases h
/-- What a function computes. -/
noncomputable def sigOf (P : Program) (Γ : Nat → Option Sig) (fn : Func) (cut : Nat → Bool) (keep : Nat → List Nat) (ps : List PK) (rs : List RK) : Sig := ⟨ps, rs, fun xs => lim fun j => whole P Γ fn cut keep ps rs j xs⟩
theorem sigOk {g : Nat} {fn : Func} {c : Code} {cut : Nat → Bool} {keep : Nat → List Nat} {ps : List PK} {rs : List RK} (hΓ : ∀ g s, Γ g = some s → FnOk P g s) (hf : P.funcs[g]? = some fn) (hn : (fn.name == "runtime.NumGoroutine") = false) (hb : fn.body = some c) : FnOk P g (sigOf P Γ fn cut keep ps rs) :=
  fnOk hΓ hf hn hb cut keep fun xs r h => lim_some h
theorem sigOf_of {fn : Func} {cut : Nat → Bool} {keep : Nat → List Nat} {ps : List PK} {rs : List RK} {xs : dens ps} {j : Nat} {r : outs ps × rdens rs} (h : whole P Γ fn cut keep ps rs j xs = some r) : (sigOf P Γ fn cut keep ps rs).F xs = some r :=
  lim_of (fun j r h => whole_mono j r h) h
def kp : List (Nat × List Nat) → Nat → List Nat
  | [], _ => []
  | x :: l, n => bif Nat.beq x.1 n then x.2 else kp l n
def memC (l : List Nat) (n : Nat) : Bool := memB n l
theorem lim_const {A : Type} (t : Option A) : lim (fun _ => t) = t := by
  cases t with
  | none =>
    cases h : lim (fun _ : Nat => (none : Option A)) with
    | none => rfl
    | some r =>
      obtain ⟨j, hj⟩ := lim_some h
      cases hj
  | some r => exact lim_of (G := fun _ => some r) (j := 0) (fun j r h => h) rfl
theorem lim_ite {A : Type} {c : Prop} [Decidable c] (a b : Nat → Option A) : lim (fun j => if c then a j else b j) = if c then lim a else lim b := by
  by_cases h : c
  · simp only [if_pos h]
  · simp only [if_neg h]
theorem lim_bind {A B : Type} (o : Option B) (k : Nat → B → Option A) : lim (fun j => o.bind (k j)) = o.bind fun r => lim fun j => k j r := by
  cases o with
  | none => exact lim_const none
  | some r => rfl
theorem lim_succ {A : Type} {G : Nat → Option A} (hm : ∀ j r, G j = some r → G (j + 1) = some r) : lim G = lim (fun j => G (j + 1)) := by
  cases h : lim (fun j => G (j + 1)) with
  | some r =>
    obtain ⟨j, hj⟩ := lim_some h
    exact lim_of hm hj
  | none =>
    cases h' : lim G with
    | none => rfl
    | some r =>
      obtain ⟨j, hj⟩ := lim_some h'
      rw [lim_of (G := fun j => G (j + 1)) (fun j r h => hm _ _ h) (hm _ _ hj)] at h
      cases h
/-- A table of known functions. -/
def tab : List (Nat × Sig) → Nat → Option Sig
  | [], _ => none
  | x :: l, n => bif Nat.beq n x.1 then some x.2 else tab l n
theorem tab_nil {P : Program} : ∀ g s, tab [] g = some s → FnOk P g s := fun g s h => by cases h
theorem tab_cons {P : Program} {n : Nat} {s0 : Sig} {l : List (Nat × Sig)} (h0 : FnOk P n s0) (h : ∀ g s, tab l g = some s → FnOk P g s) : ∀ g s, tab ((n, s0) :: l) g = some s → FnOk P g s := fun g s hg => by
  simp only [tab] at hg
  cases hb : Nat.beq g n with
  | true =>
    rw [hb] at hg
    simp only [cond_true] at hg
    injection hg with hg
    rw [Nat.eq_of_beq_eq_true hb, ← hg]
    exact h0
  | false =>
    rw [hb] at hg
    exact h g s hg
end
end Go.Proofs.Ytceffcfnjjlbkaa.E
