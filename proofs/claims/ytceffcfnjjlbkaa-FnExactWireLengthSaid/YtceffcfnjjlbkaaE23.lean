/- The evaluator, 23: a drawing region, whatever the order. -/
import Derived.Test.YtceffcfnjjlbkaaE22
namespace Go.Proofs.Ytceffcfnjjlbkaa.E
open Go.RowKit
set_option linter.unusedVariables false
set_option linter.unusedSimpArgs false
section
variable {P : Program} {Γ : Nat → Option Sig} {ops : Array Oper} {st0 : St} {M : Nat → Prop} {wE : World} {C : Cx} {st : St} {a : Act}
theorem Rel.un (hR : Rel P M wE C st a) (d : Option Nat) (v : Value) : Rel P M wE C (st.put d (.c .un)) (a.put d v) := by
  have := hR.val (tv := .c .un) (d := d) (v := v) trivial
  have e : st.apply d ⟨.c .un, []⟩ = st.put d (.c .un) := by
    cases d <;> rfl
  rw [e] at this
  exact this
theorem yielded_ok (hR : Rel P M wE C st a) {j d : Nat} {b : Bool} (hj : (ops[j]?).bind (·.dst) = some d) (hd : st.tm[d]? = some (.c (.bool b))) : yielded ops a.tmps j = some b := by
  have hv : a.tmps.getD d undef = .bool b := hR.tm d _ hd
  have hlt : d < a.tmps.size := by rw [hR.sz]; exact (List.getElem?_eq_some_iff.1 hd).1
  have : a.tmps[d]? = some (.bool b) := by
    rw [Array.getElem?_eq_getElem hlt]
    simp [Array.getD, hlt] at hv
    rw [hv]
  simp [yielded, hj, this]
theorem agree {acc : List Done} {S : St} (ht : Text P Γ ops st0 acc S) {D : Nat → Bool} (hD : ∀ y ∈ acc, D y.i = true → ∀ k ∈ y.anc, D k = true) {x : Done} (hm : x ∈ acc) (hx : D x.i = false) (hanc : ∀ k ∈ x.anc, D k = true) : ∀ y ∈ acc, D y.i ≠ decide (y.i < x.i) → Indep x y := by
  intro y hy hne
  cases hdy : D y.i with
  | true =>
    rw [hdy] at hne
    have hge : ¬ y.i < x.i := fun h => hne (by simp [h])
    have hne' : y.i ≠ x.i := fun h => by rw [h, hx] at hdy; cases hdy
    rcases ht.pairs y hy x hm (by omega) with h | h
    · rw [hD y hy hdy _ h] at hx; cases hx
    · exact h.symm
  | false =>
    rw [hdy] at hne
    have hlt : y.i < x.i := by
      by_cases h : y.i < x.i
      · exact h
      · exact absurd (by simp [h]) hne
    rcases ht.pairs x hm y hy hlt with h | h
    · rw [hanc _ h] at hdy; cases hdy
    · exact h
theorem sees_app {acc : List Done} {D D' : Nat → Bool} {x : Done} (h : ∀ y ∈ acc, D y.i ≠ D' y.i → Indep x y) : Sees (restr x.tmps (tget (app st0 D' acc).tm)) (restr x.foot (lget (app st0 D' acc).loc)) (app st0 D acc) := by
  refine ⟨fun t v hv => ?_, fun b lb hb => ?_⟩
  · unfold restr at hv
    cases ht : memB t x.tmps with
    | false => rw [ht] at hv; cases hv
    | true =>
      rw [ht] at hv
      simp only [cond_true] at hv
      rw [tget_eq] at hv
      rw [app_tm (D' := D')]
      · exact hv
      · intro y hy hne hd
        exact ((h y hy hne).dst' t hd).1 (memB_iff.1 ht)
  · unfold restr at hb
    cases ht : memB b x.foot with
    | false => rw [ht] at hb; cases hb
    | true =>
      rw [ht] at hb
      simp only [cond_true] at hb
      rw [app_loc (D' := D')]
      · exact hb
      · intro y hy hne hd
        exact ((h y hy hne).upd' b hd).1 (memB_iff.1 ht)
theorem fresh_app {acc : List Done} {D D' : Nat → Bool} {x : Done} (h : ∀ y ∈ acc, D y.i ≠ D' y.i → Indep x y) (hf : freshB x.nid (app st0 D' acc).loc = true) : ∀ j, j < 64 → lget (app st0 D acc).loc (64 * x.nid + j) = none := fun j hj => by
  rw [app_loc (D' := D')]
  · exact freshB_ok hf j hj
  · intro y hy hne hm
    exact ((h y hy hne).upd' _ hm).2.2 (by omega)
theorem guard_app {acc : List Done} {D D' : Nat → Bool} {x : Done} (h : ∀ y ∈ acc, D y.i ≠ D' y.i → Indep x y) {o : Oper} (hx : x.tmps = o.looksAt ops) {c : Bool} (hg : Guards ops (app st0 D' acc) o x.tmps c) (hR : Rel P M wE C (app st0 D acc) a) : Region.wanted o (yielded ops a.tmps) = c := by
  obtain ⟨j, want, d, b, h1, h2, h3, h4⟩ := hg
  have hd : d ∈ x.tmps := by
    rw [hx]
    simp [Oper.looksAt, h1, h2]
  have hv : (app st0 D acc).tm[d]? = some (.c (.bool b)) := by
    rw [app_tm (D' := D'), ← tget_eq]
    · exact h3
    · intro y hy hne hdd
      exact ((h y hy hne).dst' d hdd).1 hd
  have hy := yielded_ok hR h2 hv
  simp only [Region.wanted, h1, hy]
  cases c <;> cases b <;> cases want <;> simp_all
/-- What goes on from memory to memory. -/
def Carries (Pz : Cx → Loc → Prop) : Prop := ∀ C C' l l', Pz C l → Ext C C' l l' → Pz C' l'
theorem draw_any {Pz : Cx → Loc → Prop} (hPz : Carries Pz) (hΓ : ∀ g s, Γ g = some s → FnOk P g s) {acc : List Done} {S : St} (ht : Text P Γ ops st0 acc S) (hlen : acc.length = ops.size) {N : Act → World → Prop} {Q : Exit → Act → World → Prop} (hQ : ∀ a w, N a w → Q .normal a w)
    (hN : ∀ C a, Pz C S.loc → Rel P M wE C S a → N a C.w) : ∀ (fuel : Nat) (listed : Array Bool) (C : Cx) (st : St) (a : Act), listed.size = ops.size → listed.toList.count true + fuel = ops.size → (∀ y ∈ acc, listed.getD y.i false = true → ∀ k ∈ y.anc, listed.getD k false = true) →
    Pz C st.loc → Rel P M wE C st a → Sim st (app st0 (fun k => listed.getD k false) acc) → wpAny P .any ops Q fuel listed a C.w := by
  have hidx := ht.idx
  have fin : ∀ (listed : Array Bool) (C : Cx) (st : St) (a : Act), (∀ k, k < ops.size → listed.getD k false = true) → Pz C st.loc → Rel P M wE C st a → Sim st (app st0 (fun k => listed.getD k false) acc) → Q .normal a C.w := fun listed C st a hall hz hR hs => by
    rw [app_congr (D' := fun _ => true) (fun x hx => by simpa using hall x.i (by rw [← hlen]; exact hidx.1 x hx)), ← ht.full] at hs
    exact hQ _ _ (hN C a (hPz _ _ _ _ hz (Ext.same C hs.loc)) (hR.same hs))
  intro fuel
  induction fuel with
  | zero =>
    intro listed C st a hsz hcnt hcl hz hR hs
    have hall : ∀ k, k < ops.size → listed.getD k false = true := fun k hk => by
      have : listed.toList.count true = listed.toList.length := by rw [Array.length_toList]; omega
      have := List.count_eq_length.1 this (listed[k]'(by omega)) (by simp)
      simp [Array.getD, show k < listed.size by omega, ← this]
    refine ⟨?_, fin listed C st a hall hz hR hs⟩
    cases hr : Region.ready .any ops listed with
    | nil => rfl
    | cons i l =>
      have : i ∈ Region.ready .any ops listed := by rw [hr]; exact List.mem_cons_self ..
      obtain ⟨h1, o, ho, _⟩ := mem_ready.1 this
      have hlt := (Array.getElem?_eq_some_iff.1 ho).1
      have := hall i hlt
      have hl : i < listed.size := by omega
      simp [Array.getD, hl] at h1 this
      rw [this] at h1
      cases h1
  | succ fuel ih =>
    intro listed C st a hsz hcnt hcl hz hR hs
    refine ⟨fun hr => fin listed C st a (fun k => ?_) hz hR hs, fun i hi => ?_⟩
    · -- the first that is not done would be ready
      induction k using Nat.strongRecOn with
      | ind k ihk =>
        intro hk
        cases hd : listed.getD k false with
        | true => rfl
        | false =>
          obtain ⟨x, hx, hxi⟩ := hidx.2.2 k (by omega)
          obtain ⟨o, ho, _, _, hed, _⟩ := (ht.valid x hx).ok
          have : k ∈ Region.ready .any ops listed := mem_ready.2 ⟨by
            have hl : k < listed.size := by omega
            simpa [Array.getD, hl] using hd, o, by rw [← hxi]; exact ho, fun e he hb => ihk e.on (by have := hed e he hb; omega) (by have := hed e he hb; omega)⟩
          rw [hr] at this
          cases this
    · obtain ⟨h1, o, ho, hed⟩ := mem_ready.1 hi
      have hlt := (Array.getElem?_eq_some_iff.1 ho).1
      have hl : i < listed.size := by omega
      have hnd : listed.getD i false = false := by simpa [Array.getD, hl] using h1
      obtain ⟨x, hx, hxi⟩ := hidx.2.2 i (by omega)
      have hval := ht.valid x hx
      obtain ⟨o', ho', hdst, htm, hedge, hcase⟩ := hval.ok
      rw [hxi, ho] at ho'
      injection ho' with ho'
      subst ho'
      have hanc : ∀ k ∈ x.anc, listed.getD k false = true := fun k hk => by
        obtain ⟨o2, q1, e, q2, q3, q4⟩ := ht.anc x hx k hk
        rw [hxi, ho] at q1
        injection q1 with q1
        subst q1
        rcases q4 with rfl | ⟨y, hy, hye, hky⟩
        · exact hed e q2 q3
        · exact hcl y hy (by rw [hye]; exact hed e q2 q3) k hky
      have hag := agree ht (D := fun k => listed.getD k false) hcl hx (by rw [hxi]; exact hnd) hanc
      have hR' := hR.same hs
      have hz' := hPz _ _ _ _ hz (Ext.same C hs.loc)
      -- behind it
      have hsz' : (listed.setIfInBounds i true).size = ops.size := by simpa using hsz
      have hD' : ∀ k, (listed.setIfInBounds i true).getD k false = (listed.getD k false || Nat.beq k x.i) := fun k => by
        rw [hxi]
        by_cases hki : i = k
        · subst hki
          simp [Array.getD, hl]
        · rw [getD_set_ne false hki, show Nat.beq k i = false by
            cases hb : Nat.beq k i with
            | false => rfl
            | true => exact absurd (Nat.eq_of_beq_eq_true hb).symm hki]
          simp
      have hcnt' : (listed.setIfInBounds i true).toList.count true + fuel = ops.size := by
        rw [Array.toList_setIfInBounds, List.count_set (by simpa using hl)]
        have : listed.toList[i]'(by simpa using hl) = false := by simpa [Array.getD, hl] using hnd
        rw [this]
        show listed.toList.count true - 0 + 1 + fuel = ops.size
        omega
      have hcl' : ∀ y ∈ acc, (listed.setIfInBounds i true).getD y.i false = true → ∀ k ∈ y.anc, (listed.setIfInBounds i true).getD k false = true := fun y hy hyd k hk => by
        rw [hD'] at hyd ⊢
        simp only [Bool.or_eq_true] at hyd ⊢
        rcases hyd with hyd | hyd
        · exact .inl (hcl y hy hyd k hk)
        · have hyx : y.i = x.i := Nat.eq_of_beq_eq_true hyd
          have : y = x := by
            obtain ⟨n1, hn1, he1⟩ := List.getElem_of_mem hy
            obtain ⟨n2, hn2, he2⟩ := List.getElem_of_mem hx
            have hp := List.pairwise_iff_getElem.1 hidx.2.1
            rcases Nat.lt_trichotomy n1 n2 with hlt' | heq | hgt
            · exact ((hp n1 n2 (by simpa using hn1) (by simpa using hn2) hlt') (by simp [he1, he2, hyx])).elim
            · subst heq
              rw [← he1, he2]
            · exact ((hp n2 n1 (by simpa using hn2) (by simpa using hn1) hgt) (by simp [he1, he2, hyx])).elim
          subst this
          exact .inl (hanc k hk)
      have hsim : Sim ((app st0 (fun k => listed.getD k false) acc).apply x.dst x.eff) (app st0 (fun k => (listed.setIfInBounds i true).getD k false) acc) := by
        have := app_step (st0 := st0) (D := fun k => listed.getD k false) (x := x) (by rw [hxi]; exact hnd) hx hidx.2.1 (fun pre post y he hp hdy => by
          have hlat := ht.later pre post y he x hp
          have hy : y ∈ acc := by rw [he]; simp
          rcases ht.pairs y hy x hx hlat with h | h
          · have := hcl y hy hdy _ h
            rw [hxi, hnd] at this
            cases this
          · exact h)
        rw [show (fun k => (listed.setIfInBounds i true).getD k false) = fun k => (listed.getD k false || Nat.beq k x.i) from funext hD']
        exact this.symm
      unfold wpOp
      rw [ho]
      simp only
      rcases hcase with ⟨hg, heff⟩ | ⟨hg, heff⟩
      · have hw : Region.wanted o (yielded ops a.tmps) = true := by
          rcases hg with hg | hg
          · simp [Region.wanted, hg]
          · exact guard_app hag htm hg hR'
        rw [if_pos hw]
        obtain ⟨eff, he, hdoes⟩ := evEff_ok hΓ hR' (sees_app hag) (fresh_app hag hval.fresh) heff
        injection he with he
        subst he
        refine .inl (hdoes _ _ fun C' a' hE hR2 => ?_)
        rw [← hdst] at hR2
        exact ih _ C' _ a' hsz' hcnt' hcl' (hPz _ _ _ _ hz' hE) hR2 hsim
      · have hw : Region.wanted o (yielded ops a.tmps) = false := guard_app hag htm hg hR'
        rw [if_neg (by rw [hw]; simp)]
        have hR2 := hR'.val (tv := .c .un) (d := o.dst) (v := undef) trivial
        rw [← hdst, ← heff] at hR2
        rw [← hdst]
        refine ih _ C _ _ hsz' hcnt' hcl' (hPz _ _ _ _ hz' ?_) hR2 hsim
        rw [heff]
        exact Ext.refl _ _
end
end Go.Proofs.Ytceffcfnjjlbkaa.E
