/- A typed evaluator for loaded code, 11: a function that the evaluator runs to its end does so. -/
import Derived.Test.YtceffcfnjjlbkaaV9
namespace Go.Proofs.Ytceffcfnjjlbkaa.V
open Go.RowKit Go.Proofs.YtceffcfnjjlbkaaW.PrintWords Go.Proofs.YtceffcfnjjlbkaaW.PrintLast Go.Proofs.YtceffcfnjjlbkaaW.PrintMore
set_option linter.unusedVariables false
set_option linter.unusedSimpArgs false
section
variable {P : Program} {Γ : Nat → Option Sig} {B : Nat} {wE : World} {C : Cx} {st : St} {a : Act}

/-! ### at the head of a loop -/
theorem reach_ok (loc : List LB) : ∀ (n : Nat) (l acc : List Nat), acc.Nodup → (∀ b ∈ acc, b < loc.length) → (reach loc n l acc).Nodup ∧ ∀ b ∈ reach loc n l acc, b < loc.length
  | 0, l, acc, h1, h2 => ⟨h1, h2⟩
  | n + 1, [], acc, h1, h2 => ⟨h1, h2⟩
  | n + 1, b :: l, acc, h1, h2 => by
    simp only [reach]
    split
    · exact reach_ok loc n l acc h1 h2
    · rename_i hb
      split
      · rename_i hlt
        refine reach_ok loc n _ _ ?_ ?_
        · rw [List.nodup_append]
          exact ⟨h1, by simp, fun x hx y hy => by simp at hy; subst hy; exact fun he => hb (he ▸ hx)⟩
        · intro x hx
          rcases List.mem_append.1 hx with hx | hx
          · exact h2 x hx
          · simp at hx
            subst hx
            exact hlt
      · exact reach_ok loc n l acc h1 h2
theorem nodup_inj {l : List Nat} (hnd : l.Nodup) {i j : Nat} (hi : i < l.length) (hj : j < l.length) (h : l[i] = l[j]) : i = j := by
  have hp := List.pairwise_iff_getElem.1 hnd
  rcases Nat.lt_trichotomy i j with hl | hl | hl
  · exact absurd h (hp i j hi hj hl)
  · exact hl
  · exact absurd h.symm (hp j i hj hi hl)
def Cx.ren (C : Cx) (ord : List Nat) : Cx := { w := C.w, N := ord.length, S := C.S, ρ := fun j => C.ρ (ord.getD j 0), φ := fun j => C.φ (ord.getD j 0) }
theorem idx_get {ord : List Nat} {b : Nat} (h : b ∈ ord) : ord.idxOf b < ord.length ∧ ord.getD (ord.idxOf b) 0 = b := by
  have hlt := List.idxOf_lt_length_iff.2 h
  refine ⟨hlt, ?_⟩
  rw [List.getD_eq_getElem?_getD, List.getElem?_eq_getElem hlt]
  simp
theorem RC_ren {ord : List Nat} {x : CV} {v : Value} (h : RC C x v) : RC (C.ren ord) (renC ord x) v := by
  cases x with
  | own b =>
    simp only [renC]
    split
    · rename_i hb
      obtain ⟨h1, h2⟩ := idx_get hb
      exact ⟨h1, by rw [h.2.1]; show _ = C.ρ _; rw [h2], h.2.2⟩
    · trivial
  | ptr b off =>
    simp only [renC]
    split
    · rename_i hb
      obtain ⟨h1, h2⟩ := idx_get hb
      obtain ⟨_, g, h3, h4⟩ := h
      exact ⟨h1, g, by show C.ρ _ = _; rw [h2]; exact h3, h4⟩
    · trivial
  | eptr b sz i off =>
    simp only [renC]
    split
    · rename_i hb
      obtain ⟨h1, h2⟩ := idx_get hb
      obtain ⟨_, g, n, c, h3, h4⟩ := h
      exact ⟨h1, g, n, c, by show C.ρ _ = _; rw [h2]; exact h3, h4⟩
    · trivial
  | _ => exact h
theorem RCs_ren {ord : List Nat} {cs : List CV} {vs : List Value} (h : RCs C cs vs) : RCs (C.ren ord) (cs.map (renC ord)) vs := by
  refine ⟨by rw [List.length_map]; exact h.1, fun j c v hc hv => ?_⟩
  rw [List.getElem?_map] at hc
  obtain ⟨x, hx, rfl⟩ := Option.map_eq_some_iff.1 hc
  exact RC_ren (h.2 j x v hx hv)
theorem RV_ren {ord : List Nat} {x : TV} {v : Value} (h : RV C x v) : RV (C.ren ord) (renT ord x) v := by
  cases x with
  | c x => exact RC_ren h
  | agg cs =>
    obtain ⟨vs, h1, h2⟩ := h
    exact ⟨vs, RCs_ren h1, h2⟩
  | tup xs =>
    obtain ⟨us, h1, h2, h3⟩ := h
    refine ⟨us, h1, by rw [List.length_map]; exact h2, fun j y u hy hu => ?_⟩
    rw [List.getElem?_map] at hy
    obtain ⟨x, hx, rfl⟩ := Option.map_eq_some_iff.1 hy
    obtain ⟨vs, h4, h5⟩ := h3 j x u hx hu
    exact ⟨vs, RCs_ren h4, h5⟩
theorem getD_get {l : List Nat} {j : Nat} (h : j < l.length) : l.getD j 0 = l[j] := by simp [h]
theorem clean_ok (hR : Rel B wE C st a) (keep : List Nat) : ∃ C', Rel B wE C' (clean keep st) a ∧ C'.w = C.w := by
  unfold clean
  generalize hord : reach st.loc 1000 ((st.tm.zipIdx.map fun x => if x.2 ∈ keep then x.1 else TV.c .un).flatMap refsT) [] = ord
  obtain ⟨hnd, hlt⟩ := reach_ok st.loc 1000 ((st.tm.zipIdx.map fun x => if x.2 ∈ keep then x.1 else TV.c .un).flatMap refsT) [] List.nodup_nil (fun b hb => by cases hb)
  rw [hord] at hnd hlt
  simp only [hord]
  refine ⟨C.ren ord, ⟨⟨by simp [Cx.ren], hR.inv.below, hR.inv.base, hR.inv.S_base, hR.inv.S_lt, fun j lb hj => ?_, fun i j l l' hne hi hj ha ha' k hk hk' => ?_⟩, by simpa using hR.sz, fun i tv hi => ?_, hR.df⟩, rfl⟩
  · rw [List.getElem?_map] at hj
    obtain ⟨b, hb, rfl⟩ := Option.map_eq_some_iff.1 hj
    have hjl : j < ord.length := (List.getElem?_eq_some_iff.1 hb).1
    have hbm : b ∈ ord := List.mem_of_getElem? hb
    have hbj : ord.getD j 0 = b := by rw [List.getD_eq_getElem?_getD, hb]; rfl
    have hbl := hlt b hbm
    have hget : st.loc.getD b .dead = st.loc[b] := by simp [hbl]
    rw [hget]
    have hRb := hR.inv.ok b _ (List.getElem?_eq_getElem hbl)
    cases hlb : st.loc[b] with
    | dead => trivial
    | cells T cs =>
      rw [hlb] at hRb
      obtain ⟨g, vs, h1, h2, h3, h4, h5, h6⟩ := hRb
      exact ⟨g, vs, by show C.ρ _ = _; rw [hbj]; exact h1, h2, h3, by show ∀ k, C.φ _ k ↔ _; rw [hbj]; exact h4, h5, RCs_ren h6⟩
    | row e t xs =>
      rw [hlb] at hRb
      obtain ⟨h1, h2, h3, h4⟩ := hRb
      show Kd.S t.kd e C.w B (C.φ _) (C.ρ _) xs ∧ (∀ k, C.φ _ k → _) ∧ (∀ k, (C.ρ _).ownBlock = some k → _) ∧ ∀ k, C.φ _ k → (C.ρ _).ownBlock ≠ some k → _
      rw [hbj]
      exact ⟨h1, h2, h3, h4⟩
  · rw [List.getElem?_map] at hi hj
    obtain ⟨b, hb, rfl⟩ := Option.map_eq_some_iff.1 hi
    obtain ⟨b', hb', rfl⟩ := Option.map_eq_some_iff.1 hj
    have hbl := hlt b (List.mem_of_getElem? hb)
    have hbl' := hlt b' (List.mem_of_getElem? hb')
    have e1 : ord.getD i 0 = b := by rw [List.getD_eq_getElem?_getD, hb]; rfl
    have e2 : ord.getD j 0 = b' := by rw [List.getD_eq_getElem?_getD, hb']; rfl
    have hne' : b ≠ b' := by
      intro he
      subst he
      obtain ⟨h1, h2⟩ := List.getElem?_eq_some_iff.1 hb
      obtain ⟨h3, h4⟩ := List.getElem?_eq_some_iff.1 hb'
      exact hne (nodup_inj hnd h1 h3 (h2.trans h4.symm))
    have hk1 : C.φ b k := by rw [← e1]; exact hk
    have hk2 : C.φ b' k := by rw [← e2]; exact hk'
    have hal : ∀ {b : Nat} (hb : b < st.loc.length), (renL ord (st.loc.getD b .dead)).alive = true → (st.loc[b]).alive = true := by
      intro b hb h
      have hget : st.loc.getD b .dead = st.loc[b] := by simp [hb]
      rw [hget] at h
      cases hq : st.loc[b] with
      | dead => rw [hq] at h; exact h
      | _ => rfl
    exact hR.inv.disj b b' _ _ hne' (List.getElem?_eq_getElem hbl) (List.getElem?_eq_getElem hbl') (hal hbl ha) (hal hbl' ha') k hk1 hk2
  · rw [List.getElem?_map] at hi
    obtain ⟨x, hx, rfl⟩ := Option.map_eq_some_iff.1 hi
    rw [List.getElem?_map] at hx
    obtain ⟨y, hy, rfl⟩ := Option.map_eq_some_iff.1 hx
    rw [List.getElem?_zipIdx] at hy
    obtain ⟨z, hz, rfl⟩ := Option.map_eq_some_iff.1 hy
    refine RV_ren ?_
    dsimp only
    split
    · exact hR.tm i z hz
    · trivial
theorem run_ok (hΓ : ∀ g s, Γ g = some s → FnOk P g s) {f : Nat} {fn : Func} (hf : P.funcs[f]? = some fn) {R : Type} {r : R} {Rt : Ending → World → Prop} {fi : St → Option R} {cut : Nat → Bool} {keep : Nat → List Nat}
    (hfin : ∀ C st a, Rel B wE C st a → fi st = some r → Ends P fn Rt a C.w) : ∀ (j : Nat) (todo : List Item) (st : St) (C : Cx) (a : Act), Rel B wE C st a → run P Γ fi cut keep j todo st = some r → Goes P f Rt (arr todo) a C.w := by
  intro j
  induction j with
  | zero => intro todo st C a hR h; simp [run] at h
  | succ j ih =>
    intro todo st C a hR h
    simp only [run] at h
    refine seg_ok hΓ hf hfin (fun C st a todo hR h => ?_) 2000 true (arr todo) _ C a hR h
    obtain ⟨C', hR', hw⟩ := clean_ok hR (keep (keyOf todo))
    rw [← hw]
    exact ih todo _ C' a hR' h

/-! ### results -/
theorem owned_cons {c : CV} {cs : List CV} {ids : List Nat} (h : owned (c :: cs) = some ids) : (∃ b l, c = .own b ∧ owned cs = some l ∧ ids = b :: l) ∨ ((∀ b, c ≠ .own b) ∧ owned cs = some ids) := by
  cases c with
  | own b =>
    simp only [owned] at h
    obtain ⟨l, hl, rfl⟩ := Option.map_eq_some_iff.1 h
    exact .inl ⟨_, l, rfl, hl, rfl⟩
  | _ =>
    simp only [owned] at h
    first
      | exact .inr ⟨fun b hb => (by cases hb), h⟩
      | cases h
def OwnedBy (C : Cx) (loc : List LB) (ids : List Nat) (k : Nat) : Prop := ∃ b ∈ ids, ∃ lb, loc[b]? = some lb ∧ lb.alive = true ∧ C.φ b k
theorem fresh_ok (hI : Inv B wE C st.loc) : ∀ {t : Ty} {cs : List CV} {x : t.den} {r : List CV}, unflat st.loc t cs = some (x, r) → ∀ {vs : List Value}, RCs C cs vs → ∀ {ids : List Nat}, owned cs = some ids → ids.Nodup →
    ∃ c0 c1 ids0 ids1, vs = c0 ++ c1 ∧ ids = ids0 ++ ids1 ∧ owned r = some ids1 ∧ RCs C r c1 ∧ Fresh C.w B t (OwnedBy C st.loc ids0) x c0
  | .int k, cs, x, r, h, vs, hv, ids, ho, hn => by
    match cs, h with
    | .int k' n :: r', h =>
      simp only [unflat] at h
      split at h
      · rename_i hk
        injection h with h
        injection h with h1 h2
        subst hk; subst h1; subst h2
        obtain ⟨v, vs', rfl, hc, hr⟩ := RCs_cons hv
        exact ⟨[v], vs', [], ids, rfl, rfl, ho, hr, by rw [show v = _ from hc]; rfl⟩
      · cases h
    | [], h | .bool _ :: _, h | .str _ :: _, h | .bor _ _ _ :: _, h | .own _ :: _, h | .nil :: _, h | .ptr _ _ :: _, h | .eptr _ _ _ _ :: _, h | .bptr _ _ _ :: _, h | .fn _ :: _, h | .un :: _, h => simp [unflat] at h
  | .bool, cs, x, r, h, vs, hv, ids, ho, hn => by
    match cs, h with
    | .bool b :: r', h =>
      simp only [unflat] at h
      injection h with h
      injection h with h1 h2
      subst h1; subst h2
      obtain ⟨v, vs', rfl, hc, hr⟩ := RCs_cons hv
      exact ⟨[v], vs', [], ids, rfl, rfl, ho, hr, by rw [show v = _ from hc]; rfl⟩
    | [], h | .int _ _ :: _, h | .str _ :: _, h | .bor _ _ _ :: _, h | .own _ :: _, h | .nil :: _, h | .ptr _ _ :: _, h | .eptr _ _ _ _ :: _, h | .bptr _ _ _ :: _, h | .fn _ :: _, h | .un :: _, h => simp [unflat] at h
  | .str, cs, x, r, h, vs, hv, ids, ho, hn => by
    match cs, h with
    | .str b :: r', h =>
      simp only [unflat] at h
      injection h with h
      injection h with h1 h2
      subst h1; subst h2
      obtain ⟨v, vs', rfl, hc, hr⟩ := RCs_cons hv
      exact ⟨[v], vs', [], ids, rfl, rfl, ho, hr, by rw [show v = _ from hc]; rfl⟩
    | [], h | .int _ _ :: _, h | .bool _ :: _, h | .bor _ _ _ :: _, h | .own _ :: _, h | .nil :: _, h | .ptr _ _ :: _, h | .eptr _ _ _ _ :: _, h | .bptr _ _ _ :: _, h | .fn _ :: _, h | .un :: _, h => simp [unflat] at h
  | .sl e t, cs, x, r, h, vs, hv, ids, ho, hn => by
    match cs, h with
    | .bor e' t' ys :: r', h => simp [owned] at ho
    | .own b :: r', h =>
      simp only [unflat] at h
      split at h
      · rename_i e' t' ys hb
        split at h
        case isFalse => cases h
        rename_i hee
        subst hee
        obtain ⟨zs, hz, he⟩ := Option.map_eq_some_iff.1 h
        injection he with h1 h2
        subst h1; subst h2
        obtain ⟨ht, hzs⟩ := cast_ok hz
        subst ht
        simp only at hzs
        subst hzs
        obtain ⟨v, vs', rfl, hc, hr⟩ := RCs_cons hv
        obtain ⟨hbN, hρ, _⟩ := hc
        obtain ⟨hS, _⟩ := hI.ok _ _ hb
        rcases owned_cons ho with ⟨b', l, h3, h4, h5⟩ | ⟨h3, _⟩
        · injection h3 with h3
          subst h3
          refine ⟨[v], vs', [b], l, rfl, h5, h4, hr, v, rfl, ?_⟩
          rw [hρ]
          exact Kd.S_mono hS (fun k hk => ⟨b, by simp, _, hb, rfl, hk⟩)
        · exact absurd rfl (h3 b)
      · cases h
    | .nil :: r', h =>
      simp only [unflat] at h
      injection h with h
      injection h with h1 h2
      subst h1; subst h2
      obtain ⟨v, vs', rfl, hc, hr⟩ := RCs_cons hv
      exact ⟨[v], vs', [], ids, rfl, rfl, ho, hr, v, rfl, by rw [show v = _ from hc]; exact Kd.S_nil _ _ _ _ _⟩
    | [], h | .int _ _ :: _, h | .bool _ :: _, h | .str _ :: _, h | .ptr _ _ :: _, h | .eptr _ _ _ _ :: _, h | .bptr _ _ _ :: _, h | .fn _ :: _, h | .un :: _, h => simp [unflat] at h
  | .pair p q, cs, x, r, h, vs, hv, ids, ho, hn => by
    simp only [unflat] at h
    split at h
    · rename_i x0 r0 h0
      split at h
      · rename_i y r1 h1
        injection h with h
        injection h with e1 e2
        subst e1; subst e2
        obtain ⟨c0, c1, ids0, ids1, rfl, rfl, k0, k1, k2⟩ := fresh_ok hI h0 hv ho hn
        have hn' := List.nodup_append.1 hn
        obtain ⟨c2, c3, ids2, ids3, rfl, rfl, m0, m1, m2⟩ := fresh_ok hI h1 k1 k0 hn'.2.1
        refine ⟨c0 ++ c2, c3, ids0 ++ ids2, ids3, by rw [List.append_assoc], by rw [List.append_assoc], m0, m1, c0, c2, _, _, rfl, k2, m2, ?_, ?_, ?_⟩
        · rintro k ⟨b, hb, h⟩
          exact ⟨b, List.mem_append.2 (.inl hb), h⟩
        · rintro k ⟨b, hb, h⟩
          exact ⟨b, List.mem_append.2 (.inr hb), h⟩
        · rintro k ⟨b, hb, lb, hlb, ha, hk⟩ ⟨b', hb', lb', hlb', ha', hk'⟩
          exact hI.disj b b' lb lb' (hn'.2.2 b hb b' (List.mem_append.2 (.inl hb'))) hlb hlb' ha ha' k hk hk'
      · cases h
    · cases h
end
end Go.Proofs.Ytceffcfnjjlbkaa.V
