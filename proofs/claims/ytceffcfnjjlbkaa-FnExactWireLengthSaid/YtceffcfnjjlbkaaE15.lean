/- The evaluator, 15: rows that a function changes where they lie. -/
import Derived.Test.YtceffcfnjjlbkaaE14
namespace Go.Proofs.Ytceffcfnjjlbkaa.E
open Go.RowKit
set_option linter.unusedVariables false
set_option linter.unusedSimpArgs false
section
variable {P : Program} {M : Nat → Prop} {wE : World} {C : Cx} {st : St} {a : Act} {T : Nat → Option TV} {L : Nat → Option LB} {Γ : Nat → Option Sig}
/-- Memory reads as one thing only. -/
theorem Rd_inj {S S' : Nat → Prop} {w : World} : ∀ {t : Ty} {x y : t.den} {cs : List Value}, Rd S w t x cs → Rd S' w t y cs → x = y
  | .int k, x, y, cs, h, h' => by
    have := (show cs = _ from h).symm.trans (show cs = _ from h')
    simpa using this
  | .bool, x, y, cs, h, h' => by
    have := (show cs = _ from h).symm.trans (show cs = _ from h')
    simpa using this
  | .str, x, y, cs, h, h' => by
    have := (show cs = _ from h).symm.trans (show cs = _ from h')
    simpa using this
  | .sl e t, xs, ys, cs, h, h' => by
    obtain ⟨A, c, rfl, hl, hr⟩ := h
    obtain ⟨A', c', he, hl', hr'⟩ := h'
    injection he with he _
    injection he with e1 e2 e3
    subst e1; subst e3
    by_cases hx : xs = []
    · subst hx
      exact (List.eq_nil_of_length_eq_zero e2.symm).symm
    · have hy : ys ≠ [] := fun hy => by
        subst hy
        exact hx (List.eq_nil_of_length_eq_zero e2)
      obtain ⟨ad, h1, _, h3⟩ := hr hx
      obtain ⟨ad', h1', _, h3'⟩ := hr' hy
      rw [h1] at h1'
      injection h1' with h1'
      subst h1'
      apply List.ext_getElem?
      intro i
      by_cases hi : i < xs.length
      · obtain ⟨es, k1, k2, k3⟩ := h3 i _ (List.getElem?_eq_getElem hi)
        obtain ⟨es', k1', k2', k3'⟩ := h3' i _ (List.getElem?_eq_getElem (show i < ys.length by omega))
        have hee : es = es' := by
          apply List.ext_getElem?
          intro j
          by_cases hj : j < t.sz
          · have q1 := k3 j _ (List.getElem?_eq_getElem (show j < es.length by omega))
            have q2 := k3' j _ (List.getElem?_eq_getElem (show j < es'.length by omega))
            rw [q1] at q2
            rw [List.getElem?_eq_getElem (show j < es.length by omega), List.getElem?_eq_getElem (show j < es'.length by omega)]
            exact q2
          · rw [List.getElem?_eq_none (by omega), List.getElem?_eq_none (by omega)]
        subst hee
        rw [List.getElem?_eq_getElem hi, List.getElem?_eq_getElem (show i < ys.length by omega), Rd_inj k2 k2']
      · rw [List.getElem?_eq_none (by omega), List.getElem?_eq_none (by omega)]
  | .pair p q, x, y, cs, h, h' => by
    obtain ⟨c0, c1, rfl, h0, h1⟩ := h
    obtain ⟨d0, d1, he, h0', h1'⟩ := h'
    obtain ⟨rfl, rfl⟩ := List.append_inj he (by rw [h0.len, h0'.len])
    exact Prod.ext (Rd_inj h0 h0') (Rd_inj h1 h1')
theorem muIds_append : ∀ {cs ds : List CV} {ids : List Nat}, muIds (cs ++ ds) = some ids → ∃ i j, muIds cs = some i ∧ muIds ds = some j ∧ ids = i ++ j
  | [], ds, ids, h => ⟨[], ids, rfl, h, rfl⟩
  | c :: cs, ds, ids, h => by
    simp only [List.cons_append, muIds] at h ⊢
    split at h
    · rename_i p q hp hq
      injection h with h
      subst h
      obtain ⟨i, j, h1, h2, rfl⟩ := muIds_append hq
      exact ⟨p ++ i, j, by rw [hp, h1], h2, by rw [List.append_assoc]⟩
    · cases h
/-- What is known of the entries of rows that were changed. -/
structure MuEnts (C : Cx) (loc : Loc) (ids : List Nat) (Mt φo : Nat → Prop) (Es : List Ent) : Prop where
  nodup : (Es.map (·.b)).Nodup
  old : ∀ e ∈ Es, e.b ∈ ids ∧ e.v = C.ρ e.b ∧ ∃ ep e0 t0, ∃ xs ys : List (Ty.den t0), lget loc e.b = some (.row true ep e0 t0 xs) ∧ e.lb = .row true (ep + 1) e0 t0 ys
  φ : ∀ e ∈ Es, ∀ k, e.φ k → (C.φ e.b k ∧ ¬ Mt k) ∨ φo k
  disj : Es.Pairwise (fun e e' => ∀ k, e.φ k → ¬ e'.φ k)
  cover : ∀ b ∈ ids, b ∈ Es.map (·.b)
theorem MuEnts.none {Mt φo : Nat → Prop} : MuEnts C st.loc [] Mt φo [] := ⟨by simp, fun e he => by simp at he, fun e he => by simp at he, .nil, fun b hb => by simp at hb⟩
def MuPost (P : Program) (C : Cx) (loc : Loc) (t : Ty) (x y : t.den) (c0 : List Value) (u : Loc) (ids : List Nat) : Prop :=
  ∃ φp : Nat → Prop, Own C.w t x c0 φp ∧ (∀ k, φp k → ofIds C loc ids k) ∧
    ∀ (w' : World) (S' : Nat → Prop) (φo Mt : Nat → Prop), Own w' t y c0 φo → (∀ k, φp k → Mt k) → (∀ k, ofIds C loc ids k → Mt k → φp k) → (∀ k, ofIds C loc ids k → ¬ Mt k → w'.heap[k]? = C.w.heap[k]?) → (∀ k, φo k → C.w.heap.size ≤ k ∨ Mt k) →
      ∃ Es, ups Es = u ∧ MuEnts C loc ids Mt φo Es ∧ Holds P w' S' Es
theorem ofIds_mono {loc : Loc} {ids ids' : List Nat} (h : ∀ b ∈ ids, b ∈ ids') {k : Nat} (hk : ofIds C loc ids k) : ofIds C loc ids' k := by
  obtain ⟨b, h1, h2⟩ := hk
  exact ⟨b, h b h1, h2⟩
/-- A slice inside an element of a row of one's own, changed. -/
theorem mu_inn (hI : Inv P M wE C st.loc) {b ep e' : Nat} {t' : Ty} {zs : List t'.den} (hb : lget st.loc b = some (.row true ep e' t' zs)) {i : Int} {off : Nat} {v : Value} (hat : AtCell C b (t'.sz, i, off) v) {e : Nat} {t : Ty} {x y ys1 : List t.den} (hfl : (flat t' (zs.getD i.toNat t'.z))[off]? = some (.bor e t ys1)) {S0 : Nat → Prop} (hrd : Rd S0 C.w (.sl e t) x [v])
    {x' : t'.den} (hx : unflat (fun _ => none) t' (splice (flat t' (zs.getD i.toNat t'.z)) off [.bor e t y]) = some (x', [])) : MuPost P C st.loc (.sl e t) x y [v] [(b, .row true (ep + 1) e' t' (zs.set i.toNat x'))] [b] := by
  obtain ⟨g, o', n, c, hρ, hφg, h0, h1, hcell⟩ := hat
  simp only at h0 h1 hcell
  have hok := hI.ok b _ hb
  obtain ⟨hn, cur, f, m1, m2, m3, m4, m5, m6, m7, m8⟩ := own_row hok hρ
  subst hn
  have hzi := getD_get (n := 0) (z := t'.z) h0 h1
  obtain ⟨hl, ψ, p1, p2, p3⟩ := (m8 _ _ hzi).ocs
  have hoff : off < t'.sz := by
    have := (List.getElem?_eq_some_iff.1 hfl).1
    rwa [flat_length] at this
  have hmul : i.toNat * t'.sz + t'.sz ≤ c * t'.sz := by rw [← Nat.succ_mul]; exact Nat.mul_le_mul_right _ (by omega)
  have hv : ((cur.drop (o' + i.toNat * t'.sz)).take t'.sz)[off]? = some v := by
    rw [List.getElem?_take, if_pos hoff, List.getElem?_drop]
    rw [blk_cell m1] at hcell
    exact hcell
  have hO : Own C.w (.sl e t) ys1 [v] (ψ off) := p3 off _ v hfl hv
  have hxy : x = ys1 := Rd_inj hrd hO.rd
  subst hxy
  have hbl : Lives st.loc b := ⟨_, hb, rfl⟩
  have hψφ : ∀ j k, ψ j k → C.φ b k := fun j k hk => (m6 _ k (p1 j k hk)).1
  refine ⟨ψ off, hO, fun k hk => ⟨b, by simp, hbl, hψφ off k hk⟩, fun w' S' φo Mt hOy hM1 hM2 hk hφo => ?_⟩
  have hM3 : ∀ k, C.φ b k → Mt k → ψ off k := fun k hk hm => hM2 k ⟨b, by simp, hbl, hk⟩ hm
  have hk' : ∀ k, C.φ b k → ¬ Mt k → w'.heap[k]? = C.w.heap[k]? := fun k hq hm => hk k ⟨b, by simp, hbl, hq⟩ hm
  have hgM : ¬ Mt g := fun hm => (m6 _ g (p1 off g (hM3 g hφg hm))).2 rfl
  have hglt : g < C.w.heap.size := blk_lt m1
  have hφog : ∀ k, φo k → k ≠ g := fun k hk he => by
    subst he
    rcases hφo k hk with h | h
    · omega
    · exact hgM h
  have hφoφ : ∀ k, φo k → C.φ b k → ψ off k := fun k hk hb' => by
    rcases hφo k hk with h | h
    · have := (hI.own b _ hb rfl k hb').1; omega
    · exact hM3 k hb' h
  obtain ⟨d1, e1, l1, g1⟩ := unflat_flat hx
  rw [List.append_nil] at e1
  rw [← e1] at g1 l1
  refine ⟨[⟨b, .row true (ep + 1) e' t' (zs.set i.toNat x'), C.ρ b, fun k => (C.φ b k ∧ ¬ Mt k) ∨ φo k⟩], rfl, ⟨by simp, fun e2 he => ?_, fun e2 he k hk => ?_, by simp, fun b' hb' => by simpa using hb'⟩, fun C' loc' hw hS hlk e2 he => ?_⟩
  · simp only [List.mem_singleton] at he
    subst he
    exact ⟨by simp, rfl, ep, e', t', zs, _, hb, rfl⟩
  · simp only [List.mem_singleton] at he
    subst he
    exact hk
  · simp only [List.mem_singleton] at he
    subst he
    show Own C'.w _ _ [C.ρ b] _
    rw [hw, hρ]
    have hnew : Own w' t' x' ((cur.drop (o' + i.toNat * t'.sz)).take t'.sz) (fun k => (∃ j, j ≠ off ∧ ψ j k) ∨ φo k) := by
      refine OCs.own ⟨by rw [flat_length, ← hl, flat_length], fun j k => if j = off then φo k else ψ j k, fun j k hk => ?_, fun i1 j k hi hj => ?_, fun j c' v' hc' hv' => ?_⟩
      · simp only at hk
        split at hk
        · exact .inr hk
        · exact .inl ⟨j, by assumption, hk⟩
      · simp only at hi hj
        split at hi <;> split at hj
        · omega
        · rename_i q1 q2
          exact absurd (p2 _ _ k (hφoφ k hi (hψφ j k hj)) hj).symm q2
        · rename_i q1 q2
          exact absurd (p2 _ _ k hi (hφoφ k hj (hψφ i1 k hi))) q1
        · exact p2 i1 j k hi hj
      · have hjt : j < t'.sz := by
          have := (List.getElem?_eq_some_iff.1 hc').1
          rwa [flat_length] at this
        have hfl0 : off + [CV.bor e t y].length ≤ (flat t' (zs.getD i.toNat t'.z)).length := by rw [flat_length]; exact hoff
        obtain ⟨c2, hc2⟩ : ∃ c2, (splice (flat t' (zs.getD i.toNat t'.z)) off [.bor e t y])[j]? = some c2 := ⟨_, List.getElem?_eq_getElem (by rw [l1]; exact hjt)⟩
        have hfit := g1 j c2 c' hc2 hc'
        have hdat := flat_data (List.mem_of_getElem? hc')
        unfold splice at hc2
        rw [splice_get hfl0] at hc2
        by_cases hjo : j = off
        · subst hjo
          show OC w' c' v' (fun k => if j = j then φo k else ψ j k)
          simp only [if_true]
          rw [if_pos (by simp)] at hc2
          simp only [Nat.sub_self, List.getElem?_cons_zero, Option.some.injEq] at hc2
          subst hc2
          obtain ⟨ys2, rfl⟩ := flat_shape hfl hc'
          have hfit : rdSl (fun _ => none) t (.bor e t y) = some ys2 := hfit
          simp only [rdSl] at hfit
          obtain ⟨_, hz⟩ := cast_ok hfit
          simp only at hz
          subst hz
          rw [hv] at hv'
          injection hv' with hv'
          subst hv'
          exact hOy
        · show OC w' c' v' (fun k => if j = off then φo k else ψ j k)
          simp only [if_neg hjo]
          rw [if_neg (by simp; omega)] at hc2
          have hoc := p3 j c2 v' hc2 hv'
          have hkψ : ∀ k, ψ j k → w'.heap[k]? = C.w.heap[k]? := fun k hk => hk' k (hψφ j k hk) (fun hm => hjo (p2 _ _ k hk (hM3 k (hψφ j k hk) hm)))
          cases c' <;> first | exact (Bool.false_ne_true hdat).elim | skip
          case int k n => have hfit : c2 = .int k n := hfit; subst hfit; exact hoc
          case bool n => have hfit : c2 = .bool n := hfit; subst hfit; exact hoc
          case str n => have hfit : c2 = .str n := hfit; subst hfit; exact hoc
          case bor e3 t3 ys3 =>
            obtain ⟨ys4, rfl⟩ := flat_shape hc' hc2
            have hfit : rdSl (fun _ => none) t3 (.bor e3 t3 ys4) = some ys3 := hfit
            simp only [rdSl] at hfit
            obtain ⟨_, hz⟩ := cast_ok hfit
            simp only at hz
            subst hz
            exact Own.move hkψ hoc
    refine .inr ⟨g, o', c, cur, fun j k => if j = i.toNat then ((∃ j, j ≠ off ∧ ψ j k) ∨ φo k) else f j k, by rw [List.length_set], blk_same m1 (hk' g hφg hgM), by rw [List.length_set]; exact m2, m3, m4, .inl ⟨hφg, hgM⟩, fun j k hk => ?_, fun j1 j2 k h1 h2 => ?_, fun j z hz => ?_⟩
    · simp only at hk
      split at hk
      · rcases hk with ⟨j', hj', hk⟩ | hk
        · exact ⟨.inl ⟨hψφ j' k hk, fun hm => hj' (p2 _ _ k hk (hM3 k (hψφ j' k hk) hm))⟩, (m6 _ k (p1 j' k hk)).2⟩
        · exact ⟨.inr hk, hφog k hk⟩
      · rename_i hji
        exact ⟨.inl ⟨(m6 j k hk).1, fun hm => hji (m7 _ _ k hk (p1 off k (hM3 k (m6 j k hk).1 hm)))⟩, (m6 j k hk).2⟩
    · simp only at h1 h2
      have key : ∀ j, f j k → ((∃ j, j ≠ off ∧ ψ j k) ∨ φo k) → j = i.toNat := fun j hj hq => by
        rcases hq with ⟨j', _, hq⟩ | hq
        · exact m7 _ _ k hj (p1 j' k hq)
        · exact m7 _ _ k hj (p1 off k (hφoφ k hq (m6 j k hj).1))
      split at h1 <;> split at h2
      · omega
      · rename_i q1 q2
        exact absurd (key j2 h2 h1) q2
      · rename_i q1 q2
        exact absurd (key j1 h1 h2) q1
      · exact m7 j1 j2 k h1 h2
    · by_cases hji : j = i.toNat
      · subst hji
        rw [List.getElem?_set_self h1] at hz
        injection hz with hz
        subst hz
        show Own w' t' x' _ (fun k => if i.toNat = i.toNat then ((∃ j, j ≠ off ∧ ψ j k) ∨ φo k) else f i.toNat k)
        simp only [if_true]
        exact hnew
      · rw [List.getElem?_set_ne (Ne.symm hji)] at hz
        show Own w' t' z _ (fun k => if j = i.toNat then ((∃ j, j ≠ off ∧ ψ j k) ∨ φo k) else f j k)
        simp only [if_neg hji]
        exact Own.move (fun k hk => hk' k (m6 j k hk).1 (fun hm => hji (m7 _ _ k hk (p1 off k (hM3 k (m6 j k hk).1 hm))))) (m8 j z hz)
theorem muUpd_ok (hI : Inv P M wE C st.loc) (hs : Sees T L st) : ∀ {t : Ty} {cs : List CV} {x y : t.den} {r r2 : List CV} {u : Loc}, unflat L t cs = some (x, r) → muUpd L t cs y = some (u, r2) → ∀ {vs : List Value}, RCs P C st.loc cs vs →
    ∃ d0 c0 c1, cs = d0 ++ r ∧ vs = c0 ++ c1 ∧ r2 = r ∧ RCs P C st.loc d0 c0 ∧ RCs P C st.loc r c1 ∧ ∀ ids, muIds d0 = some ids → ids.Nodup → MuPost P C st.loc t x y c0 u ids := by
  have scal : ∀ {t : Ty} {x y : t.den} {c : CV} {cs r r2 : List CV} {v : Value} {vs : List Value} {u : Loc}, muId c = some [] → (∀ w φ, Own w t x [v] φ) → RC P C st.loc c v → RCs P C st.loc cs vs → r = cs → r2 = cs → u = [] →
      ∃ d0 c0 c1, c :: cs = d0 ++ r ∧ v :: vs = c0 ++ c1 ∧ r2 = r ∧ RCs P C st.loc d0 c0 ∧ RCs P C st.loc r c1 ∧ ∀ ids, muIds d0 = some ids → ids.Nodup → MuPost P C st.loc t x y c0 u ids := by
    intro t x y c cs r r2 v vs u hm hO hc hr e1 e2 e3
    subst e1; subst e2; subst e3
    refine ⟨[c], [v], vs, rfl, rfl, rfl, RCs_one hc, hr, fun ids hids _ => ?_⟩
    simp only [muIds, hm, List.append_nil] at hids
    injection hids with hids
    subst hids
    exact ⟨fun _ => False, hO _ _, fun _ h => h.elim, fun w' S' φo Mt _ _ _ _ _ => ⟨[], rfl, MuEnts.none, fun _ _ _ _ _ e he => by simp at he⟩⟩
  intro t
  induction t with
  | int k =>
    intro cs x y r r2 u h h' vs hv
    cases cs with
    | nil => simp [unflat] at h
    | cons c cs =>
      simp only [unflat] at h
      split at h
      · rename_i n hn
        injection h with h
        injection h with h1 h2
        simp only [muUpd] at h'
        injection h' with h'
        injection h' with h3 h4
        obtain ⟨v, vs', rfl, hc, hr⟩ := RCs_cons hv
        have hc' := hc
        rw [asI_ok hn] at hc'
        exact scal (by rw [asI_ok hn]; rfl) (fun w φ => by rw [← h1, show v = _ from hc']; rfl) hc hr h2.symm h4.symm h3.symm
      · cases h
  | bool =>
    intro cs x y r r2 u h h' vs hv
    cases cs with
    | nil => simp [unflat] at h
    | cons c cs =>
      simp only [unflat] at h
      split at h
      · rename_i n hn
        injection h with h
        injection h with h1 h2
        simp only [muUpd] at h'
        injection h' with h'
        injection h' with h3 h4
        obtain ⟨v, vs', rfl, hc, hr⟩ := RCs_cons hv
        have hc' := hc
        rw [asB_ok hn] at hc'
        exact scal (by rw [asB_ok hn]; rfl) (fun w φ => by rw [← h1, show v = _ from hc']; rfl) hc hr h2.symm h4.symm h3.symm
      · cases h
  | str =>
    intro cs x y r r2 u h h' vs hv
    cases cs with
    | nil => simp [unflat] at h
    | cons c cs =>
      simp only [unflat] at h
      split at h
      · rename_i n hn
        injection h with h
        injection h with h1 h2
        simp only [muUpd] at h'
        injection h' with h'
        injection h' with h3 h4
        obtain ⟨v, vs', rfl, hc, hr⟩ := RCs_cons hv
        have hc' := hc
        rw [asS_ok hn] at hc'
        exact scal (by rw [asS_ok hn]; rfl) (fun w φ => by rw [← h1, show v = _ from hc']; rfl) hc hr h2.symm h4.symm h3.symm
      · cases h
  | sl e t ih =>
    intro cs x y r r2 u h h' vs hv
    cases cs with
    | nil => simp [unflat] at h
    | cons c cs =>
      simp only [unflat] at h
      split at h
      · rename_i ys hy
        injection h with h
        injection h with h1 h2
        obtain ⟨v, vs', rfl, hc, hr⟩ := RCs_cons hv
        simp only [muUpd] at h'
        split at h'
        · rename_i hq; cases hq
        · rename_i r' hq
          injection hq with hq1 hq2
          subst hq1; subst hq2
          injection h' with h'
          injection h' with h3 h4
          simp only [rdSl] at hy
          injection hy with hy
          refine scal rfl (fun w φ => ?_) hc hr h2.symm h4.symm h3.symm
          rw [← h1, ← hy, show v = _ from hc]
          exact Own.nil
        · rename_i b r' hq
          injection hq with hq1 hq2
          subst hq1; subst hq2
          split at h'
          · rename_i ep e' t' zs hb
            split at h'
            · rename_i he
              subst he
              split at h'
              · rename_i zs' hz
                injection h' with h'
                injection h' with h3 h4
                simp only [rdSl, hb] at hy
                obtain ⟨ht, hzz⟩ := cast_ok hy
                subst ht
                simp only at hzz
                subst hzz
                obtain ⟨_, hz2⟩ := cast_ok hz
                simp only at hz2
                subst hz2
                have hb' := hs.L _ _ hb
                obtain ⟨lb, hlb, _, hal⟩ := hc
                have hlb0 := hlb
                rw [hb'] at hlb
                injection hlb with hlb
                subst hlb
                have hρ := hal rfl
                have hbl : Lives st.loc b := ⟨_, hb', rfl⟩
                refine ⟨[.own b], [v], vs', by rw [← h2]; rfl, rfl, h4.symm.trans h2, RCs_one ⟨_, hlb0, by assumption, hal⟩, by rw [← h2]; exact hr, fun ids hids hnd => ?_⟩
                simp only [muIds, muId, List.append_nil] at hids
                injection hids with hids
                subst hids
                subst h1; subst h3
                refine ⟨C.φ b, by rw [hρ]; exact hI.ok b _ hb', fun k hk => ⟨b, by simp, hbl, hk⟩, fun w' S' φo Mt hO hM1 hM2 hk hφo => ⟨[⟨b, .row true (ep + 1) e' t' y, C.ρ b, φo⟩], rfl, ⟨by simp, fun e1 he => ?_, fun e1 he k hk => ?_, by simp, fun b' hb' => by simpa using hb'⟩, fun C' loc' hw hS hl e1 he => ?_⟩⟩
                · simp only [List.mem_singleton] at he
                  subst he
                  exact ⟨by simp, rfl, ep, e', t', zs, y, hb', rfl⟩
                · simp only [List.mem_singleton] at he
                  subst he
                  exact .inr hk
                · simp only [List.mem_singleton] at he
                  subst he
                  show Own C'.w _ _ [C.ρ b] _
                  rw [hw, ← hρ]
                  exact hO
              · cases h'
            · cases h'
          · cases h'
        · rename_i b ep sz i off e0 t0 xs0 r' hq
          injection hq with hq1 hq2
          subst hq1; subst hq2
          split at h'
          · rename_i ep' e' t' zs hb
            split at h'
            · rename_i hcond
              obtain ⟨rfl, rfl, rfl⟩ := hcond
              split at h'
              · rename_i e1 t1 ys1 hfl
                split at h'
                · rename_i hcc
                  obtain ⟨rfl, rfl⟩ := hcc
                  split at h'
                  · rename_i x' hx'
                    injection h' with h'
                    injection h' with h3 h4
                    have hb' := hs.L _ _ hb
                    have hc0 := hc
                    obtain ⟨lb, hlb, _, hal⟩ := hc
                    rw [hb'] at hlb
                    injection hlb with hlb
                    subst hlb
                    obtain ⟨_, hfact⟩ := hal _ _ _ _ _ rfl
                    obtain ⟨hrd, hat⟩ := hfact rfl
                    simp only [rdSl, hb, if_true] at hy
                    obtain ⟨_, hz⟩ := cast_ok hy
                    simp only at hz
                    refine ⟨[.inn b ep (some (t'.sz, i, off)) e0 t1 xs0], [v], vs', by rw [← h2]; rfl, rfl, h4.symm.trans h2, RCs_one hc0, by rw [← h2]; exact hr, fun ids hids hnd => ?_⟩
                    simp only [muIds, muId, List.append_nil] at hids
                    injection hids with hids
                    subst hids
                    subst h3
                    refine mu_inn (S0 := inner C b) hI hb' (hat _ rfl) hfl ?_ hx'
                    rw [← h1, ← hz]
                    exact hrd
                  · cases h'
                · cases h'
              · cases h'
            · cases h'
          · cases h'
        · cases h'
      · cases h
  | pair p q ihp ihq =>
    intro cs x y r r2 u h h' vs hv
    simp only [unflat] at h
    split at h
    · rename_i x0 r0 h0
      split at h
      · rename_i x1 r1 h1
        injection h with h
        injection h with e1 e2
        simp only [muUpd] at h'
        split at h'
        · rename_i u0 s0 k0
          split at h'
          · rename_i u1 s1 k1
            injection h' with h'
            injection h' with e3 e4
            obtain ⟨d0, c0, c1, rfl, rfl, rfl, z1, z2, z3⟩ := ihp h0 k0 hv
            obtain ⟨d1, c2, c3, rfl, rfl, rfl, y1, y2, y3⟩ := ihq h1 k1 z2
            subst e1; subst e2; subst e3; subst e4
            refine ⟨d0 ++ d1, c0 ++ c2, c3, by rw [List.append_assoc], by rw [List.append_assoc], rfl, RCs_append z1 y1, y2, fun ids hids hnd => ?_⟩
            obtain ⟨i0, i1, q0, q1, rfl⟩ := muIds_append hids
            have hnp := List.nodup_append.1 hnd
            obtain ⟨φ0, a1, a2, a3⟩ := z3 i0 q0 hnp.1
            obtain ⟨φ1, b1, b2, b3⟩ := y3 i1 q1 hnp.2.1
            have hdis : ∀ k, ofIds C st.loc i0 k → ¬ ofIds C st.loc i1 k := fun k ⟨b, hb, ⟨lb, r1, r2⟩, hk⟩ ⟨b', hb', ⟨lb', r1', r2'⟩, hk'⟩ => hI.disj b b' lb lb' (hnp.2.2 b hb b' hb') r1 r1' r2 r2' k hk hk'
            have i0m : ∀ k, ofIds C st.loc i0 k → ofIds C st.loc (i0 ++ i1) k := fun k hk => ofIds_mono (fun b hb => List.mem_append.2 (.inl hb)) hk
            have i1m : ∀ k, ofIds C st.loc i1 k → ofIds C st.loc (i0 ++ i1) k := fun k hk => ofIds_mono (fun b hb => List.mem_append.2 (.inr hb)) hk
            refine ⟨fun k => φ0 k ∨ φ1 k, ⟨c0, c2, φ0, φ1, rfl, a1, b1, fun k h => .inl h, fun k h => .inr h, fun k h h' => hdis k (a2 k h) (b2 k h')⟩, fun k hk => hk.elim (fun h => i0m k (a2 k h)) (fun h => i1m k (b2 k h)), fun w' S' φo Mt hO hM1 hM2 hk hφo => ?_⟩
            obtain ⟨c0', c2', ψ0, ψ1, he, hO0, hO1, s0, s1, hd⟩ := hO
            obtain ⟨rfl, rfl⟩ := List.append_inj he (by rw [a1.len, hO0.len])
            obtain ⟨E0, f1, f2, f3⟩ := a3 w' S' ψ0 Mt hO0 (fun k h => hM1 k (.inl h)) (fun k h hm => (hM2 k (i0m k h) hm).resolve_right (fun h' => hdis k h (b2 k h'))) (fun k h hm => hk k (i0m k h) hm) (fun k h => hφo k (s0 k h))
            obtain ⟨E1, g1, g2, g3⟩ := b3 w' S' ψ1 Mt hO1 (fun k h => hM1 k (.inr h)) (fun k h hm => (hM2 k (i1m k h) hm).resolve_left (fun h' => hdis k (a2 k h') h)) (fun k h hm => hk k (i1m k h) hm) (fun k h => hφo k (s1 k h))
            refine ⟨E0 ++ E1, by simp only [ups, List.map_append] at f1 g1 ⊢; rw [f1, g1], ⟨?_, fun e he => ?_, fun e he k hk' => ?_, ?_, fun b hb => by rw [List.map_append]; rcases List.mem_append.1 hb with hb | hb; exact List.mem_append.2 (.inl (f2.cover b hb)); exact List.mem_append.2 (.inr (g2.cover b hb))⟩, fun C' loc' hw hS hl e he => ?_⟩
            · rw [List.map_append]
              refine List.nodup_append.2 ⟨f2.nodup, g2.nodup, fun b hb b' hb' => ?_⟩
              obtain ⟨e, he, rfl⟩ := List.mem_map.1 hb
              obtain ⟨e', he', rfl⟩ := List.mem_map.1 hb'
              exact hnp.2.2 _ (f2.old e he).1 _ (g2.old e' he').1
            · rcases List.mem_append.1 he with he | he
              · obtain ⟨q1, q2⟩ := f2.old e he
                exact ⟨List.mem_append.2 (.inl q1), q2⟩
              · obtain ⟨q1, q2⟩ := g2.old e he
                exact ⟨List.mem_append.2 (.inr q1), q2⟩
            · rcases List.mem_append.1 he with he | he
              · exact (f2.φ e he k hk').imp id (s0 k)
              · exact (g2.φ e he k hk').imp id (s1 k)
            · refine List.pairwise_append.2 ⟨f2.disj, g2.disj, fun e he e' he' k hk1 hk2 => ?_⟩
              obtain ⟨q1, _, ep, e0, t0, xs0, ys0, q2, _⟩ := f2.old e he
              obtain ⟨q1', _, ep', e0', t0', xs0', ys0', q2', _⟩ := g2.old e' he'
              rcases f2.φ e he k hk1 with ⟨h1, h2⟩ | h1 <;> rcases g2.φ e' he' k hk2 with ⟨h1', h2'⟩ | h1'
              · exact hI.disj _ _ _ _ (hnp.2.2 _ q1 _ q1') q2 q2' rfl rfl k h1 h1'
              · rcases hφo k (s1 k h1') with h | h
                · have := (hI.own _ _ q2 rfl k h1).1; omega
                · exact h2 h
              · rcases hφo k (s0 k h1) with h | h
                · have := (hI.own _ _ q2' rfl k h1').1; omega
                · exact h2' h
              · exact hd k h1 h1'
            · rcases List.mem_append.1 he with he' | he'
              · exact f3 C' loc' hw hS (fun e he => hl e (List.mem_append.2 (.inl he))) e he'
              · exact g3 C' loc' hw hS (fun e he => hl e (List.mem_append.2 (.inr he))) e he'
          · cases h'
        · cases h'
      · cases h
    · cases h
end
end Go.Proofs.Ytceffcfnjjlbkaa.E
