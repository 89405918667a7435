/- The evaluator, 8: an element of a row is changed. -/
import Derived.Test.YtceffcfnjjlbkaaE7
namespace Go.Proofs.Ytceffcfnjjlbkaa.E
open Go.RowKit
set_option linter.unusedVariables false
set_option linter.unusedSimpArgs false
section
variable {P : Program} {M : Nat → Prop} {wE : World} {C : Cx} {st : St} {a : Act} {T : Nat → Option TV} {L : Nat → Option LB} {o : Oper}
def ownOf : CV → Option Nat
  | .own b => some b
  | _ => none
theorem ownIds_ok {stay : CV → Bool} : ∀ {t : Ty} {cs : List CV} {ids : List Nat} {r r' : List CV} {x : t.den}, ownIds L stay t cs = some (ids, r) → unflat L t cs = some (x, r') →
    ∃ d0, cs = d0 ++ r ∧ r = r' ∧ d0.length = t.sz ∧ ids = d0.filterMap ownOf ∧ ∀ (j : Nat) c e t' (ys : List (Ty.den t')), d0[j]? = some c → (flat t x)[j]? = some (.bor e t' ys) → (∃ b ep, c = .own b ∧ L b = some (.row true ep e t' ys)) ∨ (c = .nil ∧ ys = []) ∨ stay c = true
  | .int k, cs, ids, r, r', x, h, h' => by
    cases cs with
    | nil => simp [ownIds] at h
    | cons c cs =>
      simp only [ownIds] at h
      injection h with h
      injection h with h1 h2
      subst h1; subst h2
      simp only [unflat] at h'
      split at h'
      · rename_i n hn
        injection h' with h'
        injection h' with h1 h2
        subst h1; subst h2
        refine ⟨[c], rfl, rfl, rfl, by rw [asI_ok hn]; rfl, fun j c1 e t' ys hc hc' => ?_⟩
        cases j with
        | zero => simp [flat] at hc'
        | succ j => simp at hc
      · cases h'
  | .bool, cs, ids, r, r', x, h, h' => by
    cases cs with
    | nil => simp [ownIds] at h
    | cons c cs =>
      simp only [ownIds] at h
      injection h with h
      injection h with h1 h2
      subst h1; subst h2
      simp only [unflat] at h'
      split at h'
      · rename_i n hn
        injection h' with h'
        injection h' with h1 h2
        subst h1; subst h2
        refine ⟨[c], rfl, rfl, rfl, by rw [asB_ok hn]; rfl, fun j c1 e t' ys hc hc' => ?_⟩
        cases j with
        | zero => simp [flat] at hc'
        | succ j => simp at hc
      · cases h'
  | .str, cs, ids, r, r', x, h, h' => by
    cases cs with
    | nil => simp [ownIds] at h
    | cons c cs =>
      simp only [ownIds] at h
      injection h with h
      injection h with h1 h2
      subst h1; subst h2
      simp only [unflat] at h'
      split at h'
      · rename_i n hn
        injection h' with h'
        injection h' with h1 h2
        subst h1; subst h2
        refine ⟨[c], rfl, rfl, rfl, by rw [asS_ok hn]; rfl, fun j c1 e t' ys hc hc' => ?_⟩
        cases j with
        | zero => simp [flat] at hc'
        | succ j => simp at hc
      · cases h'
  | .sl e t, cs, ids, r, r', x, h, h' => by
    cases cs with
    | nil => simp [ownIds] at h
    | cons c cs =>
      simp only [unflat] at h'
      split at h'
      · rename_i ys hy
        injection h' with h'
        injection h' with h1 h2
        subst h1; subst h2
        have fin : ∀ {ids : List Nat}, [c].filterMap ownOf = ids → ((∃ b ep, c = .own b ∧ L b = some (.row true ep e t ys)) ∨ (c = .nil ∧ ys = []) ∨ stay c = true) →
            ∃ d0, c :: cs = d0 ++ cs ∧ cs = cs ∧ d0.length = (Ty.sl e t).sz ∧ ids = d0.filterMap ownOf ∧ ∀ (j : Nat) c1 e1 t' (ys1 : List (Ty.den t')), d0[j]? = some c1 → (flat (.sl e t) ys)[j]? = some (.bor e1 t' ys1) → (∃ b ep, c1 = .own b ∧ L b = some (.row true ep e1 t' ys1)) ∨ (c1 = .nil ∧ ys1 = []) ∨ stay c1 = true := by
          intro ids hids hc
          refine ⟨[c], rfl, rfl, rfl, hids.symm, fun j c1 e1 t' ys1 hc1 hc' => ?_⟩
          cases j with
          | zero =>
            simp only [flat, List.getElem?_cons_zero, Option.some.injEq] at hc1 hc'
            subst hc1
            injection hc' with q1 q2 q3
            subst q1; subst q2
            rw [← eq_of_heq q3]
            exact hc
          | succ j => simp at hc1
        cases c with
        | own b =>
          simp only [ownIds] at h
          split at h
          · rename_i ep e' t' zs hb
            split at h
            · rename_i hc
              obtain ⟨rfl, rfl⟩ := hc
              injection h with h
              injection h with h1 h2
              subst h1; subst h2
              simp only [rdSl, hb] at hy
              obtain ⟨_, hzs⟩ := cast_ok hy
              simp only at hzs
              subst hzs
              exact fin rfl (.inl ⟨b, ep, rfl, hb⟩)
            · cases h
          · cases h
        | nil =>
          simp only [ownIds] at h
          injection h with h
          injection h with h1 h2
          subst h1; subst h2
          simp only [rdSl] at hy
          injection hy with hy
          exact fin rfl (.inr (.inl ⟨rfl, hy.symm⟩))
        | _ =>
          simp only [ownIds] at h
          split at h
          · rename_i hst
            injection h with h
            injection h with h1 h2
            subst h1; subst h2
            exact fin rfl (.inr (.inr hst))
          · cases h
      · cases h'
  | .pair p q, cs, ids, r, r', x, h, h' => by
    simp only [ownIds] at h
    split at h
    · rename_i i0 r0 h0
      split at h
      · rename_i i1 r1 h1
        injection h with h
        injection h with e1 e2
        subst e1; subst e2
        simp only [unflat] at h'
        split at h'
        · rename_i x0 s0 k0
          split at h'
          · rename_i y s1 k1
            injection h' with h'
            injection h' with e1 e2
            subst e1; subst e2
            obtain ⟨d0, rfl, rfl, l0, f0, g0⟩ := ownIds_ok h0 k0
            obtain ⟨d1, rfl, rfl, l1, f1, g1⟩ := ownIds_ok h1 k1
            refine ⟨d0 ++ d1, by rw [List.append_assoc], rfl, by simp [l0, l1, Ty.sz], by rw [f0, f1, List.filterMap_append], fun j c e t' ys hc hc' => ?_⟩
            simp only [flat] at hc'
            by_cases hj : j < d0.length
            · rw [List.getElem?_append_left hj] at hc
              rw [List.getElem?_append_left (by rw [flat_length, ← l0]; exact hj)] at hc'
              exact g0 j c e t' ys hc hc'
            · rw [List.getElem?_append_right (by omega)] at hc
              rw [List.getElem?_append_right (by rw [flat_length, ← l0]; omega), flat_length, ← l0] at hc'
              exact g1 _ c e t' ys hc hc'
          · cases h'
        · cases h'
      · cases h
    · cases h
theorem nodup_at {l : List CV} (hn : (l.filterMap ownOf).Nodup) {i j b : Nat} (hi : l[i]? = some (.own b)) (hj : l[j]? = some (.own b)) : i = j := by
  have hp := List.pairwise_iff_getElem.1 ((List.pairwise_filterMap).1 hn)
  obtain ⟨hi1, hi2⟩ := List.getElem?_eq_some_iff.1 hi
  obtain ⟨hj1, hj2⟩ := List.getElem?_eq_some_iff.1 hj
  rcases Nat.lt_trichotomy i j with h | h | h
  · exact absurd rfl (hp i j hi1 hj1 h b (by rw [hi2]; rfl) b (by rw [hj2]; rfl))
  · exact h
  · exact absurd rfl (hp j i hj1 hi1 h b (by rw [hj2]; rfl) b (by rw [hi2]; rfl))
theorem mem_ids {l : List CV} {j b : Nat} (hj : l[j]? = some (.own b)) : b ∈ l.filterMap ownOf := List.mem_filterMap.2 ⟨_, List.mem_of_getElem? hj, rfl⟩
theorem flat_shape : ∀ {t : Ty} {x y : t.den} {j e : Nat} {t1 : Ty} {ys : List t1.den} {c : CV}, (flat t x)[j]? = some (.bor e t1 ys) → (flat t y)[j]? = some c → ∃ zs : List t1.den, c = .bor e t1 zs
  | .int k, x, y, j, e, t1, ys, c, h, h' => by cases j <;> simp [flat] at h
  | .bool, x, y, j, e, t1, ys, c, h, h' => by cases j <;> simp [flat] at h
  | .str, x, y, j, e, t1, ys, c, h, h' => by cases j <;> simp [flat] at h
  | .sl e0 t0, x, y, j, e, t1, ys, c, h, h' => by
    cases j with
    | zero =>
      simp only [flat, List.getElem?_cons_zero, Option.some.injEq] at h h'
      injection h with q1 q2 q3
      subst q1; subst q2
      exact ⟨y, h'.symm⟩
    | succ j => simp [flat] at h
  | .pair p q, x, y, j, e, t1, ys, c, h, h' => by
    simp only [flat] at h h'
    by_cases hj : j < p.sz
    · rw [List.getElem?_append_left (by rw [flat_length]; exact hj)] at h h'
      exact flat_shape h h'
    · rw [List.getElem?_append_right (by rw [flat_length]; omega), flat_length] at h h'
      exact flat_shape h h'
def CV.isData : CV → Bool
  | .int _ _ => true
  | .bool _ => true
  | .str _ => true
  | .bor _ _ _ => true
  | _ => false
theorem flat_data : ∀ {t : Ty} {x : t.den} {c : CV}, c ∈ flat t x → c.isData = true
  | .int k, x, c, h => by simp [flat] at h; subst h; rfl
  | .bool, x, c, h => by simp [flat] at h; subst h; rfl
  | .str, x, c, h => by simp [flat] at h; subst h; rfl
  | .sl e0 t0, x, c, h => by simp [flat] at h; subst h; rfl
  | .pair p q, x, c, h => by
    simp only [flat, List.mem_append] at h
    rcases h with h | h
    · exact flat_data h
    · exact flat_data h
theorem splice_get {α : Type} {cur sg : List α} {p : Nat} (h : p + sg.length ≤ cur.length) (j : Nat) : (cur.take p ++ sg ++ cur.drop (p + sg.length))[j]? = if p ≤ j ∧ j < p + sg.length then sg[j - p]? else cur[j]? := by
  have hl : (cur.take p).length = p := by rw [List.length_take]; omega
  by_cases h1 : j < p
  · rw [List.append_assoc, List.getElem?_append_left (by omega), List.getElem?_take, if_pos h1, if_neg (by omega)]
  · by_cases h2 : j < p + sg.length
    · rw [List.append_assoc, List.getElem?_append_right (by omega), hl, List.getElem?_append_left (by omega), if_pos (by omega)]
    · rw [List.getElem?_append_right (by rw [List.length_append, hl]; omega), List.length_append, hl, List.getElem?_drop, if_neg (by omega)]
      congr 1
      omega
theorem splice_length {α : Type} {cur sg : List α} {p : Nat} (h : p + sg.length ≤ cur.length) : (cur.take p ++ sg ++ cur.drop (p + sg.length)).length = cur.length := by
  simp
  omega
theorem seg_other {cur sg : List Value} {p q n : Nat} (h : p + sg.length ≤ cur.length) (hd : q + n ≤ p ∨ p + sg.length ≤ q) : ((cur.take p ++ sg ++ cur.drop (p + sg.length)).drop q).take n = (cur.drop q).take n := by
  apply List.ext_getElem?
  intro j
  rw [List.getElem?_take, List.getElem?_take]
  split
  · rw [List.getElem?_drop, List.getElem?_drop, splice_get h, if_neg (by omega)]
  · rfl
theorem seg_same {cur sg : List Value} {q off n : Nat} (h : off + sg.length ≤ n) (hq : q + n ≤ cur.length) : ((cur.take (q + off) ++ sg ++ cur.drop (q + off + sg.length)).drop q).take n = ((cur.drop q).take n).take off ++ sg ++ ((cur.drop q).take n).drop (off + sg.length) := by
  have hl : ((cur.drop q).take n).length = n := by rw [List.length_take, List.length_drop]; omega
  apply List.ext_getElem?
  intro j
  rw [splice_get (by rw [hl]; exact h), List.getElem?_take, List.getElem?_take]
  by_cases hj : j < n
  · rw [if_pos hj, if_pos hj, List.getElem?_drop, List.getElem?_drop, splice_get (by omega)]
    by_cases h1 : off ≤ j ∧ j < off + sg.length
    · rw [if_pos h1, if_pos (by omega)]
      congr 1
      omega
    · rw [if_neg h1, if_neg (by omega)]
  · rw [if_neg hj, if_neg hj, if_neg (by omega)]
/-- A row's element made anew out of owned cells. -/
theorem elem_own (hI : Inv P M wE C st.loc) (hs : Sees T L st) {b ep e : Nat} {t : Ty} {xs : List t.den} (hb : lget st.loc b = some (.row true ep e t xs)) {i : Int} {off : Nat} {sg : List CV} {segv vals : List Value} {fi : Nat → Prop} (hfi : ∀ k, fi k → C.φ b k)
    (hO : Own C.w t (xs.getD i.toNat t.z) vals fi) (hcells : RCs P C st.loc (elemCells true b ep t xs i) vals) (hfl : t.flatB = false) (hseg : RCs P C st.loc sg segv) (hoff : off + sg.length ≤ t.sz) {x' : t.den} (hx : unflat L t (splice (elemCells true b ep t xs i) off sg) = some (x', []))
    {ids : List Nat} (hids : ownIds L (isInn b) t (splice (elemCells true b ep t xs i) off sg) = some (ids, [])) (hnd : ids.Nodup) (hbi : b ∉ ids) (hinn : sg.any anyInn = false) {w' : World} (hw1 : ∀ k, fi k → w'.heap[k]? = C.w.heap[k]?) (hw2 : ∀ b', b' ∈ ids → Lives st.loc b' → ∀ k, C.φ b' k → w'.heap[k]? = C.w.heap[k]?) :
    Own w' t x' (vals.take off ++ segv ++ vals.drop (off + segv.length)) (fun k => fi k ∨ ∃ b', b' ∈ ids ∧ Lives st.loc b' ∧ C.φ b' k) := by
  obtain ⟨hvl, ψ, p1, p2, p3⟩ := hO.ocs
  obtain ⟨d0, e0, _, l0, f0, g0⟩ := ownIds_ok hids hx
  rw [List.append_nil] at e0
  obtain ⟨d1, e1, l1, g1⟩ := unflat_flat hx
  rw [List.append_nil] at e1
  have hD := RCs_splice (off := off) hcells hseg
  have hel : (elemCells true b ep t xs i).length = t.sz := by rw [hcells.1, ← hvl, flat_length]
  have hvl' : vals.length = t.sz := by rw [← hvl, flat_length]
  have hbl : Lives st.loc b := ⟨_, hb, rfl⟩
  rw [← e1] at g1
  rw [← e0] at f0 g0
  refine OCs.own ⟨by rw [← hD.1, flat_length]; rw [e1]; exact l1.symm, fun j k => match (splice (elemCells true b ep t xs i) off sg)[j]? with | some (.own b') => b' ∈ ids ∧ Lives st.loc b' ∧ C.φ b' k | some (.inn _ _ _ _ _ _) => ψ j k | _ => False, fun j k hk => ?_, fun i1 j k hi hj => ?_, fun j c' v hc' hv => ?_⟩
  · simp only at hk
    split at hk
    · rename_i b' _
      exact .inr ⟨b', hk⟩
    · exact .inl (p1 j k hk)
    · exact hk.elim
  · simp only at hi hj
    split at hi
    · rename_i b1 h1
      split at hj
      · rename_i b2 h2
        obtain ⟨hm1, ⟨lb1, q1, q2⟩, q3⟩ := hi
        obtain ⟨hm2, ⟨lb2, r1, r2⟩, r3⟩ := hj
        by_cases hbb : b1 = b2
        · subst hbb
          exact nodup_at (by rw [← f0]; exact hnd) h1 h2
        · exact absurd r3 (hI.disj b1 b2 lb1 lb2 hbb q1 r1 q2 r2 k q3)
      · obtain ⟨hm1, ⟨lb1, q1, q2⟩, q3⟩ := hi
        exact absurd (hfi k (p1 j k hj)) (hI.disj b1 b lb1 _ (fun he => hbi (he ▸ hm1)) q1 hb q2 rfl k q3)
      · exact hj.elim
    · split at hj
      · rename_i b2 h2
        obtain ⟨hm2, ⟨lb2, r1, r2⟩, r3⟩ := hj
        exact absurd (hfi k (p1 i1 k hi)) (hI.disj b2 b lb2 _ (fun he => hbi (he ▸ hm2)) r1 hb r2 rfl k r3)
      · exact p2 i1 j k hi hj
      · exact hj.elim
    · exact hi.elim
  · have hjt : j < t.sz := by
      have := (List.getElem?_eq_some_iff.1 hc').1
      rwa [flat_length] at this
    obtain ⟨c, hc⟩ : ∃ c, (splice (elemCells true b ep t xs i) off sg)[j]? = some c := ⟨_, List.getElem?_eq_getElem (by rw [e1, l1]; exact hjt)⟩
    have hrc := hD.2 j c v hc hv
    have hfit := g1 j c c' hc hc'
    have hdat := flat_data (List.mem_of_getElem? hc')
    cases c' <;> first | exact (Bool.false_ne_true hdat).elim | skip
    case int k n => have hfit : c = .int k n := hfit; subst hfit; exact hrc
    case bool n => have hfit : c = .bool n := hfit; subst hfit; exact hrc
    case str n => have hfit : c = .str n := hfit; subst hfit; exact hrc
    case bor e1 t1 ys =>
      show Own w' (.sl e1 t1) ys [v] _
      rcases g0 j c e1 t1 ys hc hc' with ⟨b1, ep1, rfl, hL⟩ | ⟨rfl, rfl⟩ | hst
      · have hL' := hs.L _ _ hL
        obtain ⟨lb, hlb, _, hal⟩ := hrc
        rw [hL'] at hlb
        injection hlb with hlb
        subst hlb
        rw [hal rfl]
        have hm : b1 ∈ ids := by rw [f0]; exact mem_ids hc
        have hl1 : Lives st.loc b1 := ⟨_, hL', rfl⟩
        refine Own.mono (φ := C.φ b1) (fun k hk => ?_) (Own.move (hw2 b1 hm hl1) (hI.ok b1 _ hL'))
        show (match (splice (elemCells true b ep t xs i) off sg)[j]? with | some (.own b') => b' ∈ ids ∧ Lives st.loc b' ∧ C.φ b' k | some (.inn _ _ _ _ _ _) => ψ j k | _ => False)
        rw [hc]
        exact ⟨hm, hl1, hk⟩
      · rw [show v = _ from hrc]
        exact Own.nil
      · cases c <;> simp only [isInn] at hst <;> first | cases hst | skip
        rename_i b1 ep1 p1' e2 t2 ys2
        -- outside the part that is written
        have hout : ¬ (off ≤ j ∧ j < off + sg.length) := fun hin => by
          have hc1 := hc
          unfold splice at hc1
          rw [splice_get (by rw [hel]; exact hoff), if_pos hin] at hc1
          have := List.any_eq_false.1 hinn _ (List.mem_of_getElem? hc1)
          simp [anyInn] at this
        have hc2 := hc
        unfold splice at hc2
        rw [splice_get (by rw [hel]; exact hoff), if_neg hout] at hc2
        simp only [elemCells, hfl, Bool.not_false, Bool.and_self, if_true] at hc2
        rw [innAt_get] at hc2
        obtain ⟨c0, hc0, heq⟩ := Option.map_eq_some_iff.1 hc2
        obtain ⟨ys0, rfl⟩ := flat_shape hc' hc0
        simp only at heq
        injection heq with a1 a2 a3 a4 a5 a6
        subst a4; subst a5
        have hfit : rdSl L t1 (.inn b1 ep1 p1' e1 t1 ys2) = some ys := hfit
        simp only [rdSl] at hfit
        split at hfit
        · split at hfit
          · obtain ⟨_, hz⟩ := cast_ok hfit
            simp only at hz
            subst hz
            rw [← eq_of_heq a6] at hc
            have hv2 := hv
            rw [splice_get (by rw [← hseg.1, hvl']; exact hoff), if_neg (by rw [← hseg.1]; exact hout)] at hv2
            have hoc : Own C.w (.sl e1 t1) ys0 [v] (ψ j) := p3 j _ v hc0 hv2
            rw [← eq_of_heq a6]
            refine Own.mono (φ := ψ j) (fun k hk => ?_) (Own.move (fun k hk => hw1 k (p1 j k hk)) hoc)
            show (match (splice (elemCells true b ep t xs i) off sg)[j]? with | some (.own b') => b' ∈ ids ∧ Lives st.loc b' ∧ C.φ b' k | some (.inn _ _ _ _ _ _) => ψ j k | _ => False)
            rw [hc]
            exact hk
          · cases hfit
        · cases hfit
end
end Go.Proofs.Ytceffcfnjjlbkaa.E
