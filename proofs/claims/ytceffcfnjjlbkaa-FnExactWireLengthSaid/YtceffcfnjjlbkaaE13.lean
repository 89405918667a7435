/- The evaluator, 13: copy; parts of slices; every operation but calls. -/
import Derived.Test.YtceffcfnjjlbkaaE12
namespace Go.Proofs.Ytceffcfnjjlbkaa.E
open Go.RowKit
set_option linter.unusedVariables false
set_option linter.unusedSimpArgs false
section
variable {P : Program} {M : Nat → Prop} {wE : World} {C : Cx} {st : St} {a : Act} {T : Nat → Option TV} {L : Nat → Option LB} {o : Oper}
/-! ### copy -/
theorem copy_row {w : World} {E e ty : Nat} {i : TypeInfo} (hu : P.underlying E = some (.slice e)) (hi : P.info? e = some i) (hs1 : i.size = 1) {g o' dLen dCap : Nat} {A : Addr} {sLen sCap : Nat} {cur : List Value} {t : Nat} {cs : List Value}
    (hg : blk w g cur t) (hn : cs.length = Nat.min sLen dLen) (hsrc : ∀ j v, cs[j]? = some v → w.cell? (A.add j) = some v) (hfit : o' + cs.length ≤ cur.length) (h1 : ∀ v ∈ cs, v.oneCell' = true) :
    (Builtin.copy_ #[E, E] ty #[.slice (some ⟨g, o', none⟩) dLen dCap, .slice (some A) sLen sCap]).run P w = .ok (goInt cs.length) (w.setRow g (cur.take o' ++ cs ++ cur.drop (o' + cs.length)).toArray) := by
  have := run_copy_row (P := P) w E E ty e g o' dLen dCap A sLen sCap cur.toArray t cs hu (by simp [hi, hs1]) hg hn hsrc (by simpa using hfit) h1
  simpa using this
theorem copy_none {w : World} {E e ty : Nat} {i : TypeInfo} (hu : P.underlying E = some (.slice e)) (hi : P.info? e = some i) {A : Option Addr} {dLen dCap c : Nat} :
    (Builtin.copy_ #[E, E] ty #[.slice A dLen dCap, .slice none 0 c]).run P w = .ok (goInt 0) w := by
  cases A <;> simp [Builtin.copy_, run_underlying hu, Builtin.lenOf, Builtin.firstCells, sizeOf, typeInfo, hi, storeCells]
theorem copy_to_none {w : World} {E e ty : Nat} {i : TypeInfo} (hu : P.underlying E = some (.slice e)) (hi : P.info? e = some i) {A : Addr} {c c' m : Nat} :
    (Builtin.copy_ #[E, E] ty #[.slice none 0 c', .slice (some A) m c]).run P w = .ok (goInt 0) w := by
  have hf := run_firstCells_some (P := P) w i.size 0 A m c [] (by simp) (by simp)
  simp [Builtin.copy_, run_underlying hu, Builtin.lenOf, sizeOf, typeInfo, hi, hf]
/-- Elements lo.. of a row of one-cell elements are written over. -/
theorem copy_does (hR : Rel P M wE C st a) {E e bytes : Nat} {t : Ty} {c : Call} (hop : o.op = .call c) (hcal : c.callee = .builtin .copy) {dO sO : Operand} (hargs : c.args = #[dO, sO]) (hT : c.argTypes = #[E, E]) (hi : rowInfo P E = some (e, t, bytes)) (hfl : t.flatB = true) (hs1 : t.sz = 1)
    {b ep : Nat} {dp : Bool} {xs ys : List t.den} (hb : lget st.loc b = some (.row dp ep e t xs)) {lo n : Nat} (hn : lo + n ≤ xs.length) {A0 A1 : Option Addr} {m0 c0 cd : Nat} (hρ : C.ρ b = .slice A0 m0 c0) (hd : a.eval dO = .slice A1 n cd) (hA : 0 < n → A1 = A0.map (·.add (lo * t.sz))) {x : Value} (hsv : a.eval sO = x) {S : Nat → Prop} (hx : Rd S C.w (.sl e t) ys [x]) :
    Does P M wE C st a o ⟨.c (.int .i64 (min ys.length n : Nat)), [(b, .row dp (ep + 1) e t (xs.take lo ++ ys.take n ++ xs.drop (lo + min ys.length n)))]⟩ := by
  obtain ⟨hu, i, z, hie, hzv, hz, hsz, rfl, hb0, hzs⟩ := rowInfo_ok hi
  have hexec : ∀ {v' w'}, (Builtin.copy_ #[E, E] o.type #[a.eval dO, x]).run P C.w = .ok v' w' → (execOp a.eval o).run P C.w = .ok (.value v') w' := by
    intro v' w' h
    rw [run_call_builtin hop hcal, hT, hargs]
    simp only [builtin, List.map_toArray, List.map_cons, List.map_nil, hsv, Sem.run_bind, h]
    rfl
  have hok := hR.inv.ok b _ hb
  have hfit : lo + (ys.take n).length ≤ xs.length := by rw [List.length_take]; omega
  have hmin : (ys.take n).length = min ys.length n := by rw [List.length_take, Nat.min_comm]
  have hnxs : xs.take lo ++ ys.take n ++ xs.drop (lo + min ys.length n) = xs.take lo ++ ys.take n ++ xs.drop (lo + (ys.take n).length) := by rw [hmin]
  -- the block
  have hform : (C.ρ b = .slice none 0 0 ∧ xs = []) ∨ ∃ (g o' cp : Nat) (cur : List Value), C.ρ b = .slice (some ⟨g, o', none⟩) xs.length cp ∧ blk C.w g cur e ∧ xs.length ≤ cp ∧ cp ≤ maxLen ∧ o' + cp * t.sz ≤ cur.length ∧ C.φ b g ∧ ∀ i x, xs[i]? = some x → ∀ w', Own w' t x ((cur.drop (o' + i * t.sz)).take t.sz) (fun _ => False) := by
    cases dp with
    | true =>
      rcases (hok : Own _ _ _ _ _) with ⟨q, q2⟩ | ⟨g, o', cp, cur, f, q, m1, m2, m3, m4, m5, m6, m7, m8⟩
      · injection q with q _
        exact .inl ⟨q, q2⟩
      · injection q with q _
        exact .inr ⟨g, o', cp, cur, q, m1, m2, m3, m4, m5, fun i x hx w' => Rd.own hfl (m8 i x hx).rd⟩
    | false =>
      rcases (hok : OwnSh _ _ _ _ _ _ _) with ⟨q, q2⟩ | ⟨g, o', cp, cur, q, m1, m2, m3, m4, m5, m6⟩
      · exact .inl ⟨q, q2⟩
      · exact .inr ⟨g, o', cp, cur, q, m1, m2, m3, m4, m5, fun i x hx w' => Rd.own hfl (m6 i x hx)⟩
  -- behind it
  have fin : ∀ (g o' cp : Nat) (cur cs : List Value), C.ρ b = .slice (some ⟨g, o', none⟩) xs.length cp → blk C.w g cur e → xs.length ≤ cp → cp ≤ maxLen → o' + cp * t.sz ≤ cur.length → C.φ b g → (∀ i x, xs[i]? = some x → ∀ w', Own w' t x ((cur.drop (o' + i * t.sz)).take t.sz) (fun _ => False)) →
      cs.length = (ys.take n).length → (∀ i y, (ys.take n)[i]? = some y → ∀ w', Own w' t y ((cs.drop (i * t.sz)).take t.sz) (fun _ => False)) →
      (Builtin.copy_ #[E, E] o.type #[a.eval dO, x]).run P C.w = .ok (goInt cs.length) (C.w.setRow g (cur.take (o' + lo) ++ cs ++ cur.drop (o' + lo + cs.length)).toArray) →
      Does P M wE C st a o ⟨.c (.int .i64 (min ys.length n : Nat)), [(b, .row dp (ep + 1) e t (xs.take lo ++ ys.take n ++ xs.drop (lo + min ys.length n)))]⟩ := by
    intro g o' cp cur cs q m1 m2 m3 m4 m5 m6 hcl hcO hrun
    have hEO := EntsOk.change (M := M) (wE := wE) hR.inv hb rfl (lb := .row dp (ep + 1) e t (xs.take lo ++ ys.take n ++ xs.drop (lo + min ys.length n))) (fun d' ep' e' t' ys' he => by injection he with _ q _ _ _; exact ⟨dp, ep, e, t, xs, rfl, by omega⟩) (ids := []) (by simp) m5 (cur := (cur.take (o' + lo) ++ cs ++ cur.drop (o' + lo + cs.length)).toArray)
    have hlen : (xs.take lo ++ ys.take n ++ xs.drop (lo + (ys.take n).length)).length = xs.length := splice_length hfit
    have hfit2 : o' + lo + cs.length ≤ cur.length := by rw [hs1] at m4; rw [hcl]; omega
    have hown : Own (C.w.setRow g (cur.take (o' + lo) ++ cs ++ cur.drop (o' + lo + cs.length)).toArray) (.sl e t) (xs.take lo ++ ys.take n ++ xs.drop (lo + (ys.take n).length)) [C.ρ b] (C.φ b) := by
      refine .inr ⟨g, o', cp, _, fun _ _ => False, by rw [q, hlen], blk_set (cur' := cur.take (o' + lo) ++ cs ++ cur.drop (o' + lo + cs.length)) m1, by rw [hlen]; exact m2, m3, by rw [splice_length hfit2]; exact m4, m5, fun _ _ h => h.elim, fun _ _ _ h => h.elim, fun j y hj => ?_⟩
      rw [splice_get hfit] at hj
      have hch : ∀ (l : List Value) (p : Nat), (l.drop p).take 1 = (l[p]?).toList := fun l p => by
        cases hlp : l[p]? with
        | none => rw [List.drop_of_length_le (List.getElem?_eq_none_iff.1 hlp)]; rfl
        | some v =>
          obtain ⟨h1, h2⟩ := List.getElem?_eq_some_iff.1 hlp
          rw [List.drop_eq_getElem_cons h1, h2]
          rfl
      generalize hW : C.w.setRow g (cur.take (o' + lo) ++ cs ++ cur.drop (o' + lo + cs.length)).toArray = W
      rw [hs1, hch, Nat.mul_one, splice_get hfit2, hcl]
      split at hj
      · rename_i hc
        rw [if_pos (by omega)]
        have := hcO _ y hj W
        rw [hs1, hch, Nat.mul_one] at this
        rw [show o' + j - (o' + lo) = j - lo by omega]
        exact this
      · rename_i hc
        rw [if_neg (by omega)]
        have := m6 j y hj W
        rw [hs1, hch, Nat.mul_one] at this
        exact this
    have := Does.ents (tv := .c (.int .i64 (min ys.length n : Nat))) hR (hexec hrun) hEO (fun e1 he hge => ?_) (by rw [hcl, hmin]; rfl)
    · exact this
    · simp only [deadEnts, List.map_nil, List.mem_singleton] at he
      subst he
      show RLv _ _ _ (C.ρ b) _ _
      rw [hnxs]
      cases dp with
      | true => exact Own.mono (fun k hk => .inl hk) hown
      | false =>
        rcases hown with ⟨h1, h2⟩ | ⟨g', o2, c', cur', f, h1, h2, h3, h4, h5, h6, h7, h8, h9⟩
        · injection h1 with h1 _
          exact .inl ⟨h1, h2⟩
        · injection h1 with h1 _
          exact .inr ⟨g', o2, c', cur', h1, h2, h3, h4, h5, .inl h6, fun i x hx => Own.rd (φ := C.S) (Rd.own hfl (h9 i x hx).rd)⟩
  -- where nothing is written
  have same : xs.take lo ++ ys.take n ++ xs.drop (lo + min ys.length n) = xs → min ys.length n = 0 → (Builtin.copy_ #[E, E] o.type #[a.eval dO, x]).run P C.w = .ok (goInt 0) C.w → Does P M wE C st a o ⟨.c (.int .i64 (min ys.length n : Nat)), [(b, .row dp (ep + 1) e t (xs.take lo ++ ys.take n ++ xs.drop (lo + min ys.length n)))]⟩ := by
    intro hxe h0 hrun
    rw [hxe, h0]
    have hEO : EntsOk C st.loc C.w C.S [⟨b, .row dp (ep + 1) e t xs, C.ρ b, C.φ b⟩] := by
      refine ⟨Nat.le_refl _, rfl, rfl, rfl, fun _ _ _ => rfl, fun _ h => h, fun _ h => .inl h, fun e' he hal k hk => ?_, fun e' he e2 he2 hne => ?_, fun e' he lb hl => ?_, fun e' he hal => ?_⟩
      · simp only [List.mem_singleton] at he
        subst he
        obtain ⟨q1, q2, _⟩ := hR.inv.own b _ hb rfl k hk
        exact ⟨q1, q2, .inr ⟨_, List.mem_cons_self .., ⟨_, hb, rfl⟩, hk⟩⟩
      · simp only [List.mem_singleton] at he he2
        subst he; subst he2
        exact absurd rfl hne
      · simp only [List.mem_singleton] at he
        subst he
        rfl
      · simp only [List.mem_singleton] at he
        subst he
        exact .inr ⟨_, hb, rfl, fun d' ep' e' t' ys' he => by injection he with _ q _ _ _; exact ⟨dp, ep, e, t, xs, rfl, by omega⟩⟩
    refine Does.ents (E := [⟨b, .row dp (ep + 1) e t xs, C.ρ b, C.φ b⟩]) (tv := .c (.int .i64 (0 : Nat))) hR (hexec hrun) hEO (fun e1 he hge => ?_) rfl
    simp only [List.mem_singleton] at he
    subst he
    have hE2 := hEO.ext hR.inv
    show RLv _ _ _ (C.ρ b) _ _
    have : RLv P (C.ents C.w C.S [⟨b, .row dp (ep + 1) e t xs, C.ρ b, C.φ b⟩]) (ups [⟨b, .row dp (ep + 1) e t xs, C.ρ b, C.φ b⟩] ++ st.loc) (C.ρ b) (C.φ b) (.row dp ep e t xs) := RLv_ext hE2 (fun _ _ => rfl) hok
    cases dp with
    | true => exact this
    | false => exact this
  rcases Rd_news hx with ⟨cx, rfl, rfl⟩ | ⟨ad, cx, news, rfl, hnl, hnc, hn1, hnr⟩
  · refine same (by simp) (by simp) ?_
    rw [hd]
    exact copy_none hu hie
  · rcases hform with ⟨q, rfl⟩ | ⟨g, o', cp, cur, q, m1, m2, m3, m4, m5, m6⟩
    · simp only [List.length_nil] at hn
      have hn0 : n = 0 := by omega
      subst hn0
      refine same (by simp) (by simp) ?_
      rw [hd]
      cases A1 with
      | none => exact copy_to_none hu hie
      | some A1 =>
        have hf := run_firstCells_some (P := P) C.w i.size 0 ad ys.length cx [] (by simp) (by simp)
        simp [Builtin.copy_, run_underlying hu, Builtin.lenOf, sizeOf, typeInfo, hie, hf, storeCells]
    · by_cases h0 : n = 0
      · subst h0
        refine same (by simp) (by simp) ?_
        rw [hd]
        cases A1 with
        | none => exact copy_to_none hu hie
        | some A1 =>
          have hf := run_firstCells_some (P := P) C.w i.size 0 ad ys.length cx [] (by simp) (by simp)
          simp [Builtin.copy_, run_underlying hu, Builtin.lenOf, sizeOf, typeInfo, hie, hf, storeCells]
      · have hA1 := hA (by omega)
        rw [q] at hρ
        injection hρ with z1 z2 z3
        subst z1
        rw [hA1] at hd
        simp only [Option.map_some, add_lit, hs1, Nat.mul_one] at hd
        have hcsl : (news.take n).length = (ys.take n).length := by rw [List.length_take, List.length_take, hnl, hs1, Nat.mul_one]
        refine fin g o' cp cur (news.take n) q m1 m2 m3 m4 m5 m6 hcsl (fun j y hj w' => ?_) ?_
        · rw [List.getElem?_take] at hj
          split at hj
          · rename_i hjn
            have := Rd.own (w' := w') (φ := fun _ => False) hfl (hnr j y hj)
            rw [hs1, Nat.mul_one] at this ⊢
            have he : ((news.take n).drop j).take 1 = (news.drop j).take 1 := by
              apply List.ext_getElem?
              intro i
              rw [List.getElem?_take, List.getElem?_take]
              split
              · rw [List.getElem?_drop, List.getElem?_drop, List.getElem?_take, if_pos (by omega)]
              · rfl
            rw [he]
            exact this
          · cases hj
        · rw [hd]
          refine copy_row hu hie (hsz.trans hs1) m1 (by rw [hcsl, hmin]) (fun j v hj => ?_) (by rw [hcsl]; rw [hs1] at m4; omega) (fun v hv => hn1 v (List.mem_of_mem_take hv))
          rw [List.getElem?_take] at hj
          split at hj
          · exact hnc j v hj
          · cases hj
end
end Go.Proofs.Ytceffcfnjjlbkaa.E
