/- The evaluator, 9: stores are sound. -/
import Derived.Test.YtceffcfnjjlbkaaE8
namespace Go.Proofs.Ytceffcfnjjlbkaa.E
open Go.RowKit
set_option linter.unusedVariables false
set_option linter.unusedSimpArgs false
section
variable {P : Program} {M : Nat → Prop} {wE : World} {C : Cx} {st : St} {a : Act} {T : Nat → Option TV} {L : Nat → Option LB} {o : Oper}
theorem mul_apart {i j sz : Nat} (h : i ≠ j) : i * sz + sz ≤ j * sz ∨ j * sz + sz ≤ i * sz := by
  rcases Nat.lt_or_gt_of_ne h with h | h
  · exact .inl (by rw [← Nat.succ_mul]; exact Nat.mul_le_mul_right _ h)
  · exact .inr (by rw [← Nat.succ_mul]; exact Nat.mul_le_mul_right _ h)
/-- A row of which one element was changed. -/
theorem own_set {w w' : World} {e : Nat} {t : Ty} {xs : List t.den} {g o c : Nat} {cur segv : List Value} {f : Nat → Nat → Prop} {φ φ' ψ : Nat → Prop} (hb : blk w g cur e) (hc : xs.length ≤ c) (hm : c ≤ maxLen) (hsz : o + c * t.sz ≤ cur.length) (hg : φ g) (hf1 : ∀ i k, f i k → φ k ∧ k ≠ g) (hf2 : ∀ i j k, f i k → f j k → i = j)
    (hx : ∀ i x, xs[i]? = some x → Own w t x ((cur.drop (o + i * t.sz)).take t.sz) (f i)) {i off : Nat} (hi : i < xs.length) (hoff : off + segv.length ≤ t.sz) {x' : t.den}
    (hO : Own w' t x' (((cur.drop (o + i * t.sz)).take t.sz).take off ++ segv ++ ((cur.drop (o + i * t.sz)).take t.sz).drop (off + segv.length)) ψ) (hψ : ∀ k, ψ k → φ' k ∧ k ≠ g ∧ ∀ j, f j k → j = i) (hφ : ∀ k, φ k → φ' k)
    (hw : w' = w.setRow g (cur.take (o + i * t.sz + off) ++ segv ++ cur.drop (o + i * t.sz + off + segv.length)).toArray) : Own w' (.sl e t) (xs.set i x') [.slice (some ⟨g, o, none⟩) xs.length c] φ' := by
  have hmul : i * t.sz + t.sz ≤ c * t.sz := by rw [← Nat.succ_mul]; exact Nat.mul_le_mul_right _ (by omega)
  have hlen := splice_length (cur := cur) (sg := segv) (p := o + i * t.sz + off) (by omega)
  refine .inr ⟨g, o, c, cur.take (o + i * t.sz + off) ++ segv ++ cur.drop (o + i * t.sz + off + segv.length), fun j k => if j = i then ψ k else f j k, by rw [List.length_set], by rw [hw]; exact blk_set hb, by rw [List.length_set]; exact hc, hm, by rw [hlen]; exact hsz, hφ g hg, fun j k hk => ?_, fun j j' k hj hj' => ?_, fun j x hjx => ?_⟩
  · simp only at hk
    split at hk
    · exact ⟨(hψ k hk).1, (hψ k hk).2.1⟩
    · exact ⟨hφ k (hf1 j k hk).1, (hf1 j k hk).2⟩
  · simp only at hj hj'
    split at hj
    · rename_i h1
      split at hj'
      · rename_i h2
        rw [h1, h2]
      · rw [h1]
        exact ((hψ k hj).2.2 j' hj').symm
    · split at hj'
      · rename_i h2
        rw [h2]
        exact (hψ k hj').2.2 j hj
      · exact hf2 j j' k hj hj'
  · by_cases hji : j = i
    · subst hji
      rw [List.getElem?_set_self hi] at hjx
      injection hjx with hjx
      subst hjx
      show Own w' t x' _ (fun k => if j = j then ψ k else f j k)
      simp only [if_true]
      rw [seg_same hoff (by omega)]
      exact hO
    · rw [List.getElem?_set_ne (Ne.symm hji)] at hjx
      show Own w' t x _ (fun k => if j = i then ψ k else f j k)
      simp only [if_neg hji]
      rw [seg_other (by omega) (by rcases mul_apart (sz := t.sz) hji with h | h <;> omega)]
      refine Own.move (fun k hk => ?_) (hx j x hjx)
      rw [hw]
      exact setRow_other _ _ _ _ (hf1 j k hk).2
theorem ownSh_set {S : Nat → Prop} {w w' : World} {e : Nat} {t : Ty} {xs : List t.den} {g o c : Nat} {cur segv : List Value} {φ : Nat → Prop} (hb : blk w g cur e) (hc : xs.length ≤ c) (hm : c ≤ maxLen) (hsz : o + c * t.sz ≤ cur.length) (hg : φ g) (hgS : ¬ S g)
    (hx : ∀ i x, xs[i]? = some x → Rd S w t x ((cur.drop (o + i * t.sz)).take t.sz)) {i off : Nat} (hi : i < xs.length) (hoff : off + segv.length ≤ t.sz) {x' : t.den}
    (hO : Rd S w t x' (((cur.drop (o + i * t.sz)).take t.sz).take off ++ segv ++ ((cur.drop (o + i * t.sz)).take t.sz).drop (off + segv.length)))
    (hw : w' = w.setRow g (cur.take (o + i * t.sz + off) ++ segv ++ cur.drop (o + i * t.sz + off + segv.length)).toArray) : OwnSh S w' e t (xs.set i x') (.slice (some ⟨g, o, none⟩) xs.length c) φ := by
  have hmul : i * t.sz + t.sz ≤ c * t.sz := by rw [← Nat.succ_mul]; exact Nat.mul_le_mul_right _ (by omega)
  have hlen := splice_length (cur := cur) (sg := segv) (p := o + i * t.sz + off) (by omega)
  have hk : ∀ k, S k → w'.heap[k]? = w.heap[k]? := fun k hk => by
    rw [hw]
    exact setRow_other _ _ _ _ (fun he => hgS (he ▸ hk))
  refine .inr ⟨g, o, c, cur.take (o + i * t.sz + off) ++ segv ++ cur.drop (o + i * t.sz + off + segv.length), by rw [List.length_set], by rw [hw]; exact blk_set hb, by rw [List.length_set]; exact hc, hm, by rw [hlen]; exact hsz, hg, fun j x hjx => ?_⟩
  by_cases hji : j = i
  · subst hji
    rw [List.getElem?_set_self hi] at hjx
    injection hjx with hjx
    subst hjx
    rw [seg_same hoff (by omega)]
    exact Rd.mono (fun _ h => h) hk hO
  · rw [List.getElem?_set_ne (Ne.symm hji)] at hjx
    rw [seg_other (by omega) (by rcases mul_apart (sz := t.sz) hji with h | h <;> omega)]
    exact Rd.mono (fun _ h => h) hk (hx j x hjx)
theorem still_ids : ∀ {cs : List CV}, cs.all CV.still = true → idsOf cs = []
  | [], _ => rfl
  | c :: cs, h => by
    simp only [List.all_cons, Bool.and_eq_true] at h
    have ih := still_ids h.2
    cases c <;> first | exact ih | exact (Bool.false_ne_true h.1).elim
theorem flat_still : ∀ {t : Ty} {x : t.den}, (flat t x).all CV.still = true
  | .int k, x => rfl
  | .bool, x => rfl
  | .str, x => rfl
  | .sl e t, x => rfl
  | .pair p q, x => by simp only [flat, List.all_append, Bool.and_eq_true]; exact ⟨flat_still, flat_still⟩
theorem still_splice {cs sg : List CV} {off : Nat} (h : cs.all CV.still = true) (h' : sg.all CV.still = true) : (splice cs off sg).all CV.still = true := by
  unfold splice
  simp only [List.all_append, Bool.and_eq_true]
  rw [List.all_eq_true] at h
  exact ⟨⟨List.all_eq_true.2 fun c hc => h c (List.mem_of_mem_take hc), h'⟩, List.all_eq_true.2 fun c hc => h c (List.mem_of_mem_drop hc)⟩
theorem scalar_still {cs : List CV} (h : cs.all CV.scalar = true) : cs.all CV.still = true := by
  rw [List.all_eq_true] at h ⊢
  intro c hc
  have := h c hc
  cases c <;> first | rfl | exact (Bool.false_ne_true this).elim
/-- Data of a flat kind is scalars. -/
theorem flat_ids (hs : Sees T L st) : ∀ {t : Ty} {cs : List CV} {x : t.den} {r : List CV}, t.flatB = true → unflat L t cs = some (x, r) → ∃ d0, cs = d0 ++ r ∧ idsOf d0 = []
  | .int k, cs, x, r, _, h => by
    cases cs with
    | nil => simp [unflat] at h
    | cons c cs =>
      simp only [unflat] at h
      split at h
      · rename_i n hn
        injection h with h
        injection h with h1 h2
        subst h2
        exact ⟨[c], rfl, by rw [asI_ok hn]; rfl⟩
      · cases h
  | .bool, cs, x, r, _, h => by
    cases cs with
    | nil => simp [unflat] at h
    | cons c cs =>
      simp only [unflat] at h
      split at h
      · rename_i n hn
        injection h with h
        injection h with h1 h2
        subst h2
        exact ⟨[c], rfl, by rw [asB_ok hn]; rfl⟩
      · cases h
  | .str, cs, x, r, _, h => by
    cases cs with
    | nil => simp [unflat] at h
    | cons c cs =>
      simp only [unflat] at h
      split at h
      · rename_i n hn
        injection h with h
        injection h with h1 h2
        subst h2
        exact ⟨[c], rfl, by rw [asS_ok hn]; rfl⟩
      · cases h
  | .sl _ _, cs, x, r, hf, _ => by cases hf
  | .pair p q, cs, x, r, hf, h => by
    simp only [Ty.flatB, Bool.and_eq_true] at hf
    simp only [unflat] at h
    split at h
    · rename_i x0 r0 h0
      split at h
      · rename_i y r1 h1
        injection h with h
        injection h with e1 e2
        subst e2
        obtain ⟨d0, rfl, k0⟩ := flat_ids hs hf.1 h0
        obtain ⟨d1, rfl, k1⟩ := flat_ids hs hf.2 h1
        exact ⟨d0 ++ d1, by rw [List.append_assoc], by rw [idsOf_append, k0, k1]; rfl⟩
      · cases h
    · cases h
theorem RdS_nil {loc : Loc} {k : Nat} (h : RdS C loc [] k) : C.S k := by
  rcases h with h | ⟨b, hb, _⟩
  · exact h
  · cases hb
set_option maxHeartbeats 1000000 in
theorem evStore_ok (hR : Rel P M wE C st a) (hs : Sees T L st) {E : Nat} {p : CV} {tv : TV} {u : Loc} (h : evStore P L E p tv = some u) {pv v : Value} (hp : RC P C st.loc p pv) (hv : RV P C st.loc tv v) :
    ∃ (Es : List Ent) (w' : World), u = ups Es ∧ EntsOk C st.loc w' C.S Es ∧ (Instr.storeAt E pv v).run P C.w = .ok () w' ∧ ∀ e ∈ Es, eget Es e.b = some e → RLv P (C.ents w' C.S Es) (ups Es ++ st.loc) e.v e.φ e.lb := by
  unfold evStore at h
  split at h
  · rename_i k n htk
    obtain ⟨hi, hag, eT, huT⟩ := tk_arr htk
    split at h
    · rename_i b k' m xs
      split at h
      · rename_i T' k'' n' ys hb
        split at h
        · rename_i hc
          obtain ⟨rfl, rfl, rfl, rfl, hcl⟩ := hc
          injection h with h
          subst h
          have hb' := hs.L _ _ hb
          obtain ⟨hlen, g, h1, h2, h3⟩ := hR.inv.ok _ _ hb'
          obtain ⟨lb, hlb, _, hal⟩ := hp
          rw [hb'] at hlb
          injection hlb with hlb
          subst hlb
          obtain ⟨g', h4, rfl⟩ := hal rfl
          rw [h1] at h4
          injection h4 with h4
          injection h4 with h4
          injection h4 with h4
          subst h4
          obtain ⟨hxl, rfl⟩ := hv
          have hsl : (xs.map (Value.int k)).length = P.cellsOf E := by rw [List.length_map, hxl, hcl]
          have hrun := store_run hi h2 (off := 0) (sg := xs.map (Value.int k)) hsl (by simp [hxl, hlen]) (v := .agg (xs.map (Value.int k)).toArray) (by simp [Value.cells]) (fun u hu => by obtain ⟨q, _, rfl⟩ := List.mem_map.1 hu; rfl)
          have hEO := EntsOk.change (M := M) (wE := wE) hR.inv hb' rfl (lb := .arr T' k n xs) (fun d' ep' e' t' ys' he => by cases he) (ids := []) (by simp) h3 (cur := (List.take 0 (ys.map (Value.int k)) ++ xs.map (Value.int k) ++ List.drop (0 + (xs.map (Value.int k)).length) (ys.map (Value.int k))).toArray)
          refine ⟨_, _, rfl, hEO, hrun, fun e he hge => ?_⟩
          simp only [deadEnts, List.map_nil, List.mem_singleton] at he
          subst he
          refine ⟨hxl, g, h1, ?_, .inl h3⟩
          have := blk_set (cur' := xs.map (Value.int k)) h2
          have e0 : List.take 0 (ys.map (Value.int k)) ++ xs.map (Value.int k) ++ List.drop (0 + (xs.map (Value.int k)).length) (ys.map (Value.int k)) = xs.map (Value.int k) := by
            rw [List.drop_of_length_le (by simp [hxl, hlen])]
            simp
          rw [e0]
          exact this
        · cases h
      · cases h
    · cases h
  · rename_i c htk
    split at h
    · rename_i gk hgk
      obtain ⟨hi, hag⟩ := tk_ok htk hgk
      split at h
      · rename_i sg hsg
        split at h
        · rename_i hlk
          obtain ⟨hl, hkn⟩ := hlk
          obtain ⟨segv, hsv, hpk⟩ := tvCells_ok hsg hv
          have hone := RCs_all_one hsv hkn
          have hlv : segv.length = P.cellsOf E := by rw [← hsv.1]; exact hl
          split at h
          · -- a variable
            rename_i b off
            split at h
            · rename_i T' cs hb
              split at h
              · rename_i hle
                injection h with h
                subst h
                have hb' := hs.L _ _ hb
                obtain ⟨g, vs, h1, h2, h3, h4⟩ := hR.inv.ok _ _ hb'
                obtain ⟨lb, hlb, _, hal⟩ := hp
                rw [hb'] at hlb
                injection hlb with hlb
                subst hlb
                obtain ⟨g', h5, rfl⟩ := hal rfl
                rw [h1] at h5
                injection h5 with h5
                injection h5 with h5
                injection h5 with h5
                subst h5
                have hrun := store_run hi h2 (off := off) hlv (by rw [← hsv.1, ← h4.1]; exact hle) (cells_toList hpk hone) hone
                have hEO := EntsOk.change (M := M) (wE := wE) hR.inv hb' rfl (lb := .cells T' (splice cs off sg)) (fun d' ep' e' t' ys' he => by cases he) (ids := []) (by simp) h3 (cur := (vs.take off ++ segv ++ vs.drop (off + segv.length)).toArray)
                refine ⟨_, _, rfl, hEO, hrun, fun e he hge => ?_⟩
                simp only [deadEnts, List.map_nil, List.mem_singleton] at he
                subst he
                exact ⟨g, _, h1, blk_set h2, .inl h3, RCs_ext (hEO.ext hR.inv) (RCs_splice h4 hsv off)⟩
              · cases h
            · cases h
          · -- an element of a row
            rename_i b sz i off
            split at h
            · rename_i d ep e t xs hb
              split at h
              · rename_i hc
                obtain ⟨rfl, hle⟩ := hc
                have hb' := hs.L _ _ hb
                obtain ⟨lb, hlb, _, hal⟩ := hp
                rw [hb'] at hlb
                injection hlb with hlb
                subst hlb
                obtain ⟨g, o', n, cap, hρ, hi0, hin, rfl⟩ := hal rfl
                obtain ⟨hix, cur, k1, k2, k3, k4, k5, k6⟩ := elem_ok hR.inv hb' hρ hi0 hin
                have hmul : i.toNat * t.sz + t.sz ≤ cap * t.sz := by rw [← Nat.succ_mul]; exact Nat.mul_le_mul_right _ (by omega)
                have hlev : off + segv.length ≤ t.sz := by rw [← hsv.1]; exact hle
                have hrun := store_run hi k1 (off := o' + i.toNat * t.sz + off) hlv (by omega) (cells_toList hpk hone) hone
                have hok := hR.inv.ok _ _ hb'
                have hD := RCs_splice (off := off) k6 hsv
                have hel : (elemCells d b ep t xs i).length = t.sz := by rw [k6.1, k5]
                have hgS : ¬ C.S g := (hR.inv.own b _ hb' rfl g k2).2.1
                have hnx : n = xs.length := by
                  cases d with
                  | true => exact (own_row hok hρ).1
                  | false => exact (ownSh_row hok hρ).1
                split at h
                · rename_i x hx
                  split at h
                  · -- no slice in it
                    rename_i hfl
                    injection h with h
                    subst h
                    have hEO := EntsOk.change (M := M) (wE := wE) hR.inv hb' rfl (lb := .row d (ep + 1) e t (xs.set i.toNat x)) (fun d' ep' e' t' ys' he => by injection he with _ q _ _ _; exact ⟨d, ep, e, t, xs, rfl, by omega⟩) (ids := []) (by simp) k2 (cur := (cur.take (o' + i.toNat * t.sz + off) ++ segv ++ cur.drop (o' + i.toNat * t.sz + off + segv.length)).toArray)
                    refine ⟨_, _, rfl, hEO, hrun, fun e1 he hge => ?_⟩
                    simp only [deadEnts, List.map_nil, List.mem_singleton] at he
                    subst he
                    obtain ⟨d0, q1, q2⟩ := flat_ids hs hfl hx
                    rw [List.append_nil] at q1
                    obtain ⟨d0', c0, c1, z1, z2, z3, z4, z5⟩ := unflat_ok hR.inv hs (ids := []) hx hD (by rw [q1, q2]; simp)
                    obtain rfl : c1 = [] := List.length_eq_zero_iff.1 z5.1.symm
                    rw [List.append_nil] at z2
                    have hRd : Rd C.S C.w t x c0 := Rd.mono (fun k hk => RdS_nil hk) (fun _ _ => rfl) z3
                    rw [← z2] at hRd
                    show RLv _ _ _ (C.ρ b) _ _
                    cases d with
                    | true =>
                      obtain ⟨_, cur', f, m1, m2, m3, m4, m5, m6, m7, m8⟩ := own_row hok hρ
                      have hcc : cur' = cur := by
                        have := m1.symm.trans k1
                        injection this with this
                        injection this with this
                        simpa using this
                      subst hcc
                      show Own _ _ _ [C.ρ b] _
                      rw [hρ, hnx]
                      exact own_set (ψ := fun _ => False) m1 m2 m3 m4 m5 m6 m7 m8 hix hlev (Rd.own hfl hRd) (fun k hk => hk.elim) (fun k hk => .inl hk) rfl
                    | false =>
                      obtain ⟨_, cur', m1, m2, m3, m4, m5, m6⟩ := ownSh_row hok hρ
                      have hcc : cur' = cur := by
                        have := m1.symm.trans k1
                        injection this with this
                        injection this with this
                        simpa using this
                      subst hcc
                      show OwnSh _ _ _ _ _ (C.ρ b) _
                      rw [hρ, hnx]
                      exact ownSh_set m1 m2 m3 m4 (.inl m5) hgS m6 hix hlev hRd rfl
                  · rename_i hfl
                    have hfl : t.flatB = false := by simpa using hfl
                    split at h
                    · -- deep
                      rename_i hd
                      subst hd
                      split at h
                      · rename_i ids hids
                        split at h
                        · rename_i hc
                          obtain ⟨hnd, hbi, hinn⟩ := hc
                          injection h with h
                          subst h
                          have hEO := EntsOk.change (M := M) (wE := wE) hR.inv hb' rfl (lb := .row true (ep + 1) e t (xs.set i.toNat x)) (fun d' ep' e' t' ys' he => by injection he with _ q _ _ _; exact ⟨true, ep, e, t, xs, rfl, by omega⟩) hbi k2 (cur := (cur.take (o' + i.toNat * t.sz + off) ++ segv ++ cur.drop (o' + i.toNat * t.sz + off + segv.length)).toArray)
                          refine ⟨_, _, by rw [← ups_dead (C := C)]; rfl, hEO, hrun, fun e1 he hge => ?_⟩
                          rcases List.mem_cons.1 he with rfl | he
                          · show RLv _ _ _ (C.ρ b) _ _
                            obtain ⟨_, cur', f, m1, m2, m3, m4, m5, m6, m7, m8⟩ := own_row hok hρ
                            have hcc : cur' = cur := by
                              have := m1.symm.trans k1
                              injection this with this
                              injection this with this
                              simpa using this
                            subst hcc
                            show Own _ _ _ [C.ρ b] _
                            rw [hρ, hnx]
                            have hx0 := getD_get (n := n) (z := t.z) hi0 hix
                            have hO := elem_own hR.inv hs hb' (fi := f i.toNat) (fun k hk => (m6 _ k hk).1) (m8 _ _ hx0) k6 hfl hsv hle hx hids hnd hbi hinn (w' := C.w.setRow g (cur'.take (o' + i.toNat * t.sz + off) ++ segv ++ cur'.drop (o' + i.toNat * t.sz + off + segv.length)).toArray)
                              (fun k hk => setRow_other _ _ _ _ (m6 _ k hk).2) (fun b' hb1 ⟨lb1, r1, r2⟩ k hk => setRow_other _ _ _ _ (fun he => by subst he; exact hR.inv.disj b' b lb1 _ (fun he => hbi (he ▸ hb1)) r1 hb' r2 rfl _ hk k2))
                            refine own_set m1 m2 m3 m4 m5 m6 m7 m8 hix hlev hO (fun k hk => ?_) (fun k hk => .inl hk) rfl
                            rcases hk with hk | ⟨b', hb1, hl1, hk⟩
                            · exact ⟨.inl (m6 _ k hk).1, (m6 _ k hk).2, fun j hj => m7 _ _ k hj hk⟩
                            · obtain ⟨lb1, r1, r2⟩ := hl1
                              have hne : b' ≠ b := fun he => hbi (he ▸ hb1)
                              exact ⟨.inr ⟨b', hb1, ⟨lb1, r1, r2⟩, hk⟩, fun he => by subst he; exact hR.inv.disj b' b lb1 _ hne r1 hb' r2 rfl _ hk k2, fun j hj => absurd (m6 _ k hj).1 (hR.inv.disj b' b lb1 _ hne r1 hb' r2 rfl _ hk)⟩
                          · rw [(mem_dead he).2.1]
                            trivial
                        · cases h
                      · cases h
                    · rename_i hd
                      have hd : d = false := by simpa using hd
                      subst hd
                      split at h
                      · rename_i hst
                        injection h with h
                        subst h
                        have hEO := EntsOk.change (M := M) (wE := wE) hR.inv hb' rfl (lb := .row false (ep + 1) e t (xs.set i.toNat x)) (fun d' ep' e' t' ys' he => by injection he with _ q _ _ _; exact ⟨false, ep, e, t, xs, rfl, by omega⟩) (ids := []) (by simp) k2 (cur := (cur.take (o' + i.toNat * t.sz + off) ++ segv ++ cur.drop (o' + i.toNat * t.sz + off + segv.length)).toArray)
                        refine ⟨_, _, rfl, hEO, hrun, fun e1 he hge => ?_⟩
                        simp only [deadEnts, List.map_nil, List.mem_singleton] at he
                        subst he
                        have hss : (splice (elemCells false b ep t xs i) off sg).all CV.still = true := still_splice (by simp only [elemCells, Bool.false_and, Bool.false_eq_true, if_false]; exact flat_still) hst
                        obtain ⟨d0', c0, c1, z1, z2, z3, z4, z5⟩ := unflat_ok hR.inv hs (ids := []) hx hD (by rw [still_ids hss]; simp)
                        obtain rfl : c1 = [] := List.length_eq_zero_iff.1 z5.1.symm
                        rw [List.append_nil] at z2
                        have hRd : Rd C.S C.w t x c0 := Rd.mono (fun k hk => RdS_nil hk) (fun _ _ => rfl) z3
                        rw [← z2] at hRd
                        show RLv _ _ _ (C.ρ b) _ _
                        obtain ⟨_, cur', m1, m2, m3, m4, m5, m6⟩ := ownSh_row hok hρ
                        have hcc : cur' = cur := by
                          have := m1.symm.trans k1
                          injection this with this
                          injection this with this
                          simpa using this
                        subst hcc
                        show OwnSh _ _ _ _ _ (C.ρ b) _
                        rw [hρ, hnx]
                        exact ownSh_set m1 m2 m3 m4 (.inl m5) hgS m6 hix hlev hRd rfl
                      · cases h
                · cases h
              · cases h
            · cases h
          · -- an element of an array
            rename_i b n i
            split at h
            · rename_i T' k n' xs k' m hb
              split at h
              · rename_i hc
                obtain ⟨rfl, rfl⟩ := hc
                injection h with h
                subst h
                have hb' := hs.L _ _ hb
                obtain ⟨hlen, g, h1, h2, h3⟩ := hR.inv.ok _ _ hb'
                obtain ⟨lb, hlb, _, hal⟩ := hp
                rw [hb'] at hlb
                injection hlb with hlb
                subst hlb
                obtain ⟨g', h4, h5, h6, rfl⟩ := hal rfl
                rw [h1] at h4
                injection h4 with h4
                injection h4 with h4
                injection h4 with h4
                subst h4
                obtain ⟨u0, us, rfl, hu0, hus⟩ := RCs_cons hsv
                obtain rfl : us = [] := List.length_eq_zero_iff.1 hus.1.symm
                obtain rfl : u0 = .int k m := hu0
                have hrun := store_run hi h2 (off := i.toNat) hlv (by simp [hlen]; omega) (cells_toList hpk hone) hone
                have hEO := EntsOk.change (M := M) (wE := wE) hR.inv hb' rfl (lb := .arr T' k n (xs.set i.toNat m)) (fun d' ep' e' t' ys' he => by cases he) (ids := []) (by simp) h3 (cur := (List.take i.toNat (xs.map (Value.int k)) ++ [Value.int k m] ++ List.drop (i.toNat + [Value.int k m].length) (xs.map (Value.int k))).toArray)
                refine ⟨_, _, rfl, hEO, hrun, fun e he hge => ?_⟩
                simp only [deadEnts, List.map_nil, List.mem_singleton] at he
                subst he
                refine ⟨by rw [List.length_set]; exact hlen, g, h1, ?_, .inl h3⟩
                have e0 : List.take i.toNat (xs.map (Value.int k)) ++ [Value.int k m] ++ List.drop (i.toNat + [Value.int k m].length) (xs.map (Value.int k)) = (xs.set i.toNat m).map (Value.int k) := by
                  apply List.ext_getElem?
                  intro j
                  rw [splice_get (by simp [hlen]; omega), List.map_set]
                  by_cases hj : j = i.toNat
                  · subst hj
                    rw [if_pos (by simp), List.getElem?_set_self (by simp [hlen]; omega)]
                    simp
                  · rw [if_neg (by simp; omega), List.getElem?_set_ne (Ne.symm hj)]
                rw [e0]
                exact blk_set h2
              · cases h
            · cases h
          · cases h
        · cases h
      · cases h
    · cases h
  · cases h
end
end Go.Proofs.Ytceffcfnjjlbkaa.E
