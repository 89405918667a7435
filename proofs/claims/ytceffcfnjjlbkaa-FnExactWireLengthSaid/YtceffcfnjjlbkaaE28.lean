/- The evaluator, 28: a function that the evaluator runs keeps its contract. -/
import Derived.Test.YtceffcfnjjlbkaaE27
import Derived.Conc.MuLone
namespace Go.Proofs.Ytceffcfnjjlbkaa.E
open Go.RowKit
set_option linter.unusedVariables false
set_option linter.unusedSimpArgs false
section
variable {P : Program} {Γ : Nat → Option Sig} {M : Nat → Prop} {wE : World} {C C0 : Cx} {st : St} {a : Act} {w : World} {S : Nat → Prop}
theorem resvP_names : ∀ {ps : List PK} {xs : dens ps} {m : Nat}, ∀ b ∈ resvP ps xs m, b ∈ names (startP ps xs m).2
  | [], xs, m, b, h => by cases h
  | .val g t :: ps, xs, m, b, h => resvP_names (ps := ps) b h
  | .rdp T t :: ps, xs, m, b, h => resvP_names (ps := ps) b h
  | .fn _ _ :: ps, xs, m, b, h => resvP_names (ps := ps) b h
  | .arr _ _ :: ps, xs, m, b, h => resvP_names (ps := ps) b h
  | .mu g t :: ps, xs, m, b, h => by
    simp only [resvP, List.mem_append] at h
    simp only [startP, names, List.map_append, List.mem_append]
    exact h.imp id (resvP_names (ps := ps) b)
  | .mv g t :: ps, xs, m, b, h => by
    simp only [resvP] at h
    simp only [startP, names, List.map_append, List.mem_append]
    exact .inr (resvP_names (ps := ps) b h)
  | .ref T true t :: ps, xs, m, b, h => by
    simp only [resvP, List.mem_cons] at h
    simp only [startP, names, List.map_append, List.mem_append, List.map_cons, List.mem_cons]
    rcases h with h | h
    · exact .inl (.inl h)
    · exact .inr (resvP_names (ps := ps) b h)
  | .ref T false t :: ps, xs, m, b, h => by
    simp only [resvP, List.mem_cons] at h
    simp only [startP, names, List.map_append, List.mem_append, List.map_cons, List.mem_cons, List.map_nil]
    rcases h with h | h
    · exact .inl (.inl h)
    · exact .inr (resvP_names (ps := ps) b h)
theorem start_ok {fn : Func} {ps : List PK} {xs : dens ps} {vs : List Value} (hSM : ∀ k, S k → k < w.heap.size ∧ ¬ M k) (hM : ∀ k, M k → k < w.heap.size) (h : ArgsOk P S w ps xs vs M) :
    ∃ C0 : Cx, C0.w = w ∧ C0.S = S ∧ C0.S0 = S ∧ Rel P M w C0 (start fn ps xs) { tmps := vs.toArray ++ Array.replicate (fn.ntmps - vs.toArray.size) undef, defers := [] } ∧ Kp C0 (resvP ps xs startN) C0 (start fn ps xs).loc ∧ InOut P C0 ps xs startN vs := by
  obtain ⟨Es, e1, e2, e3, e4, e5, e6⟩ := startP_ok startN h
  let Cb : Cx := ⟨w, S, S, fun _ => undef, fun _ _ => False⟩
  have hat : ∀ e ∈ Es, lget (start fn ps xs).loc e.b = some e.lb ∧ (Cb.ents w S Es).ρ e.b = e.v := fun e he => by
    have hg := eget_nodup e2.nodup e he
    refine ⟨?_, (ents_at hg).1⟩
    show lget (startP ps xs startN).2 e.b = _
    rw [← e1, lget_ups, hg]
    rfl
  obtain ⟨q1, q2⟩ := e6 (Cb.ents w S Es) (start fn ps xs).loc rfl rfl hat
  have hof : ∀ b lb, lget (start fn ps xs).loc b = some lb → ∃ e ∈ Es, e.b = b ∧ e.lb = lb ∧ (Cb.ents w S Es).ρ b = e.v ∧ (Cb.ents w S Es).φ b = e.φ := fun b lb hb => by
    have hb : lget (startP ps xs startN).2 b = some lb := hb
    rw [← e1, lget_ups] at hb
    obtain ⟨e, he, hl⟩ := Option.map_eq_some_iff.1 hb
    obtain ⟨h1, h2⟩ := eget_mem he
    exact ⟨e, h1, h2, hl, (ents_at he).1, (ents_at he).2⟩
  refine ⟨Cb.ents w S Es, rfl, rfl, rfl, ⟨⟨rfl, rfl, rfl, Nat.le_refl _, fun k hk hM => rfl, fun k hk => (hSM k hk).1, fun k hk => .inl hk, fun b lb hb ha k hk => ?_, fun b lb hb => ?_, fun b b' lb lb' hne hb hb' ha ha' k hk hk' => ?_⟩, by simp [start, e4, e5], fun i tv hi => ?_, rfl⟩, ⟨fun k hk => hk, rfl, fun b hb => ?_⟩, q2⟩
  · obtain ⟨e, h1, h2, h3, h4, h5⟩ := hof b lb hb
    rw [h5] at hk
    have hm := e2.φ e h1 k hk
    exact ⟨hM k hm, fun hs => (hSM k hs).2 hm, .inr hm⟩
  · obtain ⟨e, h1, h2, h3, h4, h5⟩ := hof b lb hb
    show RLv P _ _ ((Cb.ents w S Es).ρ b) ((Cb.ents w S Es).φ b) lb
    rw [h4, h5, ← h3]
    exact e3 _ _ rfl (fun _ h => h) hat e h1
  · obtain ⟨e, h1, h2, h3, h4, h5⟩ := hof b lb hb
    obtain ⟨e', h1', h2', h3', h4', h5'⟩ := hof b' lb' hb'
    rw [h5] at hk
    rw [h5'] at hk'
    exact pair_mem (R := fun e e' : Ent => ∀ k, e.φ k → ¬ e'.φ k) (fun x y hxy k hy hx => hxy k hx hy) (f := fun e : Ent => e.b) e2.disj e h1 e' h1' (by rw [h2, h2']; exact hne) k hk hk'
  · simp only [start] at hi
    by_cases hlt : i < (startP ps xs startN).1.length
    · rw [List.getElem?_append_left hlt] at hi
      have hv : i < vs.length := by omega
      have := q1 i tv vs[i] hi (List.getElem?_eq_getElem hv)
      rw [Array.getD_eq_getD_getElem?, Array.getElem?_append_left (by simpa using hv)]
      simpa [List.getElem?_eq_getElem hv] using this
    · rw [List.getElem?_append_right (by omega), List.getElem?_replicate] at hi
      split at hi
      · injection hi with hi
        subst hi
        trivial
      · cases hi
  · have := resvP_names b hb
    obtain ⟨lb, hlb⟩ := lget_isSome (l := (start fn ps xs).loc) this
    exact ⟨lb, hlb, fun _ => rfl⟩

/-! ### the end -/
theorem takeOwn_ok (hI : Inv P M wE C st.loc) {t : Ty} {cs : List CV} {x : t.den} {ids : List Nat} (h : takeOwn (lget st.loc) t cs = some (x, ids)) (hnd : ids.Nodup) {vs : List Value} (hv : RCs P C st.loc cs vs) : Own C.w t x vs (ofIds C st.loc ids) := by
  unfold takeOwn at h
  split at h
  · rename_i x' ids' hx hids
    injection h with h
    injection h with h1 h2
    subst h1; subst h2
    obtain ⟨_, d0, c0, c1, q1, q2, q3, q4, q5⟩ := own_cells (T := tget st.tm) hI (sees_all st) hx hids hnd hv
    have hc1 : c1 = [] := List.length_eq_zero_iff.1 q4.1.symm
    subst hc1
    rw [q2, List.append_nil]
    exact q5 C.w (fun _ _ => rfl)
  · cases h
theorem takeRd_ok (hI : Inv P M wE C st.loc) {t : Ty} {cs : List CV} {x : t.den} {ids : List Nat} (h : takeRd (lget st.loc) t cs = some (x, ids)) {vs : List Value} (hv : RCs P C st.loc cs vs) : Rd (RdS C st.loc ids) C.w t x vs := by
  unfold takeRd at h
  split at h
  · rename_i x' hx
    injection h with h
    injection h with h1 h2
    subst h1; subst h2
    obtain ⟨d0, c0, c1, q1, q2, q3, q4, q5⟩ := unflat_ok (T := tget st.tm) hI (sees_all st) hx hv (ids := idsOf cs) (fun b hb => hb)
    have hc1 : c1 = [] := List.length_eq_zero_iff.1 q5.1.symm
    subst hc1
    rw [q2, List.append_nil]
    exact q3
  · cases h
theorem muCells_now {resv : List Nat} (hk : Kp C0 resv C st.loc) {cs : List CV} {vs : List Value} (h : MuCells P C0 cs vs) (hb : ∀ b, .own b ∈ cs → b ∈ resv) : RCs P C st.loc cs vs := by
  refine ⟨h.1, fun j c v hc hv => ?_⟩
  rcases h.2 j c v hc hv with ⟨b, rfl, q1, q2⟩ | q
  · obtain ⟨lb, h1, h2⟩ := hk.ρ b (hb b (List.mem_of_getElem? hc))
    exact ⟨lb, h1, q2, fun ha => by rw [h2 ha]; exact q1⟩
  · exact q _ _
theorem ofIds_disj (hI : Inv P M wE C st.loc) {i0 i1 : List Nat} (h : ∀ b ∈ i0, ∀ b' ∈ i1, b ≠ b') (k : Nat) (h0 : ofIds C st.loc i0 k) (h1 : ofIds C st.loc i1 k) : False := by
  obtain ⟨b, hb, ⟨lb, q1, q2⟩, hk⟩ := h0
  obtain ⟨b', hb', ⟨lb', q1', q2'⟩, hk'⟩ := h1
  exact hI.disj b b' lb lb' (h b hb b' hb') q1 q1' q2 q2' k hk hk'
theorem ofIds_sub {loc : Loc} {i0 i1 : List Nat} (h : ∀ b ∈ i0, b ∈ i1) (k : Nat) (hk : ofIds C loc i0 k) : ofIds C loc i1 k := by
  obtain ⟨b, hb, q⟩ := hk
  exact ⟨b, h b hb, q⟩
theorem finO_ok {resv so : List Nat} (hI : Inv P M wE C st.loc) (hk : Kp C0 resv C st.loc) : ∀ {ps : List PK} {xs : dens ps} {m : Nat} {vs : List Value} {o : outs ps} {io so' : List Nat}, InOut P C0 ps xs m vs → (∀ b ∈ resvP ps xs m, b ∈ resv) → finO (lget st.loc) ps xs m = some (o, io, so') → io.Nodup → (∀ b ∈ so', b ∈ so) →
    OutsOk (RdS C st.loc so) C.w ps vs o (ofIds C st.loc io)
  | [], xs, m, vs, o, io, so', hin, hb, h, hnd, hso => trivial
  | .val g t :: ps, xs, m, vs, o, io, so', hin, hb, h, hnd, hso => by
    obtain ⟨v, vs', rfl, hin⟩ := hin
    exact ⟨v, vs', rfl, finO_ok hI hk (ps := ps) hin hb h hnd hso⟩
  | .rdp T t :: ps, xs, m, vs, o, io, so', hin, hb, h, hnd, hso => by
    obtain ⟨v, vs', rfl, hin⟩ := hin
    exact ⟨v, vs', rfl, finO_ok hI hk (ps := ps) hin hb h hnd hso⟩
  | .fn _ _ :: ps, xs, m, vs, o, io, so', hin, hb, h, hnd, hso => by
    obtain ⟨v, vs', rfl, hin⟩ := hin
    exact ⟨v, vs', rfl, finO_ok hI hk (ps := ps) hin hb h hnd hso⟩
  | .arr _ _ :: ps, xs, m, vs, o, io, so', hin, hb, h, hnd, hso => by
    obtain ⟨v, vs', rfl, hin⟩ := hin
    exact ⟨v, vs', rfl, finO_ok hI hk (ps := ps) hin hb h hnd hso⟩
  | .mv g t :: ps, xs, m, vs, o, io, so', hin, hb, h, hnd, hso => by
    obtain ⟨v, vs', rfl, hin⟩ := hin
    exact ⟨v, vs', rfl, finO_ok hI hk (ps := ps) hin hb h hnd hso⟩
  | .mu g t :: ps, xs, m, vs, o, io, so', hin, hb, h, hnd, hso => by
    obtain ⟨v, vs', cs, rfl, hp, hmu, hin⟩ := hin
    simp only [finO] at h
    split at h
    · rename_i y ids o2 io2 so2 hy ho2
      simp only [Option.some.injEq, Prod.mk.injEq] at h
      obtain ⟨rfl, rfl, rfl⟩ := h
      have hn := List.nodup_append.1 hnd
      have hrcs : RCs P C st.loc (thaw t xs.1 m).1 cs := muCells_now hk hmu fun b hbc => hb b (by
        simp only [resvP, List.mem_append]
        rcases thaw_cells hbc with ⟨b', he, hb'⟩ | ⟨_, _, he⟩ | ⟨_, he⟩ | ⟨_, he⟩
        · injection he with he
          subst he
          exact .inl hb'
        · cases he
        · cases he
        · cases he)
      exact ⟨v, vs', _, _, rfl, ⟨cs, hp, takeOwn_ok hI hy hn.1 hrcs⟩, finO_ok hI hk hin (fun b hb' => hb b (by simp only [resvP, List.mem_append]; exact .inr hb')) ho2 hn.2.1 hso, ofIds_sub (fun b hb => List.mem_append.2 (.inl hb)), ofIds_sub (fun b hb => List.mem_append.2 (.inr hb)), fun k h0 h1 => ofIds_disj hI hn.2.2 k h0 h1⟩
    · cases h
  | .ref T true t :: ps, xs, m, vs, o, io, so', hin, hb, h, hnd, hso => by
    obtain ⟨v, vs', rfl, hv, hin⟩ := hin
    simp only [finO] at h
    split at h
    · rename_i T' cs o2 io2 so2 hm ho2
      split at h
      · rename_i hT
        subst hT
        split at h
        · rename_i y ids hy
          simp only [Option.some.injEq, Prod.mk.injEq] at h
          obtain ⟨rfl, rfl, rfl⟩ := h
          have hn := List.nodup_append.1 hnd
          have hn1 := List.nodup_cons.1 hn.1
          obtain ⟨lb, q1, q2⟩ := hk.ρ m (hb m (by simp [resvP]))
          rw [hm] at q1
          injection q1 with q1
          subst q1
          obtain ⟨g, us, k1, k2, k3, k4⟩ := hI.ok m _ hm
          have hlive : Lives st.loc m := ⟨_, hm, rfl⟩
          have hvv : v = .pointer (some ⟨g, 0, none⟩) := by rw [← hv, ← q2 rfl]; exact k1
          refine ⟨v, vs', ofIds C st.loc (m :: ids), ofIds C st.loc io2, rfl, ⟨g, us, ofIds C st.loc ids, hvv, k2, ⟨m, List.mem_cons_self .., hlive, k3⟩, takeOwn_ok hI hy hn1.2 k4, fun k hk' => ⟨ofIds_sub (fun b hb => List.mem_cons_of_mem _ hb) k hk', fun he => ?_⟩⟩, finO_ok hI hk hin (fun b hb' => hb b (by simp only [resvP, List.mem_cons]; exact .inr hb')) ho2 hn.2.1 hso, ofIds_sub (fun b hb => List.mem_append.2 (.inl hb)), ofIds_sub (fun b hb => List.mem_append.2 (.inr hb)), fun k h0 h1 => ofIds_disj hI hn.2.2 k h0 h1⟩
          subst he
          exact ofIds_disj hI (i0 := ids) (i1 := [m]) (fun b1 hb1 b' hb' he => hn1.1 (by simp only [List.mem_singleton] at hb'; rw [← hb', ← he]; exact hb1)) k hk' ⟨m, by simp, hlive, k3⟩
        · cases h
      · cases h
    · cases h
  | .ref T false t :: ps, xs, m, vs, o, io, so', hin, hb, h, hnd, hso => by
    obtain ⟨v, vs', rfl, hv, hin⟩ := hin
    simp only [finO] at h
    split at h
    · rename_i T' cs o2 io2 so2 hm ho2
      split at h
      · rename_i hT
        subst hT
        split at h
        · rename_i y ids hy
          simp only [Option.some.injEq, Prod.mk.injEq] at h
          obtain ⟨rfl, rfl, rfl⟩ := h
          have hn := List.nodup_append.1 hnd
          obtain ⟨lb, q1, q2⟩ := hk.ρ m (hb m (by simp [resvP]))
          rw [hm] at q1
          injection q1 with q1
          subst q1
          obtain ⟨g, us, k1, k2, k3, k4⟩ := hI.ok m _ hm
          have hlive : Lives st.loc m := ⟨_, hm, rfl⟩
          have hvv : v = .pointer (some ⟨g, 0, none⟩) := by rw [← hv, ← q2 rfl]; exact k1
          exact ⟨v, vs', ofIds C st.loc [m], ofIds C st.loc io2, rfl, ⟨g, us, fun _ => False, hvv, k2, ⟨m, List.mem_cons_self .., hlive, k3⟩, Rd.mono (fun k hk' => RdS.mono (fun b hb => hso b (List.mem_append.2 (.inl hb))) hk') (fun _ _ => rfl) (takeRd_ok hI hy k4), fun k hk' => hk'.elim⟩, finO_ok hI hk hin (fun b hb' => hb b (by simp only [resvP, List.mem_cons]; exact .inr hb')) ho2 hn.2.1 (fun b hb => hso b (List.mem_append.2 (.inr hb))), ofIds_sub (fun b hb => List.mem_append.2 (.inl hb)), ofIds_sub (fun b hb => List.mem_append.2 (.inr hb)), fun k h0 h1 => ofIds_disj hI hn.2.2 k h0 h1⟩
        · cases h
      · cases h
    · cases h
theorem finR_ok {so : List Nat} (hI : Inv P M wE C st.loc) : ∀ {rs : List RK} {tvs : List TV} {us : List Value} {r : rdens rs} {ir sr : List Nat}, finR (lget st.loc) rs tvs = some (r, ir, sr) → tvs.length = us.length → (∀ (j : Nat) tv u, tvs[j]? = some tv → us[j]? = some u → RV P C st.loc tv u) → ir.Nodup → (∀ b ∈ sr, b ∈ so) →
    ResOk (RdS C st.loc so) C.w rs r us (ofIds C st.loc ir)
  | [], tvs, us, r, ir, sr, h, hl, hv, hnd, hso => by
    cases tvs with
    | nil =>
      cases us with
      | nil => exact rfl
      | cons _ _ => cases hl
    | cons _ _ => simp [finR] at h
  | k :: rs, [], us, r, ir, sr, h, hl, hv, hnd, hso => by cases k <;> simp [finR] at h
  | k :: rs, tv :: tvs, [], r, ir, sr, h, hl, hv, hnd, hso => by cases hl
  | k :: rs, tv :: tvs, u :: us, r, ir, sr, h, hl, hv, hnd, hso => by
    have h0 := hv 0 tv u rfl rfl
    have hv' : ∀ (j : Nat) tv u, tvs[j]? = some tv → us[j]? = some u → RV P C st.loc tv u := fun j tv u hj hu => hv (j + 1) tv u (by simpa using hj) (by simpa using hu)
    have hl' : tvs.length = us.length := by simpa using hl
    have goO : ∀ {i0 i1 : List Nat} {x : k.den} {r2 : rdens rs} {s0 s1 : List Nat}, (i0 ++ i1).Nodup → (∀ b ∈ s0 ++ s1, b ∈ so) → finR (lget st.loc) rs tvs = some (r2, i1, s1) → R1Ok (RdS C st.loc so) C.w k x u (ofIds C st.loc i0) → ResOk (RdS C st.loc so) C.w (k :: rs) (x, r2) (u :: us) (ofIds C st.loc (i0 ++ i1)) := fun {i0 i1 x r2 s0 s1} hnd hso hr h1 => by
      have hn := List.nodup_append.1 hnd
      exact ⟨u, us, _, _, rfl, h1, finR_ok hI hr hl' hv' hn.2.1 (fun b hb => hso b (List.mem_append.2 (.inr hb))), ofIds_sub (fun b hb => List.mem_append.2 (.inl hb)), ofIds_sub (fun b hb => List.mem_append.2 (.inr hb)), fun k h0 h1 => ofIds_disj hI hn.2.2 k h0 h1⟩
    cases k with
    | own g t =>
      simp only [finR] at h
      split at h
      · rename_i cs r2 ir2 sr2 hcs hr2
        split at h
        · rename_i x ids hx
          simp only [Option.some.injEq, Prod.mk.injEq] at h
          obtain ⟨rfl, rfl, rfl⟩ := h
          obtain ⟨ucs, q1, q2⟩ := tvCells_ok hcs h0
          exact goO (s0 := []) hnd (by simpa using hso) hr2 ⟨ucs, q2, takeOwn_ok hI hx (List.nodup_append.1 hnd).1 q1⟩
        · cases h
      · cases h
    | shr g t =>
      simp only [finR] at h
      split at h
      · rename_i cs r2 ir2 sr2 hcs hr2
        split at h
        · rename_i x ids hx
          simp only [Option.some.injEq, Prod.mk.injEq] at h
          obtain ⟨rfl, rfl, rfl⟩ := h
          obtain ⟨ucs, q1, q2⟩ := tvCells_ok hcs h0
          exact goO (i0 := []) (by simpa using hnd) hso hr2 ⟨ucs, q2, Rd.mono (fun k hk' => RdS.mono (fun b hb => hso b (List.mem_append.2 (.inl hb))) hk') (fun _ _ => rfl) (takeRd_ok hI hx q1)⟩
        · cases h
      · cases h
    | ptr T d t =>
      simp only [finR] at h
      split at h
      · rename_i m r2 ir2 sr2 hr2
        split at h
        · rename_i T' cs hm
          split at h
          · rename_i hT
            subst hT
            obtain ⟨g, ucs, k1, k2, k3, k4⟩ := hI.ok m _ hm
            have hlive : Lives st.loc m := ⟨_, hm, rfl⟩
            obtain ⟨lb, z1, z2, z3⟩ := h0
            rw [hm] at z1
            injection z1 with z1
            subst z1
            obtain ⟨g', z4, z5⟩ := z3 rfl
            have hgg : g' = g := by
              rw [z4] at k1
              injection k1 with k1
              injection k1 with k1
              injection k1
            subst hgg
            split at h
            · rename_i hd
              subst hd
              split at h
              · rename_i y ids hy
                simp only [Option.some.injEq, Prod.mk.injEq] at h
                obtain ⟨rfl, rfl, rfl⟩ := h
                have hn1 := List.nodup_cons.1 (List.nodup_append.1 hnd).1
                refine goO (s0 := []) hnd (by simpa using hso) hr2 ⟨g', ucs, ofIds C st.loc ids, z5, k2, ⟨m, List.mem_cons_self .., hlive, k3⟩, takeOwn_ok hI hy hn1.2 k4, fun k hk' => ⟨ofIds_sub (fun b hb => List.mem_cons_of_mem _ hb) k hk', fun he => ?_⟩⟩
                subst he
                exact ofIds_disj hI (i0 := ids) (i1 := [m]) (fun b1 hb1 b' hb' he => hn1.1 (by simp only [List.mem_singleton] at hb'; rw [← hb', ← he]; exact hb1)) k hk' ⟨m, by simp, hlive, k3⟩
              · cases h
            · rename_i hd
              have hd : d = false := by simpa using hd
              subst hd
              split at h
              · rename_i y ids hy
                simp only [Option.some.injEq, Prod.mk.injEq] at h
                obtain ⟨rfl, rfl, rfl⟩ := h
                exact goO hnd hso hr2 ⟨g', ucs, fun _ => False, z5, k2, ⟨m, List.mem_cons_self .., hlive, k3⟩, Rd.mono (fun k hk' => RdS.mono (fun b hb => hso b (List.mem_append.2 (.inl hb))) hk') (fun _ _ => rfl) (takeRd_ok hI hy k4), fun k hk' => hk'.elim⟩
              · cases h
          · cases h
        · cases h
      · cases h
    | arr ik n =>
      simp only [finR] at h
      split at h
      · rename_i k' n' xs r2 ir2 sr2 hr2
        split at h
        · rename_i hc
          obtain ⟨rfl, rfl⟩ := hc
          simp only [Option.some.injEq, Prod.mk.injEq] at h
          obtain ⟨rfl, rfl, rfl⟩ := h
          exact goO (i0 := []) (s0 := []) (by simpa using hnd) (by simpa using hso) hr2 h0
        · cases h
      · cases h
def ResRun (P : Program) (tmps : Array Value) (w : World) : List ResultVar → List Value → Prop
  | [], us => us = []
  | .tmp t :: l, us => ∃ us', us = tmps.getD t undef :: us' ∧ ResRun P tmps w l us'
  | .cell b t :: l, us => ∃ u us', us = u :: us' ∧ (do loadVar t (← asAddr (tmps.getD b undef)) : Sem Value).run P w = .ok u w ∧ ResRun P tmps w l us'
theorem resTvs_ok (hR : Rel P M wE C st a) : ∀ {l : List ResultVar} {tvs : List TV}, resTvs P st l = some tvs → ∃ us, ResRun P a.tmps C.w l us ∧ us.length = l.length ∧ tvs.length = us.length ∧ ∀ (j : Nat) tv u, tvs[j]? = some tv → us[j]? = some u → RV P C st.loc tv u
  | [], tvs, h => by
    simp only [resTvs] at h
    injection h with h
    subst h
    exact ⟨[], rfl, rfl, rfl, fun j tv u hj => by simp at hj⟩
  | .tmp t :: l, tvs, h => by
    simp only [resTvs] at h
    split at h
    · rename_i v r hv hr
      injection h with h
      subst h
      obtain ⟨us, h1, h2, h3, h4⟩ := resTvs_ok hR hr
      rw [tget_eq] at hv
      refine ⟨_ :: us, ⟨us, rfl, h1⟩, by simp [h2], by simp [h3], fun j tv u hj hu => ?_⟩
      cases j with
      | zero =>
        simp only [List.getElem?_cons_zero, Option.some.injEq] at hj hu
        subst hj; subst hu
        exact hR.tm t _ hv
      | succ j => exact h4 j tv u (by simpa using hj) (by simpa using hu)
    · cases h
  | .cell b ty :: l, tvs, h => by
    simp only [resTvs] at h
    split at h
    · rename_i b' off r hb hr
      split at h
      · rename_i v hv
        injection h with h
        subst h
        obtain ⟨us, h1, h2, h3, h4⟩ := resTvs_ok hR hr
        rw [tget_eq] at hb
        have hp := hR.tm b _ hb
        obtain ⟨u, q1, q2⟩ := evLoad_ok hR (sees_all st) hv hp
        obtain ⟨_, _, ⟨ad, had⟩, _⟩ := hp
        refine ⟨u :: us, ⟨u, us, rfl, ?_, h1⟩, by simp [h2], by simp [h3], fun j tv u' hj hu => ?_⟩
        · rw [had] at q2 ⊢
          exact q2
        · cases j with
          | zero =>
            simp only [List.getElem?_cons_zero, Option.some.injEq] at hj hu
            subst hj; subst hu
            exact q1
          | succ j => exact h4 j tv u' (by simpa using hj) (by simpa using hu)
      · cases h
    · cases h
theorem resRun_run {tmps : Array Value} (f : ResultVar → Sem Value) (hf : ∀ u, f (.tmp u) = pure (tmps.getD u undef)) (hc : ∀ b t, f (.cell b t) = (do loadVar t (← asAddr (tmps.getD b undef)))) : ∀ {l : List ResultVar} {us : List Value}, ResRun P tmps w l us → (l.mapM f).run P w = .ok us w
  | [], us, h => by
    obtain rfl : us = [] := h
    simp
  | .tmp t :: l, us, h => by
    obtain ⟨us', rfl, h⟩ := h
    have ih := resRun_run f hf hc h
    simp [List.mapM_cons, hf, ih]
  | .cell b t :: l, us, h => by
    obtain ⟨u, us', rfl, h1, h⟩ := h
    have ih := resRun_run f hf hc h
    rw [List.mapM_cons, hc, Sem.run_bind, h1]
    simp [ih]
theorem results_run {fn : Func} {us : List Value} {tmps : Array Value} (h : ResRun P tmps w fn.results.toList us) : ∃ v, (results fn tmps).run P w = .ok v w ∧ Ret us (.returned v) := by
  have hfr : fn.results = fn.results.toList.toArray := rfl
  by_cases hl : us.length = 1
  · match us, hl, h with
    | [u], _, h =>
      refine ⟨u, ?_, .inl ⟨u, rfl, rfl⟩⟩
      unfold results
      rw [hfr, List.mapM_toArray]
      simp only [Sem.run_bind, Sem.run_map]
      rw [resRun_run _ (fun _ => rfl) (fun _ _ => rfl) h]
      simp
  · refine ⟨.tuple us.toArray, ?_, .inr ⟨hl, rfl⟩⟩
    unfold results
    rw [hfr, List.mapM_toArray]
    simp only [Sem.run_bind, Sem.run_map]
    rw [resRun_run _ (fun _ => rfl) (fun _ _ => rfl) h]
    simp [hl]
theorem nodupB_ok : ∀ {l : List Nat}, nodupB l = true → l.Nodup
  | [], _ => List.nodup_nil
  | b :: l, h => by
    simp only [nodupB] at h
    cases hb : memB b l with
    | true => rw [hb] at h; cases h
    | false =>
      rw [hb] at h
      exact List.nodup_cons.2 ⟨memB_false hb, nodupB_ok h⟩
end
end Go.Proofs.Ytceffcfnjjlbkaa.E
