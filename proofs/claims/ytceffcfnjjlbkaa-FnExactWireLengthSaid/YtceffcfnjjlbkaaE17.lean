/- The evaluator, 17: calls are sound. -/
import Derived.Test.YtceffcfnjjlbkaaE16
namespace Go.Proofs.Ytceffcfnjjlbkaa.E
open Go.RowKit
set_option linter.unusedVariables false
set_option linter.unusedSimpArgs false
section
variable {P : Program} {M : Nat → Prop} {wE : World} {C : Cx} {st : St} {a : Act} {T : Nat → Option TV} {L : Nat → Option LB} {Γ : Nat → Option Sig} {o : Oper}
/-- New blocks, named from m on. -/
structure NewEnts (m n : Nat) (φr : Nat → Prop) (Es : List Ent) : Prop where
  nodup : (Es.map (·.b)).Nodup
  names : ∀ e ∈ Es, m ≤ e.b ∧ e.b < m + n
  live : ∀ e ∈ Es, ∀ d' ep' e' t' (ys' : List (Ty.den t')), e.lb = .row d' ep' e' t' ys' → ep' = 0
  φ : ∀ e ∈ Es, ∀ k, e.φ k → φr k
  disj : Es.Pairwise (fun e e' => ∀ k, e.φ k → ¬ e'.φ k)
theorem NewEnts.none {m n : Nat} {φr : Nat → Prop} : NewEnts m n φr [] := ⟨by simp, fun e he => by simp at he, fun e he => by simp at he, fun e he => by simp at he, .nil⟩
theorem NewEnts.both {m n n' : Nat} {φ φ0 φ1 : Nat → Prop} {E0 E1 : List Ent} (h : NewEnts m n φ0 E0) (h' : NewEnts (m + n) n' φ1 E1) (s0 : ∀ k, φ0 k → φ k) (s1 : ∀ k, φ1 k → φ k) (sd : ∀ k, φ0 k → ¬ φ1 k) : NewEnts m (n + n') φ (E0 ++ E1) := by
  refine ⟨?_, fun e he => ?_, fun e he => ?_, fun e he k hk => ?_, ?_⟩
  · rw [List.map_append]
    refine List.nodup_append.2 ⟨h.nodup, h'.nodup, fun b hb b' hb' => ?_⟩
    obtain ⟨e, he, rfl⟩ := List.mem_map.1 hb
    obtain ⟨e', he', rfl⟩ := List.mem_map.1 hb'
    have := h.names e he
    have := h'.names e' he'
    omega
  · rcases List.mem_append.1 he with he | he
    · have := h.names e he; omega
    · have := h'.names e he; omega
  · rcases List.mem_append.1 he with he | he
    · exact h.live e he
    · exact h'.live e he
  · rcases List.mem_append.1 he with he | he
    · exact s0 k (h.φ e he k hk)
    · exact s1 k (h'.φ e he k hk)
  · exact List.pairwise_append.2 ⟨h.disj, h'.disj, fun e he e' he' k hk hk' => sd k (h.φ e he k hk) (h'.φ e' he' k hk')⟩
theorem thaw_new {w' : World} {S' : Nat → Prop} {t : Ty} {x : t.den} {cs : List Value} {φ : Nat → Prop} (m : Nat) (h : Own w' t x cs φ) :
    ∃ Es : List Ent, ups Es = (thaw t x m).2 ∧ NewEnts m (thaw t x m).2.length φ Es ∧ Holds P w' S' Es ∧ ∀ C' loc', C'.w = w' → (∀ e ∈ Es, lget loc' e.b = some e.lb ∧ C'.ρ e.b = e.v) → RCs P C' loc' (thaw t x m).1 cs := by
  obtain ⟨Es, h1, h2, h3, h4, h5, h6⟩ := thaw_ok (P := P) (S' := S') m h
  refine ⟨Es, h1, ⟨?_, fun e he => ?_, fun e he d' ep' e' t' ys' hh => ?_, fun e he => (h3 e he).2, h4⟩, h5, h6⟩
  · rw [h2]
    exact List.pairwise_map.2 (List.Pairwise.imp (fun {x y} h => by omega) List.nodup_range)
  · have : e.b ∈ Es.map (·.b) := List.mem_map.2 ⟨e, he, rfl⟩
    rw [h2] at this
    obtain ⟨i, hi, hie⟩ := List.mem_map.1 this
    have := List.mem_range.1 hi
    omega
  · obtain ⟨⟨e1, t1, xs, hq⟩, _⟩ := h3 e he
    rw [hq] at hh
    injection hh with _ hh _ _ _
    exact hh.symm
/-- A call's results as local blocks. -/
theorem resUpd_ok {w' : World} {S' SS : Nat → Prop} : ∀ {rs : List RK} {r : rdens rs} {m : Nat} {cs : List (Bool × List CV)} {u : Loc} {us : List Value} {φ : Nat → Prop}, resUpd rs r m = some (cs, u) → ResOk S' w' rs r us φ → (hasShr rs = false ∨ ∀ k, S' k → SS k) →
    ∃ Es, ups Es = u ∧ NewEnts m u.length φ Es ∧ Holds P w' SS Es ∧ cs.length = us.length ∧ ∀ C' loc', C'.w = w' → (∀ k, SS k → C'.S k) → (∀ e ∈ Es, lget loc' e.b = some e.lb ∧ C'.ρ e.b = e.v) → ∀ (j : Nat) y v, cs[j]? = some y → us[j]? = some v → R1 P C' loc' y v
  | [], r, m, cs, u, us, φ, h, hr, hsh => by
    simp only [resUpd] at h
    injection h with h
    injection h with h1 h2
    subst h1; subst h2
    obtain rfl : us = [] := hr
    exact ⟨[], rfl, NewEnts.none, fun _ _ _ _ _ e he => by simp at he, rfl, fun C' loc' _ _ _ j y v hj => by simp at hj⟩
  | .own g t :: rs, r, m, cs, u, us, φ, h, hr, hsh => by
    simp only [resUpd] at h
    split at h
    · rename_i cs' u' h'
      injection h with h
      injection h with h1 h2
      subst h1; subst h2
      obtain ⟨v, vs', φ0, φ1, rfl, ⟨vc, q1, q2⟩, hr', s0, s1, sd⟩ := hr
      obtain ⟨E0, a1, a2, a3, a4⟩ := thaw_new (P := P) (S' := SS) m q2
      obtain ⟨E1, b1, b2, b3, b4, b5⟩ := resUpd_ok h' hr' (hsh.imp (fun h => by simpa [hasShr] using h) id)
      refine ⟨E0 ++ E1, by rw [ups_append, a1, b1], by rw [List.length_append]; exact a2.both b2 s0 s1 sd, a3.both b3, by simp [b4], fun C' loc' hw hS hl j y v' hj hv => ?_⟩
      cases j with
      | zero =>
        simp only [List.getElem?_cons_zero, Option.some.injEq] at hj hv
        subst hj; subst hv
        exact ⟨vc, a4 C' loc' hw (fun e he => hl e (List.mem_append.2 (.inl he))), q1⟩
      | succ j => exact b5 C' loc' hw hS (fun e he => hl e (List.mem_append.2 (.inr he))) j y v' (by simpa using hj) (by simpa using hv)
    · cases h
  | .shr g t :: rs, r, m, cs, u, us, φ, h, hr, hsh => by
    simp only [resUpd] at h
    split at h
    · rename_i cs' u' h'
      injection h with h
      injection h with h1 h2
      subst h1; subst h2
      obtain ⟨v, vs', φ0, φ1, rfl, ⟨vc, q1, q2⟩, hr', s0, s1, sd⟩ := hr
      have hS' : ∀ k, S' k → SS k := hsh.resolve_left (by simp [hasShr])
      obtain ⟨E1, b1, b2, b3, b4, b5⟩ := resUpd_ok h' hr' (.inr hS')
      refine ⟨E1, b1, ⟨b2.nodup, b2.names, b2.live, fun e he k hk => s1 k (b2.φ e he k hk), b2.disj⟩, b3, by simp [b4], fun C' loc' hw hS hl j y v' hj hv => ?_⟩
      cases j with
      | zero =>
        simp only [List.getElem?_cons_zero, Option.some.injEq] at hj hv
        subst hj; subst hv
        exact ⟨vc, flat_ok (by rw [hw]; exact Rd.mono (fun k hk => hS k (hS' k hk)) (fun _ _ => rfl) q2), q1⟩
      | succ j => exact b5 C' loc' hw hS hl j y v' (by simpa using hj) (by simpa using hv)
    · cases h
  | .ptr E d t :: rs, r, m, cs, u, us, φ, h, hr, hsh => by
    obtain ⟨v, vs', φ0, φ1, rfl, ⟨g, vc, φ2, rfl, q1, q2, q3, q4⟩, hr', s0, s1, sd⟩ := hr
    simp only [resUpd] at h
    cases d with
    | true =>
      simp only [if_true] at h
      split at h
      · rename_i cs' u' h'
        injection h with h
        injection h with h1 h2
        subst h1; subst h2
        have q3 : Own w' t r.1 vc φ2 := q3
        obtain ⟨E0, a1, a2, a3, a4⟩ := thaw_new (P := P) (S' := SS) (m + 1) q3
        obtain ⟨E1, b1, b2, b3, b4, b5⟩ := resUpd_ok h' hr' (hsh.imp (fun h => by simpa [hasShr] using h) id)
        have a2' : NewEnts m (1 + (thaw t r.1 (m + 1)).2.length) φ0 (⟨m, .cells E (thaw t r.1 (m + 1)).1, .pointer (some ⟨g, 0, none⟩), fun k => k = g⟩ :: E0) := by
          refine ⟨?_, fun e he => ?_, fun e he => ?_, fun e he k hk => ?_, ?_⟩
          · rw [List.map_cons]
            refine List.nodup_cons.2 ⟨fun hm => ?_, a2.nodup⟩
            obtain ⟨e, he, heb⟩ := List.mem_map.1 hm
            have := a2.names e he
            have heb : e.b = m := heb
            omega
          · rcases List.mem_cons.1 he with rfl | he
            · exact ⟨Nat.le_refl _, by show m < _; omega⟩
            · have := a2.names e he; omega
          · rcases List.mem_cons.1 he with rfl | he
            · intro d' ep' e' t' ys' hh; cases hh
            · exact a2.live e he
          · rcases List.mem_cons.1 he with rfl | he
            · have hk : k = g := hk
              rw [hk]; exact q2
            · exact (q4 k (a2.φ e he k hk)).1
          · refine List.pairwise_cons.2 ⟨fun e he k hk hk' => ?_, a2.disj⟩
            have hk : k = g := hk
            exact (q4 k (a2.φ e he k hk')).2 hk
        have hH : Holds P w' SS (⟨m, .cells E (thaw t r.1 (m + 1)).1, .pointer (some ⟨g, 0, none⟩), fun k => k = g⟩ :: E0) := fun C' loc' hw hS hl e he => by
          rcases List.mem_cons.1 he with rfl | he'
          · exact ⟨g, vc, rfl, by rw [hw]; exact q1, rfl, a4 C' loc' hw (fun e he => hl e (List.mem_cons_of_mem _ he))⟩
          · exact a3 C' loc' hw hS (fun e he => hl e (List.mem_cons_of_mem _ he)) e he'
        refine ⟨(⟨m, .cells E (thaw t r.1 (m + 1)).1, .pointer (some ⟨g, 0, none⟩), fun k => k = g⟩ :: E0) ++ E1, by rw [ups_append, b1]; simp only [ups, List.map_cons] at a1 ⊢; rw [a1]; rfl, ?_, hH.both b3, by simp [b4], fun C' loc' hw hS hl j y v' hj hv => ?_⟩
        · rw [show ((m, LB.cells E (thaw t r.1 (m + 1)).1) :: ((thaw t r.1 (m + 1)).2 ++ u')).length = (1 + (thaw t r.1 (m + 1)).2.length) + u'.length by simp; omega]
          exact a2'.both (by rw [← Nat.add_assoc]; exact b2) s0 s1 sd
        · cases j with
          | zero =>
            simp only [List.getElem?_cons_zero, Option.some.injEq] at hj hv
            subst hj; subst hv
            obtain ⟨k1, k2⟩ := hl _ (List.mem_append.2 (.inl (List.mem_cons_self ..)))
            exact ⟨[_], RCs_one ⟨_, k1, ⟨_, rfl⟩, fun _ => ⟨g, k2, rfl⟩⟩, rfl⟩
          | succ j => exact b5 C' loc' hw hS (fun e he => hl e (List.mem_append.2 (.inr he))) j y v' (by simpa using hj) (by simpa using hv)
      · cases h
    | false =>
      simp only [Bool.false_eq_true, if_false] at h
      split at h
      · rename_i cs' u' h'
        injection h with h
        injection h with h1 h2
        subst h1; subst h2
        have q3 : Rd S' w' t r.1 vc := q3
        have hrd : Rd SS w' t r.1 vc := by
          rcases hsh with hsh | hsh
          · simp only [hasShr, Bool.or_eq_false_iff, Bool.not_eq_false'] at hsh
            exact Rd.flat hsh.1 q3
          · exact Rd.mono hsh (fun _ _ => rfl) q3
        obtain ⟨E1, b1, b2, b3, b4, b5⟩ := resUpd_ok h' hr' (hsh.imp (fun h => by simp only [hasShr, Bool.or_eq_false_iff] at h; exact h.2) id)
        have a2' : NewEnts m 1 φ0 [⟨m, .cells E (flat t r.1), .pointer (some ⟨g, 0, none⟩), fun k => k = g⟩] := by
          refine ⟨by simp, fun e he => ?_, fun e he => ?_, fun e he k hk => ?_, by simp⟩
          · simp only [List.mem_singleton] at he
            subst he
            exact ⟨Nat.le_refl _, Nat.lt_succ_self _⟩
          · simp only [List.mem_singleton] at he
            subst he
            intro d' ep' e' t' ys' hh; cases hh
          · simp only [List.mem_singleton] at he
            subst he
            have hk : k = g := hk
            rw [hk]; exact q2
        have hH : Holds P w' SS [⟨m, .cells E (flat t r.1), .pointer (some ⟨g, 0, none⟩), fun k => k = g⟩] := fun C' loc' hw hS hl e he => by
          simp only [List.mem_singleton] at he
          subst he
          exact ⟨g, vc, rfl, by rw [hw]; exact q1, rfl, flat_ok (by rw [hw]; exact Rd.mono hS (fun _ _ => rfl) hrd)⟩
        refine ⟨[⟨m, .cells E (flat t r.1), .pointer (some ⟨g, 0, none⟩), fun k => k = g⟩] ++ E1, by rw [ups_append, b1]; rfl, ?_, hH.both b3, by simp [b4], fun C' loc' hw hS hl j y v' hj hv => ?_⟩
        · rw [show ((m, LB.cells E (flat t r.1)) :: u').length = 1 + u'.length by simp; omega]
          exact a2'.both b2 s0 s1 sd
        · cases j with
          | zero =>
            simp only [List.getElem?_cons_zero, Option.some.injEq] at hj hv
            subst hj; subst hv
            obtain ⟨k1, k2⟩ := hl _ (List.mem_append.2 (.inl (List.mem_singleton.2 rfl)))
            exact ⟨[_], RCs_one ⟨_, k1, ⟨_, rfl⟩, fun _ => ⟨g, k2, rfl⟩⟩, rfl⟩
          | succ j => exact b5 C' loc' hw hS (fun e he => hl e (List.mem_append.2 (.inr he))) j y v' (by simpa using hj) (by simpa using hv)
      · cases h
  | .arr _ _ :: rs, r, m, cs, u, us, φ, h, hr, hsh => by simp [resUpd] at h
theorem packRes_ok {loc : Loc} {l : List (Bool × List CV)} {tv : TV} (h : packRes l = some tv) {us : List Value} (hl : l.length = us.length) (hr : ∀ (j : Nat) y u, l[j]? = some y → us[j]? = some u → R1 P C loc y u) {e : Ending} (he : Ret us e) : ∃ v, e = .returned v ∧ RV P C loc tv v := by
  unfold packRes at h
  split at h
  · rename_i g cs
    match us, hl with
    | [u], _ =>
      obtain ⟨vs, hvs, hp⟩ := hr 0 (g, cs) u rfl rfl
      obtain ⟨v, hv, hrv⟩ := tvOf_ok h hvs
      have huv : v = u := Pack_inj hv hp
      rcases he with ⟨v', h1, h2⟩ | ⟨h1, _⟩
      · injection h1 with h1 _
        subst h1
        exact ⟨u, h2, huv ▸ hrv⟩
      · exact absurd rfl h1
  · rename_i hne
    injection h with h
    subst h
    rcases he with ⟨v', h1, h2⟩ | ⟨h1, h2⟩
    · subst h1
      match l, hl with
      | [(g, cs)], _ => exact absurd rfl (hne g cs)
    · exact ⟨_, h2, us, rfl, hl, hr⟩
theorem resTV_ok {w' : World} {S' SS : Nat → Prop} {rs : List RK} {r : rdens rs} {m : Nat} {tv : TV} {u : Loc} {us : List Value} {φ : Nat → Prop} (h : resTV rs r m = some (tv, u)) (hr : ResOk S' w' rs r us φ) (hsh : hasShr rs = false ∨ ∀ k, S' k → SS k) {e : Ending} (he : Ret us e) :
    ∃ Es v, ups Es = u ∧ NewEnts m u.length φ Es ∧ Holds P w' SS Es ∧ e = .returned v ∧ ∀ C' loc', C'.w = w' → (∀ k, SS k → C'.S k) → (∀ e ∈ Es, lget loc' e.b = some e.lb ∧ C'.ρ e.b = e.v) → RV P C' loc' tv v := by
  unfold resTV at h
  split at h
  · rename_i k n r0
    injection h with h
    injection h with h1 h2
    subst h1; subst h2
    obtain ⟨v, vs', φ0, φ1, rfl, ⟨q1, rfl⟩, hr', _⟩ := hr
    obtain rfl : vs' = [] := hr'
    rcases he with ⟨v', h1, h2⟩ | ⟨h1, _⟩
    · injection h1 with h1 _
      subst h1
      exact ⟨[], _, rfl, NewEnts.none, fun _ _ _ _ _ e he => by simp at he, h2, fun C' loc' _ _ _ => ⟨q1, rfl⟩⟩
    · exact absurd rfl h1
  · split at h
    · rename_i cs u' h'
      split at h
      · rename_i v hv
        injection h with h
        injection h with h1 h2
        subst h1; subst h2
        obtain ⟨Es, a1, a2, a3, a4, a5⟩ := resUpd_ok (P := P) (SS := SS) h' hr hsh
        have hex : ∃ v0, e = .returned v0 := by
          rcases he with ⟨v0, _, h2⟩ | ⟨_, h2⟩ <;> exact ⟨_, h2⟩
        obtain ⟨v0, rfl⟩ := hex
        refine ⟨Es, v0, a1, a2, a3, rfl, fun C' loc' hw hS hl => ?_⟩
        obtain ⟨v1, e1, hrv⟩ := packRes_ok (C := C') hv a4 (a5 C' loc' hw hS hl) he
        injection e1 with e1
        subst e1
        exact hrv
      · cases h
    · cases h
theorem outs_flat {S' S'' : Nat → Prop} {w' : World} : ∀ {ps : List PK} {vs : List Value} {o : outs ps} {φ : Nat → Prop}, refShr ps = false → OutsOk S' w' ps vs o φ → OutsOk S'' w' ps vs o φ
  | [], vs, o, φ, h, ho => trivial
  | .mu g t :: ps, vs, o, φ, h, ho => by
    obtain ⟨v, vs', φ0, φ1, e, h1, h2, h3⟩ := ho
    exact ⟨v, vs', φ0, φ1, e, h1, outs_flat (by simpa [refShr] using h) h2, h3⟩
  | .ref E d t :: ps, vs, o, φ, h, ho => by
    obtain ⟨v, vs', φ0, φ1, e, ⟨g, cs, φ2, k1, k2, k3, k4, k5⟩, h2, h3⟩ := ho
    cases d with
    | true => exact ⟨v, vs', φ0, φ1, e, ⟨g, cs, φ2, k1, k2, k3, k4, k5⟩, outs_flat (by simpa [refShr] using h) h2, h3⟩
    | false =>
      simp only [refShr, Bool.or_eq_false_iff, Bool.not_eq_false'] at h
      have k4 : Rd S' w' t o.1 cs := k4
      exact ⟨v, vs', φ0, φ1, e, ⟨g, cs, φ2, k1, k2, k3, Rd.flat h.1 k4, k5⟩, outs_flat h.2 h2, h3⟩
  | .val _ _ :: ps, vs, o, φ, h, ho => by obtain ⟨v, vs', e, h2⟩ := ho; exact ⟨v, vs', e, outs_flat (by simpa [refShr] using h) h2⟩
  | .mv _ _ :: ps, vs, o, φ, h, ho => by obtain ⟨v, vs', e, h2⟩ := ho; exact ⟨v, vs', e, outs_flat (by simpa [refShr] using h) h2⟩
  | .rdp _ _ :: ps, vs, o, φ, h, ho => by obtain ⟨v, vs', e, h2⟩ := ho; exact ⟨v, vs', e, outs_flat (by simpa [refShr] using h) h2⟩
  | .fn _ _ :: ps, vs, o, φ, h, ho => by obtain ⟨v, vs', e, h2⟩ := ho; exact ⟨v, vs', e, outs_flat (by simpa [refShr] using h) h2⟩
  | .arr _ _ :: ps, vs, o, φ, h, ho => by obtain ⟨v, vs', e, h2⟩ := ho; exact ⟨v, vs', e, outs_flat (by simpa [refShr] using h) h2⟩
theorem outs_mono {S' S'' : Nat → Prop} (hS : ∀ k, S' k → S'' k) {w' : World} : ∀ {ps : List PK} {vs : List Value} {o : outs ps} {φ : Nat → Prop}, OutsOk S' w' ps vs o φ → OutsOk S'' w' ps vs o φ
  | [], vs, o, φ, ho => trivial
  | .mu g t :: ps, vs, o, φ, ho => by
    obtain ⟨v, vs', φ0, φ1, e, h1, h2, h3⟩ := ho
    exact ⟨v, vs', φ0, φ1, e, h1, outs_mono hS h2, h3⟩
  | .ref E d t :: ps, vs, o, φ, ho => by
    obtain ⟨v, vs', φ0, φ1, e, ⟨g, cs, φ2, k1, k2, k3, k4, k5⟩, h2, h3⟩ := ho
    cases d with
    | true => exact ⟨v, vs', φ0, φ1, e, ⟨g, cs, φ2, k1, k2, k3, k4, k5⟩, outs_mono hS h2, h3⟩
    | false =>
      have k4 : Rd S' w' t o.1 cs := k4
      exact ⟨v, vs', φ0, φ1, e, ⟨g, cs, φ2, k1, k2, k3, Rd.mono hS (fun _ _ => rfl) k4, k5⟩, outs_mono hS h2, h3⟩
  | .val _ _ :: ps, vs, o, φ, ho => by obtain ⟨v, vs', e, h2⟩ := ho; exact ⟨v, vs', e, outs_mono hS h2⟩
  | .mv _ _ :: ps, vs, o, φ, ho => by obtain ⟨v, vs', e, h2⟩ := ho; exact ⟨v, vs', e, outs_mono hS h2⟩
  | .rdp _ _ :: ps, vs, o, φ, ho => by obtain ⟨v, vs', e, h2⟩ := ho; exact ⟨v, vs', e, outs_mono hS h2⟩
  | .fn _ _ :: ps, vs, o, φ, ho => by obtain ⟨v, vs', e, h2⟩ := ho; exact ⟨v, vs', e, outs_mono hS h2⟩
  | .arr _ _ :: ps, vs, o, φ, ho => by obtain ⟨v, vs', e, h2⟩ := ho; exact ⟨v, vs', e, outs_mono hS h2⟩
theorem pair_mem {α : Type} {R : α → α → Prop} (hs : ∀ x y, R x y → R y x) {f : α → Nat} : ∀ {l : List α}, l.Pairwise R → ∀ x ∈ l, ∀ y ∈ l, f x ≠ f y → R x y
  | [], _, x, hx, _, _, _ => by cases hx
  | z :: l, h, x, hx, y, hy, hne => by
    obtain ⟨h1, h2⟩ := List.pairwise_cons.1 h
    rcases List.mem_cons.1 hx with hx' | hx' <;> rcases List.mem_cons.1 hy with hy' | hy'
    · exact absurd (by rw [hx', hy']) hne
    · rw [hx']; exact h1 y hy'
    · rw [hy']; exact hs _ _ (h1 x hx')
    · exact pair_mem hs h2 x hx' y hy' hne
theorem eget_nodup : ∀ {E : List Ent}, (E.map (·.b)).Nodup → ∀ e ∈ E, eget E e.b = some e
  | [], _, e, he => by cases he
  | e0 :: E, h, e, he => by
    rw [List.map_cons] at h
    obtain ⟨h1, h2⟩ := List.nodup_cons.1 h
    rcases List.mem_cons.1 he with rfl | he
    · exact eget_self
    · simp only [eget]
      rw [if_neg (fun hb => h1 (List.mem_map.2 ⟨e, he, hb.symm⟩))]
      exact eget_nodup h2 e he
theorem run_call_value {c : Call} {f : Operand} (hop : o.op = .call c) (hc : c.callee = .value f) {g : Nat} {fs cap : Array Value} (hf : a.eval f = .func (.func g) fs cap) (hs : ∀ args w, (callFunc g args).run P w = .ok (.enter g args) w) (w : World) :
    (execOp a.eval o).run P w = .ok (.enter g (fs ++ c.args.map a.eval ++ cap)) w := by
  unfold execOp
  simp only [hop, resolve, hc, Deferred.ofValue, hf, Sem.run_bind, Sem.run_pure, Result.andThen_ok, invoke]
  have := hs (fs ++ c.args.map a.eval ++ cap) w
  simpa using this
theorem liveId_ok (hs : Sees T L st) {b : Nat} (h : liveId L b = true) : Lives st.loc b := by
  unfold liveId at h
  split at h
  · rename_i hb
    exact ⟨_, hs.L _ _ hb, rfl⟩
  · rename_i hb
    exact ⟨_, hs.L _ _ hb, rfl⟩
  · cases h
set_option maxHeartbeats 1000000 in
theorem evCall_ok {R : Type} {K : Eff → Option R} {r0 : R} (hΓ : ∀ g s, Γ g = some s → FnOk P g s) (hR : Rel P M wE C st a) (hs : Sees T L st) {c : Call} {fO : Operand} (hop : o.op = .call c) (hcal : c.callee = .value fO) {fc : CV} {tvs : List TV} {d : Nat} (hfr : ∀ j, j < 64 → lget st.loc (64 * d + j) = none)
    (hf : evO T fO = some (.c fc)) (hvs : evOs T c.args.toList = some tvs) (h : evCall Γ T L d fc tvs K = some r0) : ∃ eff, K eff = some r0 ∧ Does P M wE C st a o eff := by
  obtain ⟨hl, hv⟩ := evOs_ok hR hs hvs
  have hfv := evO_ok hR hs hf
  have hI := hR.inv
  have hargs : (c.args.toList.map a.eval).toArray = c.args.map a.eval := by
    rw [← Array.toList_map, Array.toArray_toList]
  unfold evCall at h
  split at h
  · rename_i g
    split at h
    · rename_i s hg
      split at h
      · rename_i hcall
        split at h
        · rename_i xs hxs
          obtain ⟨⟨o0, rr⟩, hF, h⟩ := Option.bind_eq_some_iff.1 h
          simp only at h
          split at h
          · rename_i u m hu
            split at h
            · rename_i tv u' htv
              split at h
              · rename_i hroom
                refine ⟨_, h, ?_⟩
                -- names
                unfold callOk at hcall
                split at hcall
                · rename_i ids hids
                  simp only [Bool.and_eq_true, decide_eq_true_eq, List.all_eq_true, Bool.not_eq_true', decide_eq_false_iff_not] at hcall
                  obtain ⟨⟨⟨hnd, hlive⟩, hrd⟩, hshr⟩ := hcall
                  have hlv : ∀ b ∈ ids, Lives st.loc b := fun b hb => liveId_ok hs (hlive b hb)
                  have hout : ∀ b, Lives st.loc b → b < 64 * d ∨ 64 * d + 64 ≤ b := fun b ⟨lb, h1, _⟩ => by
                    by_cases hq : 64 * d ≤ b ∧ b < 64 * d + 64
                    · have := hfr (b - 64 * d) (by omega)
                      rw [show 64 * d + (b - 64 * d) = b by omega, h1] at this
                      cases this
                    · omega
                  -- what is read
                  have hSh : ∃ sh : Bool, sh = (hasShr s.rs || refShr s.ps) := ⟨_, rfl⟩
                  obtain ⟨sh, hshd⟩ := hSh
                  rw [← hshd] at hshr
                  have idlt : ∀ k', ofIds C st.loc ids k' → k' < C.w.heap.size ∧ ¬ C.S k' := fun k' ⟨b, _, ⟨lb, r1, r2⟩, hk⟩ => ⟨(hI.own b lb r1 r2 k' hk).1, (hI.own b lb r1 r2 k' hk).2.1⟩
                  have hSS : ∀ k, RdS C st.loc (reads L s.ps tvs) k → (C.S k ∨ (sh = false ∧ k < C.w.heap.size ∧ ¬ ofIds C st.loc ids k)) := fun k hk => by
                    rcases hk with hk | ⟨b, hb, ⟨lb, r1, r2⟩, hk⟩
                    · exact .inl hk
                    · cases hsh : sh with
                      | true =>
                        rw [hsh] at hshr
                        simp only [if_true, List.isEmpty_iff] at hshr
                        rw [hshr] at hb
                        cases hb
                      | false =>
                        refine .inr ⟨rfl, (hI.own b lb r1 r2 k hk).1, fun ⟨b', hb', ⟨lb', r1', r2'⟩, hk'⟩ => ?_⟩
                        have hne : b ≠ b' := fun he => by
                          have := hrd b hb
                          exact this (he ▸ hb')
                        exact hI.disj b b' lb lb' hne r1 r1' r2 r2' k hk hk'
                  obtain ⟨φp, hA, hφp, hpost⟩ := args_ok hΓ hI hs (S := fun k => C.S k ∨ (sh = false ∧ k < C.w.heap.size ∧ ¬ ofIds C st.loc ids k)) hSS (lo := 64 * d) (hi := 64 * d + 64) hxs hids hu hnd (fun b hb => hb) (fun b hb => hout b (hlv b hb)) (Nat.le_refl _) (by omega) hl hv
                  have hfn := hΓ g s hg
                  have hcalls := hfn.calls xs o0 rr hF C.w _ φp _ (fun k hk => ?_) (fun k hk => (idlt k (hφp k hk)).1) hA
                  rotate_left
                  · rcases hk with hk | ⟨_, hk1, hk2⟩
                    · exact ⟨hI.S_lt k hk, fun hq => (idlt k (hφp k hq)).2 hk⟩
                    · exact ⟨hk1, fun hq => hk2 (hφp k hq)⟩
                  intro next Q hnext
                  unfold Oper.wp
                  rw [run_call_value hop hcal (show a.eval fO = .func (.func g) #[] #[] from hfv) hfn.enter]
                  rw [hargs] at hcalls
                  simp only [Array.empty_append, Array.append_empty]
                  refine hcalls.mono fun e w' hp => ?_
                  obtain ⟨us, φo, φr, S', p1, p2, p3, p4, p5, p6, p7, p8⟩ := hp
                  -- what stays from now on
                  have hSn : ∃ SS : Nat → Prop, (∀ k, C.S k → SS k) ∧ (∀ k, SS k → C.S k ∨ (k < w'.heap.size ∧ (C.w.heap.size ≤ k ∨ φp k))) ∧ (∀ k, SS k → S' k) ∧ (sh = false ∨ ∀ k, S' k → SS k) := by
                    cases hsh : sh with
                    | true =>
                      refine ⟨S', fun k hk => p7 k (.inl hk), fun k hk => ?_, fun _ h => h, .inr fun _ h => h⟩
                      rcases p8 k hk with h | h
                      · rcases h with h | ⟨h, _⟩
                        · exact .inl h
                        · rw [hsh] at h; cases h
                      · exact .inr h
                    | false => exact ⟨C.S, fun _ h => h, fun _ h => .inl h, fun k hk => p7 k (.inl hk), .inl rfl⟩
                  obtain ⟨SS, ss1, ss2, ss3, ss4⟩ := hSn
                  have hou : OutsOk SS w' s.ps (c.args.toList.map a.eval) o0 φo := by
                    rcases ss4 with h | h
                    · rw [hshd] at h
                      simp only [Bool.or_eq_false_iff] at h
                      exact outs_flat h.2 p1
                    · exact outs_mono h p1
                  have hkeep : ∀ k, ofIds C st.loc ids k → ¬ φp k → w'.heap[k]? = C.w.heap[k]? := fun k h1 h2 => p4.kept k (idlt k h1).1 h2
                  obtain ⟨Eo, eo1, eo2, eo3⟩ := hpost w' SS φo φp hou (fun _ h => h) (fun _ _ h => h) hkeep (fun k hk => (p5 k (.inl hk)).2.2)
                  obtain ⟨Er, v, er1, er2, er3, rfl, er4⟩ := resTV_ok (P := P) (SS := SS) htv p2 (ss4.imp (fun h => by rw [hshd] at h; simp only [Bool.or_eq_false_iff] at h; exact h.1) id) p3
                  have hmm := outUpd_le hu
                  -- all names once
                  have hnod : ((Eo ++ Er).map (·.b)).Nodup := by
                    rw [List.map_append]
                    refine List.nodup_append.2 ⟨eo2.nodup, er2.nodup, fun b hb b' hb' => ?_⟩
                    obtain ⟨e1, he1, rfl⟩ := List.mem_map.1 hb
                    obtain ⟨e2, he2, rfl⟩ := List.mem_map.1 hb'
                    have h2 := er2.names e2 he2
                    rcases eo2.names e1 he1 with ⟨q, _⟩ | q
                    · have := hout _ (hlv _ q); omega
                    · omega
                  have hcov : ∀ k, φp k → ∃ e ∈ Eo ++ Er, Lives st.loc e.b ∧ C.φ e.b k := fun k hk => by
                    obtain ⟨b, hb, hbl, hq⟩ := hφp k hk
                    obtain ⟨e, he, rfl⟩ := List.mem_map.1 (eo2.cover b hb)
                    exact ⟨e, List.mem_append.2 (.inl he), hbl, hq⟩
                  have hnew : ∀ e ∈ Er, lget st.loc e.b = none := fun e he => by
                    have := er2.names e he
                    have h2 := hfr (e.b - 64 * d) (by omega)
                    rwa [show 64 * d + (e.b - 64 * d) = e.b by omega] at h2
                  have hnewo : ∀ e ∈ Eo, (64 * d ≤ e.b ∧ e.b < m) → lget st.loc e.b = none := fun e he hq => by
                    have h2 := hfr (e.b - 64 * d) (by omega)
                    rwa [show 64 * d + (e.b - 64 * d) = e.b by omega] at h2
                  have hEO : EntsOk C st.loc w' SS (Eo ++ Er) := by
                    refine ⟨p4.size, p4.os, p4.tape, p4.output, fun k hk hn => p4.kept k hk (fun hq => ?_), ss1, fun k hk => ?_, fun e he ha k hk => ?_, fun e he e' he' hne ha ha' => ?_, fun e he lb hlb => ?_, fun e he ha => ?_⟩
                    · obtain ⟨e, he, h1, h2⟩ := hcov k hq
                      exact hn e he h1 h2
                    · rcases ss2 k hk with h | ⟨h1, h2⟩
                      · exact .inl h
                      · exact .inr ⟨h1, h2.imp id (hcov k)⟩
                    · have fromo : φo k ∨ φr k → k < w'.heap.size ∧ ¬ SS k ∧ (C.w.heap.size ≤ k ∨ ∃ e0 ∈ Eo ++ Er, Lives st.loc e0.b ∧ C.φ e0.b k) := fun hq => by
                        obtain ⟨h1, h2, h3⟩ := p5 k hq
                        exact ⟨h1, fun hss => h2 (ss3 k hss), h3.imp id (hcov k)⟩
                      rcases List.mem_append.1 he with he' | he'
                      · rcases eo2.φ e he' ha k hk with ⟨q1, q2, q3, q4⟩ | q
                        · obtain ⟨lb0, r1, r2⟩ := q2
                          obtain ⟨w1, w2, _⟩ := hI.own e.b lb0 r1 r2 k q3
                          refine ⟨Nat.lt_of_lt_of_le w1 p4.size, fun hss => ?_, .inr ⟨e, he, ⟨lb0, r1, r2⟩, q3⟩⟩
                          rcases ss2 k hss with h | ⟨_, h | h⟩
                          · exact w2 h
                          · omega
                          · exact q4 h
                        · exact fromo (.inl q)
                      · exact fromo (.inr (er2.φ e he' k hk))
                    · have hpw : (Eo ++ Er).Pairwise (fun e e' => e.lb.alive = true → e'.lb.alive = true → ∀ k, e.φ k → ¬ e'.φ k) := by
                        refine List.pairwise_append.2 ⟨eo2.disj, er2.disj.imp (fun h _ _ => h), fun e1 h1 e2 h2 ha1 ha2 k hk1 hk2 => ?_⟩
                        have hr2 := er2.φ e2 h2 k hk2
                        rcases eo2.φ e1 h1 ha1 k hk1 with ⟨q1, ⟨lb0, r1, r2⟩, q3, q4⟩ | q
                        · rcases (p5 k (.inr hr2)).2.2 with h | h
                          · have := (hI.own e1.b lb0 r1 r2 k q3).1; omega
                          · exact q4 h
                        · exact p6 k q hr2
                      exact pair_mem (R := fun e e' => e.lb.alive = true → e'.lb.alive = true → ∀ k, e.φ k → ¬ e'.φ k) (fun x y h a1 a2 k k1 k2 => h a2 a1 k k2 k1) (f := fun e => e.b) hpw e he e' he' hne ha ha'
                    · rcases List.mem_append.1 he with he' | he'
                      · rcases eo2.names e he' with ⟨_, q2, _⟩ | q
                        · exact q2
                        · rw [hnewo e he' q] at hlb
                          cases hlb
                      · rw [hnew e he'] at hlb
                        cases hlb
                    · rcases List.mem_append.1 he with he' | he'
                      · rcases eo2.names e he' with ⟨_, _, q3⟩ | q
                        · obtain ⟨lb0, w1, w2, w3⟩ := q3 ha
                          exact .inr ⟨lb0, w1, w2, w3⟩
                        · exact .inl (hnewo e he' q)
                      · exact .inl (hnew e he')
                  have hlk : ∀ e ∈ Eo ++ Er, lget (ups (Eo ++ Er) ++ st.loc) e.b = some e.lb ∧ (C.ents w' SS (Eo ++ Er)).ρ e.b = e.v := fun e he => by
                    have hg := eget_nodup hnod e he
                    exact ⟨lget_upd_in (by rw [lget_ups, hg]; rfl), (ents_at hg).1⟩
                  have hH := eo3.both er3
                  have hRel := hR.ents (tv := tv) (d := o.dst) (v := v) hEO (fun e he _ => hH (C.ents w' SS (Eo ++ Er)) _ rfl (fun _ h => h) hlk e he) (er4 _ _ rfl (fun _ h => h) (fun e he => hlk e (List.mem_append.2 (.inr he))))
                  have huu : ups (Eo ++ Er) = u ++ u' := by rw [ups_append, eo1, er1]
                  rw [huu] at hRel
                  have hx := hEO.ext hI
                  rw [huu] at hx
                  exact hnext _ _ hx hRel
                · cases hcall
              · cases h
            · cases h
          · cases h
        · cases h
      · cases h
    · cases h
  · -- a function value that came in
    rename_i ps rs G
    split at h
    · rename_i xs hxs
      obtain ⟨rr, hG, h⟩ := Option.bind_eq_some_iff.1 h
      split at h
      · rename_i tv htv
        refine ⟨_, h, ?_⟩
        obtain ⟨g, fs, cap, hfe, hent, hcalls⟩ := hfv
        have vok : ∀ {ps : List VK} {tvs : List TV} {xs : vdens ps} {vals : List Value}, vargs L ps tvs = some xs → tvs.length = vals.length → (∀ (j : Nat) (tv : TV) (v : Value), tvs[j]? = some tv → vals[j]? = some v → RV P C st.loc tv v) → VVals (fun _ => True) C.w ps xs vals := by
          intro ps
          induction ps with
          | nil =>
            intro tvs xs vals h hl hv
            cases tvs with
            | nil => exact List.length_eq_zero_iff.1 hl.symm
            | cons _ _ => simp [vargs] at h
          | cons p ps ih =>
            intro tvs xs vals h hl hv
            cases tvs with
            | nil => simp [vargs] at h
            | cons tv tvs =>
              simp only [vargs] at h
              split at h
              · rename_i x r hx hr
                injection h with h
                subst h
                match vals, hl with
                | v :: vals, hl =>
                  obtain ⟨cs, us, q1, q2, q3, q4, q5⟩ := argRd_ok hI hs hx (hv 0 tv v rfl rfl) (ids := match tvCells p.1 tv with | some cs => idsOf cs | none => []) (fun cs hcs b hb => by rw [hcs]; exact hb)
                  exact ⟨v, vals, us, rfl, q3, Rd.mono (fun _ _ => trivial) (fun _ _ => rfl) q5, ih hr (by simpa using hl) (fun j tv v hj hv' => hv (j + 1) tv v (by simpa using hj) (by simpa using hv'))⟩
              · cases h
        have hva := vok hxs hl hv
        have hcc := hcalls xs rr hG C.w (Nat.le_refl _) (fun _ _ => rfl) _ _ hva
        intro next Q hnext
        unfold Oper.wp
        rw [run_call_value hop hcal hfe hent]
        rw [hargs] at hcc
        refine hcc.mono fun e w' ⟨us, hvv, hret, hb⟩ => ?_
        have hEO : EntsOk C st.loc w' C.S [] := ⟨hb.size, hb.os, hb.tape, hb.output, fun k hk _ => hb.block k hk, fun _ h => h, fun _ h => .inl h, (fun e he => by cases he), (fun e he => by cases he), (fun e he => by cases he), (fun e he => by cases he)⟩
        have hcells : ∀ {rs : List VK} {r : vdens rs} {us : List Value}, VVals (fun _ => False) w' rs r us → (vres rs r).length = us.length ∧ ∀ (j : Nat) y v, (vres rs r)[j]? = some y → us[j]? = some v → R1 P (C.ents w' C.S []) (ups [] ++ st.loc) y v := by
          intro rs
          induction rs with
          | nil =>
            intro r us h
            obtain rfl : us = [] := h
            exact ⟨rfl, fun j y v hj => by simp [vres] at hj⟩
          | cons p rs ih =>
            intro r us h
            obtain ⟨v, vs', cs, rfl, h1, h2, h3⟩ := h
            obtain ⟨k1, k2⟩ := ih h3
            refine ⟨by simp [vres, k1], fun j y v' hj hv => ?_⟩
            cases j with
            | zero =>
              simp only [vres, List.getElem?_cons_zero, Option.some.injEq] at hj hv
              subst hj; subst hv
              exact ⟨cs, flat_ok (C := C.ents w' C.S []) (Rd.mono (fun _ h => h.elim) (fun _ _ => rfl) h2), h1⟩
            | succ j => exact k2 j y v' (by simpa [vres] using hj) (by simpa using hv)
        obtain ⟨k1, k2⟩ := hcells hvv
        obtain ⟨v, rfl, hrv⟩ := packRes_ok (C := C.ents w' C.S []) htv k1 k2 hret
        have hRel := hR.ents (tv := tv) (d := o.dst) (v := v) hEO (fun e he _ => by cases he) hrv
        exact hnext _ _ (hEO.ext hI) hRel
      · cases h
    · cases h
  · cases h
end
end Go.Proofs.Ytceffcfnjjlbkaa.E
