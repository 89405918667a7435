/- The evaluator, 27: a function's start and its end. -/
import Derived.Test.YtceffcfnjjlbkaaE26
namespace Go.Proofs.Ytceffcfnjjlbkaa.E
open Go.RowKit
set_option linter.unusedVariables false
set_option linter.unusedSimpArgs false
section
variable {P : Program} {Γ : Nat → Option Sig} {M : Nat → Prop} {wE : World} {C : Cx} {st : St} {a : Act} {w : World} {S : Nat → Prop}

/-! ### the start -/
/-- The cells of what is handed over to be changed: rows by their names, scalars as they are. -/
def MuCells (P : Program) (C0 : Cx) (cs : List CV) (vs : List Value) : Prop :=
  cs.length = vs.length ∧ ∀ (j : Nat) (c : CV) (v : Value), cs[j]? = some c → vs[j]? = some v → (∃ b, c = .own b ∧ v = C0.ρ b ∧ ∃ A n c', v = .slice A n c') ∨ ∀ C' loc', RC P C' loc' c v
def InOut (P : Program) (C0 : Cx) : (ps : List PK) → dens ps → Nat → List Value → Prop
  | [], _, _, _ => True
  | .mu g t :: ps, x, m, vs => ∃ v vs' cs, vs = v :: vs' ∧ Pack g cs v ∧ MuCells P C0 (thaw t x.1 m).1 cs ∧ InOut P C0 ps x.2 (m + (thaw t x.1 m).2.length) vs'
  | .ref T true t :: ps, x, m, vs => ∃ v vs', vs = v :: vs' ∧ C0.ρ m = v ∧ InOut P C0 ps x.2 (m + (1 + (thaw t x.1 (m + 1)).2.length)) vs'
  | .ref T false t :: ps, x, m, vs => ∃ v vs', vs = v :: vs' ∧ C0.ρ m = v ∧ InOut P C0 ps x.2 (m + 1) vs'
  | .mv _ t :: ps, x, m, vs => ∃ v vs', vs = v :: vs' ∧ InOut P C0 ps x.2 (m + (thaw t x.1 m).2.length) vs'
  | .val _ _ :: ps, x, m, vs => ∃ v vs', vs = v :: vs' ∧ InOut P C0 ps x.2 m vs'
  | .rdp _ _ :: ps, x, m, vs => ∃ v vs', vs = v :: vs' ∧ InOut P C0 ps x.2 m vs'
  | .fn _ _ :: ps, x, m, vs => ∃ v vs', vs = v :: vs' ∧ InOut P C0 ps x.2 m vs'
  | .arr _ _ :: ps, x, m, vs => ∃ v vs', vs = v :: vs' ∧ InOut P C0 ps x.2 m vs'
theorem thaw_cells : ∀ {t : Ty} {x : t.den} {m : Nat} {c : CV}, c ∈ (thaw t x m).1 → (∃ b, c = .own b ∧ b ∈ names (thaw t x m).2) ∨ (∃ k n, c = .int k n) ∨ (∃ b, c = .bool b) ∨ ∃ s, c = .str s
  | .int k, n, m, c, h => by simp only [thaw, List.mem_singleton] at h; exact .inr (.inl ⟨_, _, h⟩)
  | .bool, b, m, c, h => by simp only [thaw, List.mem_singleton] at h; exact .inr (.inr (.inl ⟨_, h⟩))
  | .str, s, m, c, h => by simp only [thaw, List.mem_singleton] at h; exact .inr (.inr (.inr ⟨_, h⟩))
  | .sl e t, xs, m, c, h => by
    simp only [thaw, List.mem_singleton] at h
    exact .inl ⟨m, h, by simp [thaw, names]⟩
  | .pair p q, x, m, c, h => by
    simp only [thaw, List.mem_append] at h
    rcases h with h | h
    · rcases thaw_cells h with ⟨b, h1, h2⟩ | h
      · refine .inl ⟨b, h1, ?_⟩
        simp only [thaw, names, List.map_append, List.mem_append]
        exact .inl h2
      · exact .inr h
    · rcases thaw_cells h with ⟨b, h1, h2⟩ | h
      · refine .inl ⟨b, h1, ?_⟩
        simp only [thaw, names, List.map_append, List.mem_append]
        exact .inr h2
      · exact .inr h
theorem thaw_rows : ∀ {t : Ty} {x : t.den} {m : Nat}, ∀ y ∈ (thaw t x m).2, y.2.alive = true
  | .int k, n, m, y, h => by cases h
  | .bool, b, m, y, h => by cases h
  | .str, s, m, y, h => by cases h
  | .sl e t, xs, m, y, h => by
    simp only [thaw, List.mem_singleton] at h
    subst h
    rfl
  | .pair p q, x, m, y, h => by
    simp only [thaw, List.mem_append] at h
    rcases h with h | h
    · exact thaw_rows y h
    · exact thaw_rows y h
theorem muCells_ok {t : Ty} {x : t.den} {m : Nat} {cs : List Value} {C' : Cx} {loc' : Loc} {Es : List Ent} (hu : ups Es = (thaw t x m).2) (he : ∀ e ∈ Es, lget loc' e.b = some e.lb ∧ C'.ρ e.b = e.v) (h : RCs P C' loc' (thaw t x m).1 cs) : MuCells P C' (thaw t x m).1 cs := by
  refine ⟨h.1, fun j c v hc hv => ?_⟩
  have hrc := h.2 j c v hc hv
  rcases thaw_cells (List.mem_of_getElem? hc) with ⟨b, rfl, hb⟩ | ⟨k, n, rfl⟩ | ⟨b, rfl⟩ | ⟨s, rfl⟩
  · obtain ⟨lb, h1, h2, h3⟩ := hrc
    refine .inl ⟨b, rfl, h3 ?_, h2⟩
    rw [← hu] at hb
    obtain ⟨y, hy, hyb⟩ := List.mem_map.1 hb
    obtain ⟨e, hem, rfl⟩ := List.mem_map.1 hy
    simp only at hyb
    subst hyb
    rw [(he e hem).1] at h1
    injection h1 with h1
    rw [← h1]
    exact thaw_rows (x := x) (m := m) (e.b, e.lb) (by rw [← hu]; exact List.mem_map.2 ⟨e, hem, rfl⟩)
  · exact .inr fun _ _ => hrc
  · exact .inr fun _ _ => hrc
  · exact .inr fun _ _ => hrc
theorem packTV_ok {loc : Loc} {g : Bool} {cs : List CV} {vs : List Value} (h : RCs P C loc cs vs) {v : Value} (hp : Pack g vs v) : RV P C loc (packTV g cs) v := by
  unfold packTV
  unfold Pack at hp
  cases g with
  | true =>
    simp only [if_true] at hp ⊢
    exact ⟨vs, h, hp⟩
  | false =>
    simp only [Bool.false_eq_true, if_false] at hp ⊢
    subst hp
    split
    · rename_i c
      exact h.2 0 c v rfl rfl
    · trivial
theorem NewEnts.single {m g T : Nat} {cs : List CV} {v : Value} {φ : Nat → Prop} (h : φ g) : NewEnts m 1 φ [⟨m, .cells T cs, v, fun k => k = g⟩] := by
  refine ⟨by simp, (fun e he => ?_), (fun e he d' ep' e' t' ys' hh => ?_), (fun e he k hk => ?_), List.pairwise_singleton _ _⟩
  all_goals
    simp only [List.mem_singleton] at he
    subst he
  · exact ⟨Nat.le_refl _, Nat.lt_succ_self _⟩
  · cases hh
  · subst hk
    exact h
theorem startP_ok : ∀ {ps : List PK} {xs : dens ps} {vs : List Value} {φ : Nat → Prop} (m : Nat), ArgsOk P S w ps xs vs φ →
    ∃ Es, ups Es = (startP ps xs m).2 ∧ NewEnts m (startP ps xs m).2.length φ Es ∧ Holds P w S Es ∧ (startP ps xs m).1.length = ps.length ∧ vs.length = ps.length ∧
      ∀ C' loc', C'.w = w → C'.S = S → (∀ e ∈ Es, lget loc' e.b = some e.lb ∧ C'.ρ e.b = e.v) → (∀ (j : Nat) tv v, (startP ps xs m).1[j]? = some tv → vs[j]? = some v → RV P C' loc' tv v) ∧ InOut P C' ps xs m vs
  | [], xs, vs, φ, m, h => by
    obtain rfl : vs = [] := h
    exact ⟨[], rfl, NewEnts.none, fun _ _ _ _ _ e he => (by cases he), rfl, rfl, fun C' loc' _ _ _ => ⟨(fun j tv v hj => by simp [startP] at hj), trivial⟩⟩
  | p :: ps, xs, vs, φ, m, h => by
    obtain ⟨v, vs', φ0, φ1, rfl, ha, hr, s0, s1, hd⟩ := h
    -- a parameter that makes no names
    have plain : ∀ (tv : TV), startP (p :: ps) xs m = (tv :: (startP ps xs.2 m).1, (startP ps xs.2 m).2) → (∀ C' loc', C'.w = w → C'.S = S → RV P C' loc' tv v) → (∀ C', InOut P C' ps xs.2 m vs' → InOut P C' (p :: ps) xs m (v :: vs')) →
        ∃ Es, ups Es = (startP (p :: ps) xs m).2 ∧ NewEnts m (startP (p :: ps) xs m).2.length φ Es ∧ Holds P w S Es ∧ (startP (p :: ps) xs m).1.length = (p :: ps).length ∧ (v :: vs').length = (p :: ps).length ∧
          ∀ C' loc', C'.w = w → C'.S = S → (∀ e ∈ Es, lget loc' e.b = some e.lb ∧ C'.ρ e.b = e.v) → (∀ (j : Nat) tv u, (startP (p :: ps) xs m).1[j]? = some tv → (v :: vs')[j]? = some u → RV P C' loc' tv u) ∧ InOut P C' (p :: ps) xs m (v :: vs') := fun tv hst htv hio => by
      obtain ⟨Es, e1, e2, e3, e4, e5, e6⟩ := startP_ok m hr
      rw [hst]
      refine ⟨Es, e1, ⟨e2.nodup, e2.names, e2.live, fun e he k hk => s1 k (e2.φ e he k hk), e2.disj⟩, e3, by simp [e4], by simp [e5], fun C' loc' hw hS he => ?_⟩
      obtain ⟨q1, q2⟩ := e6 C' loc' hw hS he
      refine ⟨fun j tv' u hj hu => ?_, hio C' q2⟩
      cases j with
      | zero =>
        simp only [List.getElem?_cons_zero, Option.some.injEq] at hj hu
        subst hj; subst hu
        exact htv C' loc' hw hS
      | succ j => exact q1 j tv' u (by simpa using hj) (by simpa using hu)
    -- one that makes some
    have made : ∀ (tv : TV) (u : Loc) (E0 : List Ent), startP (p :: ps) xs m = (tv :: (startP ps xs.2 (m + u.length)).1, u ++ (startP ps xs.2 (m + u.length)).2) → ups E0 = u → NewEnts m u.length φ0 E0 → Holds P w S E0 →
        (∀ C' loc', C'.w = w → C'.S = S → (∀ e ∈ E0, lget loc' e.b = some e.lb ∧ C'.ρ e.b = e.v) → RV P C' loc' tv v ∧ (InOut P C' ps xs.2 (m + u.length) vs' → InOut P C' (p :: ps) xs m (v :: vs'))) →
        ∃ Es, ups Es = (startP (p :: ps) xs m).2 ∧ NewEnts m (startP (p :: ps) xs m).2.length φ Es ∧ Holds P w S Es ∧ (startP (p :: ps) xs m).1.length = (p :: ps).length ∧ (v :: vs').length = (p :: ps).length ∧
          ∀ C' loc', C'.w = w → C'.S = S → (∀ e ∈ Es, lget loc' e.b = some e.lb ∧ C'.ρ e.b = e.v) → (∀ (j : Nat) tv u, (startP (p :: ps) xs m).1[j]? = some tv → (v :: vs')[j]? = some u → RV P C' loc' tv u) ∧ InOut P C' (p :: ps) xs m (v :: vs') := fun tv u E0 hst hu hn hh htv => by
      obtain ⟨Es, e1, e2, e3, e4, e5, e6⟩ := startP_ok (m + u.length) hr
      rw [hst]
      refine ⟨E0 ++ Es, by rw [ups_append, hu, e1], by
        have := hn.both e2 s0 s1 hd
        simpa using this, hh.both e3, by simp [e4], by simp [e5], fun C' loc' hw hS he => ?_⟩
      obtain ⟨q1, q2⟩ := e6 C' loc' hw hS (fun e hem => he e (List.mem_append.2 (.inr hem)))
      obtain ⟨t1, t2⟩ := htv C' loc' hw hS (fun e hem => he e (List.mem_append.2 (.inl hem)))
      refine ⟨fun j tv' u hj hu => ?_, t2 q2⟩
      cases j with
      | zero =>
        simp only [List.getElem?_cons_zero, Option.some.injEq] at hj hu
        subst hj; subst hu
        exact t1
      | succ j => exact q1 j tv' u (by simpa using hj) (by simpa using hu)
    cases p with
    | val g t =>
      obtain ⟨cs, h1, h2⟩ := ha
      exact plain _ rfl (fun C' loc' hw hS => packTV_ok (flat_ok (by rw [hw, hS]; exact h2)) h1) (fun C' hio => ⟨v, vs', rfl, hio⟩)
    | rdp T t =>
      obtain ⟨g, cs, rfl, h1, h2, h3⟩ := ha
      exact plain _ rfl (fun C' loc' hw hS => ⟨⟨g, 0, none⟩, cs, rfl, by rw [hw, hS]; exact h3, fun j u hj => by rw [hw, add_lit, Nat.zero_add, blk_cell h2]; exact hj, by rw [hS]; exact h1⟩) (fun C' hio => ⟨_, vs', rfl, hio⟩)
    | fn qs rs => exact plain _ rfl (fun C' loc' hw hS => by show FnVal P C'.S C'.w qs rs xs.1 v; rw [hw, hS]; exact ha) (fun C' hio => ⟨_, vs', rfl, hio⟩)
    | arr k n => exact plain _ rfl (fun C' loc' hw hS => ha) (fun C' hio => ⟨_, vs', rfl, hio⟩)
    | mu g t =>
      obtain ⟨cs, h1, h2⟩ := ha
      obtain ⟨E0, k1, k2, k3, k4⟩ := thaw_new (P := P) (S' := S) (w' := w) m h2
      refine made _ _ E0 rfl k1 k2 k3 (fun C' loc' hw hS he => ⟨packTV_ok (k4 C' loc' hw he) h1, fun hio => ⟨v, vs', cs, rfl, h1, muCells_ok k1 he (k4 C' loc' hw he), hio⟩⟩)
    | mv g t =>
      obtain ⟨cs, h1, h2⟩ := ha
      obtain ⟨E0, k1, k2, k3, k4⟩ := thaw_new (P := P) (S' := S) (w' := w) m h2
      exact made _ _ E0 rfl k1 k2 k3 (fun C' loc' hw hS he => ⟨packTV_ok (k4 C' loc' hw he) h1, fun hio => ⟨v, vs', rfl, hio⟩⟩)
    | ref T d t =>
      obtain ⟨g, cs, φ2, rfl, h1, h2, h3, h4⟩ := ha
      cases d with
      | true =>
        have h3 : Own w t xs.1 cs φ2 := h3
        obtain ⟨E0, k1, k2, k3, k4⟩ := thaw_new (P := P) (S' := S) (w' := w) (m + 1) h3
        have hcell : ∀ C' loc', C'.w = w → (∀ e ∈ E0, lget loc' e.b = some e.lb ∧ C'.ρ e.b = e.v) → RLv P C' loc' (.pointer (some ⟨g, 0, none⟩)) (fun k => k = g) (.cells T (thaw t xs.1 (m + 1)).1) := fun C' loc' hw he => ⟨g, cs, rfl, by rw [hw]; exact h1, rfl, k4 C' loc' hw he⟩
        refine made (.c (.ptr m 0)) ((m, .cells T (thaw t xs.1 (m + 1)).1) :: (thaw t xs.1 (m + 1)).2) (⟨m, .cells T (thaw t xs.1 (m + 1)).1, .pointer (some ⟨g, 0, none⟩), fun k => k = g⟩ :: E0) ?_ (by rw [← k1]; rfl) ?_ ?_ (fun C' loc' hw hS he => ⟨?_, fun hio => ?_⟩)
        · simp only [startP, List.length_cons, Nat.add_comm 1]
        · have h0 : NewEnts m 1 (fun k => k = g) [⟨m, .cells T (thaw t xs.1 (m + 1)).1, .pointer (some ⟨g, 0, none⟩), fun k => k = g⟩] := NewEnts.single rfl
          have := h0.both k2 (φ := φ0) (fun k hk => by subst hk; exact h2) (fun k hk => (h4 k hk).1) (fun k hk hk' => (h4 k hk').2 hk)
          rw [Nat.add_comm 1] at this
          exact this
        · intro C' loc' hw hS he e hem
          rcases List.mem_cons.1 hem with rfl | hem
          · exact hcell C' loc' hw (fun e he' => he e (List.mem_cons_of_mem _ he'))
          · exact k3 C' loc' hw hS (fun e he' => he e (List.mem_cons_of_mem _ he')) e hem
        · obtain ⟨q1, q2⟩ := he _ (List.mem_cons_self ..)
          exact ⟨_, q1, ⟨_, rfl⟩, fun _ => ⟨g, q2, rfl⟩⟩
        · obtain ⟨q1, q2⟩ := he _ (List.mem_cons_self ..)
          refine ⟨_, vs', rfl, q2, ?_⟩
          rw [Nat.add_comm 1]
          exact hio
      | false =>
        have h3 : Rd S w t xs.1 cs := h3
        refine made (.c (.ptr m 0)) [(m, .cells T (flat t xs.1))] [⟨m, .cells T (flat t xs.1), .pointer (some ⟨g, 0, none⟩), fun k => k = g⟩] rfl rfl ?_ ?_ (fun C' loc' hw hS he => ⟨?_, fun hio => ?_⟩)
        · exact NewEnts.single h2
        · intro C' loc' hw hS he e hem
          simp only [List.mem_singleton] at hem
          subst hem
          exact ⟨g, cs, rfl, by rw [hw]; exact h1, rfl, flat_ok (Rd.mono hS (fun _ _ => rfl) (by rw [hw]; exact h3))⟩
        · obtain ⟨q1, q2⟩ := he _ (List.mem_cons_self ..)
          exact ⟨_, q1, ⟨_, rfl⟩, fun _ => ⟨g, q2, rfl⟩⟩
        · obtain ⟨q1, q2⟩ := he _ (List.mem_cons_self ..)
          exact ⟨_, vs', rfl, q2, hio⟩
end
end Go.Proofs.Ytceffcfnjjlbkaa.E
