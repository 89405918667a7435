/- The evaluator, 16: a call's arguments and results. -/
import Derived.Test.YtceffcfnjjlbkaaE15
import Derived.Conc.MuLone
namespace Go.Proofs.Ytceffcfnjjlbkaa.E
open Go.RowKit
set_option linter.unusedVariables false
set_option linter.unusedSimpArgs false
section
variable {P : Program} {M : Nat → Prop} {wE : World} {C : Cx} {st : St} {a : Act} {T : Nat → Option TV} {L : Nat → Option LB} {Γ : Nat → Option Sig}
theorem Rd.lt {S : Nat → Prop} {w : World} : ∀ {t : Ty} {x : t.den} {cs : List Value}, Rd S w t x cs → Rd (fun k => S k ∧ k < w.heap.size) w t x cs
  | .int _, _, _, h => h
  | .bool, _, _, h => h
  | .str, _, _, h => h
  | .sl e t, xs, cs, h => by
    obtain ⟨A, c, h1, h2, h3⟩ := h
    refine ⟨A, c, h1, h2, fun hne => ?_⟩
    obtain ⟨ad, h4, h5, h6⟩ := h3 hne
    refine ⟨ad, h4, ⟨h5, ?_⟩, fun i x hx => ?_⟩
    · have hl : 0 < xs.length := List.length_pos_iff.2 hne
      obtain ⟨es, k1, _, k3⟩ := h6 0 _ (List.getElem?_eq_getElem hl)
      have := k3 0 _ (List.getElem?_eq_getElem (show 0 < es.length by rw [k1]; exact sz_pos t))
      have := World.block_lt_of_cell? w _ this
      rwa [add_block] at this
    · obtain ⟨es, k1, k2, k3⟩ := h6 i x hx
      exact ⟨es, k1, Rd.lt k2, k3⟩
  | .pair a b, _, _, h => by
    obtain ⟨c0, c1, h1, h2, h3⟩ := h
    exact ⟨c0, c1, h1, Rd.lt h2, Rd.lt h3⟩
theorem Rd.flat {S S' : Nat → Prop} {w w' : World} {t : Ty} {x : t.den} {cs : List Value} (hf : t.flatB = true) (h : Rd S w t x cs) : Rd S' w' t x cs := Own.rd (φ := S') (Rd.own hf h)

/-! ### function values -/
theorem refRd_ok (hI : Inv P M wE C st.loc) (hs : Sees T L st) {E : Nat} {t : Ty} {c : CV} {x : t.den} (h : refRd L E t c = some x) {v : Value} (hv : RC P C st.loc c v) {rd : List Nat} (hrd : ∀ b cs, c = .ptr b 0 → L b = some (.cells E cs) → b ∈ rd ∧ ∀ b' ∈ idsOf cs, b' ∈ rd) :
    ∃ b cs g vs, c = .ptr b 0 ∧ L b = some (.cells E cs) ∧ lget st.loc b = some (.cells E cs) ∧ C.ρ b = .pointer (some ⟨g, 0, none⟩) ∧ v = .pointer (some ⟨g, 0, none⟩) ∧ blk C.w g vs E ∧ C.φ b g ∧ RCs P C st.loc cs vs ∧ unflat L t cs = some (x, []) ∧ RdS C st.loc rd g ∧ Rd (RdS C st.loc rd) C.w t x vs := by
  unfold refRd at h
  split at h
  · rename_i b
    split at h
    · rename_i T' cs hb
      split at h
      · rename_i hT
        subst hT
        split at h
        · rename_i y hy
          injection h with h
          subst h
          have hb' := hs.L _ _ hb
          obtain ⟨g, vs, h1, h2, h3, h4⟩ := hI.ok b _ hb'
          obtain ⟨lb, hlb, _, hal⟩ := hv
          rw [hb'] at hlb
          injection hlb with hlb
          subst hlb
          obtain ⟨g', h5, rfl⟩ := hal rfl
          rw [h1] at h5
          injection h5 with h5
          injection h5 with h5
          injection h5 with h5
          subst h5
          obtain ⟨q1, q2⟩ := hrd b cs rfl hb
          obtain ⟨d0, c0, c1, e1, e2, k0, k1, k2⟩ := unflat_ok hI hs hy h4 q2
          obtain rfl : c1 = [] := List.length_eq_zero_iff.1 k2.1.symm
          rw [List.append_nil] at e2
          subst e2
          exact ⟨b, cs, g, vs, rfl, hb, hb', h1, rfl, h2, h3, h4, hy, .inr ⟨b, q1, ⟨_, hb', rfl⟩, h3⟩, k0⟩
        · cases h
      · cases h
    · cases h
  · cases h
/-- A function value's captured variables, behind its arguments. -/
theorem withCaps_ok (hI : Inv P M wE C st.loc) (hs : Sees T L st) {rd : List Nat} {S : Nat → Prop} (hS : ∀ k, RdS C st.loc rd k → S k) : ∀ {qs : List PK} {ps : List VK} {caps : List Nat} {f : vdens ps → dens qs}, withCaps L qs ps caps = some f →
    (∀ b ∈ caps, b ∈ rd ∧ ∀ E cs, L b = some (.cells E cs) → ∀ b' ∈ idsOf cs, b' ∈ rd) → ∀ {us : List Value}, us.length = caps.length → (∀ (j b : Nat) (u : Value), caps[j]? = some b → us[j]? = some u → RC P C st.loc (.ptr b 0) u) →
    ∀ (xs : vdens ps) (w' : World), C.w.heap.size ≤ w'.heap.size → (∀ k, S k → w'.heap[k]? = C.w.heap[k]?) → ∀ (S' : Nat → Prop) (vs : List Value), VVals S' w' ps xs vs → ArgsOk P (fun k => k < w'.heap.size) w' qs (f xs) (vs ++ us) (fun _ => False)
  | [], [], [], f, h, hc, us, hl, hu, xs, w', hw, hk, S', vs, hv => by
    obtain rfl : us = [] := List.length_eq_zero_iff.1 hl
    obtain rfl : vs = [] := hv
    rfl
  | .val g t :: qs, (g', t') :: ps, caps, f, h, hc, us, hl, hu, xs, w', hw, hk, S', vs, hv => by
    simp only [withCaps] at h
    split at h
    · rename_i hh
      split at h
      · rename_i f' hf'
        injection h with h
        subst h
        obtain ⟨rfl, rfl⟩ := hh
        obtain ⟨v, vs', cs, rfl, h1, h2, h3⟩ := hv
        exact ⟨v, vs' ++ us, fun _ => False, fun _ => False, rfl, ⟨cs, h1, Rd.mono (fun k hk => hk.2) (fun _ _ => rfl) h2.lt⟩, withCaps_ok hI hs hS hf' hc hl hu xs.2 w' hw hk S' vs' h3, fun _ h => h, fun _ h => h, fun _ h => h.elim⟩
      · cases h
    · cases h
  | .rdp E t :: qs, [], b :: caps, f, h, hc, us, hl, hu, xs, w', hw, hk, S', vs, hv => by
    simp only [withCaps] at h
    split at h
    · rename_i y f' hy hf'
      injection h with h
      subst h
      obtain rfl : vs = [] := hv
      match us, hl with
      | u :: us', hl =>
        have hb := hc b (List.mem_cons_self ..)
        obtain ⟨b', cs, g, vs', e0, _, _, _, rfl, k1, _, _, _, k2, k3⟩ := refRd_ok hI hs hy (hu 0 b u rfl rfl) (rd := rd) (fun b1 cs1 he hL => by injection he with he _; subst he; exact ⟨hb.1, hb.2 E cs1 hL⟩)
        refine ⟨_, us', fun _ => False, fun _ => False, rfl, ⟨g, vs', rfl, ?_, blk_same k1 (hk g (hS g k2)), ?_⟩, withCaps_ok hI hs hS hf' (fun b hb => hc b (List.mem_cons_of_mem _ hb)) (by simpa using hl) (fun j b u hj hu' => hu (j + 1) b u (by simpa using hj) (by simpa using hu')) () w' hw hk S' [] rfl, fun _ h => h, fun _ h => h, fun _ h => h.elim⟩
        · exact Nat.lt_of_lt_of_le (blk_lt k1) hw
        · exact Rd.mono (fun k hk => hk.2) (fun _ _ => rfl) (Rd.mono (S := RdS C st.loc rd) (S' := S) hS (fun k hq => hk k (hS k hq)) k3).lt
    · cases h
  | [], _ :: _, _, f, h, hc, us, hl, hu, xs, w', hw, hk, S', vs, hv => by simp [withCaps] at h
  | [], [], _ :: _, f, h, hc, us, hl, hu, xs, w', hw, hk, S', vs, hv => by simp [withCaps] at h
  | .val _ _ :: _, [], _, f, h, hc, us, hl, hu, xs, w', hw, hk, S', vs, hv => by simp [withCaps] at h
  | .rdp _ _ :: _, _ :: _, _, f, h, hc, us, hl, hu, xs, w', hw, hk, S', vs, hv => by simp [withCaps] at h
  | .rdp _ _ :: _, [], [], f, h, hc, us, hl, hu, xs, w', hw, hk, S', vs, hv => by simp [withCaps] at h
  | .mu _ _ :: _, _, _, f, h, hc, us, hl, hu, xs, w', hw, hk, S', vs, hv => by simp [withCaps] at h
  | .mv _ _ :: _, _, _, f, h, hc, us, hl, hu, xs, w', hw, hk, S', vs, hv => by simp [withCaps] at h
  | .ref _ _ _ :: _, _, _, f, h, hc, us, hl, hu, xs, w', hw, hk, S', vs, hv => by simp [withCaps] at h
  | .fn _ _ :: _, _, _, f, h, hc, us, hl, hu, xs, w', hw, hk, S', vs, hv => by simp [withCaps] at h
  | .arr _ _ :: _, _, _, f, h, hc, us, hl, hu, xs, w', hw, hk, S', vs, hv => by simp [withCaps] at h
theorem resV_ok {S' : Nat → Prop} {w' : World} : ∀ {rs : List RK} {qs : List VK} {h : rdens rs → vdens qs}, resV rs qs = some h → ∀ {r : rdens rs} {us : List Value} {φ : Nat → Prop}, ResOk S' w' rs r us φ → VVals (fun _ => False) w' qs (h r) us
  | [], [], h, hh, r, us, φ, hr => hr
  | .own g t :: rs, (g', t') :: qs, h, hh, r, us, φ, hr => by
    simp only [resV] at hh
    split at hh
    · rename_i he
      split at hh
      · rename_i hf
        split at hh
        · rename_i f hf'
          injection hh with hh
          subst hh
          obtain ⟨rfl, rfl⟩ := he
          obtain ⟨v, vs', φ0, φ1, rfl, ⟨cs, h1, h2⟩, h3, _⟩ := hr
          exact ⟨v, vs', cs, rfl, h1, Rd.flat hf h2.rd, resV_ok hf' h3⟩
        · cases hh
      · cases hh
    · cases hh
  | [], _ :: _, h, hh, r, us, φ, hr => by simp [resV] at hh
  | .own _ _ :: _, [], h, hh, r, us, φ, hr => by simp [resV] at hh
  | .shr _ _ :: _, _, h, hh, r, us, φ, hr => by simp [resV] at hh
  | .ptr _ _ _ :: _, _, h, hh, r, us, φ, hr => by simp [resV] at hh
  | .arr _ _ :: _, _, h, hh, r, us, φ, hr => by simp [resV] at hh
theorem Frame'.below {w w' : World} (h : Frame' (fun _ => False) w w') : Below w.heap.size w w' := ⟨h.os, h.tape, h.output, h.size, fun k hk => h.kept k hk (fun h => h)⟩
theorem sig_val {g : Nat} {s : Sig} (hs : FnOk P g s) {ps rs : List VK} {f : vdens ps → dens s.ps} {hh : rdens s.rs → vdens rs} (hr : resV s.rs rs = some hh) {us : List Value} {w : World} {S : Nat → Prop}
    (hf : ∀ (xs : vdens ps) (w' : World), w.heap.size ≤ w'.heap.size → (∀ k, S k → w'.heap[k]? = w.heap[k]?) → ∀ (S' : Nat → Prop) (vs : List Value), VVals S' w' ps xs vs → ArgsOk P (fun k => k < w'.heap.size) w' s.ps (f xs) (vs ++ us) (fun _ => False)) :
    FnVal P S w ps rs (fun x => (s.F (f x)).map fun r => hh r.2) (.func (.func g) #[] us.toArray) := by
  refine ⟨g, #[], us.toArray, rfl, hs.enter, fun xs r hxr w' hw hk S' vs hv => ?_⟩
  obtain ⟨⟨o, r0⟩, hF, rfl⟩ := Option.map_eq_some_iff.1 hxr
  have hA := hf xs w' hw hk S' vs hv
  have hc := hs.calls (f xs) o r0 hF w' (fun k => k < w'.heap.size) (fun _ => False) (vs ++ us) (fun k hk => ⟨hk, fun h => h⟩) (fun k h => h.elim) hA
  have he : (#[] ++ vs.toArray ++ us.toArray : Array Value) = (vs ++ us).toArray := by simp
  rw [he]
  refine hc.mono fun e w'' ⟨us', φo, φr, S'', _, h2, h3, h4, _⟩ => ⟨us', resV_ok hr h2, h3, h4.below⟩
theorem fnDen_ok (hΓ : ∀ g s, Γ g = some s → FnOk P g s) (hI : Inv P M wE C st.loc) (hs : Sees T L st) {rd : List Nat} {S : Nat → Prop} (hS : ∀ k, RdS C st.loc rd k → S k) {ps rs : List VK} {c : CV} {G : vdens ps → Option (vdens rs)} (h : fnDen Γ L ps rs c = some G) {v : Value} (hv : RC P C st.loc c v)
    (hrd : ∀ f caps, c = .clo f caps → ∀ b ∈ caps, b ∈ rd ∧ ∀ E cs, L b = some (.cells E cs) → ∀ b' ∈ idsOf cs, b' ∈ rd) : FnVal P S C.w ps rs G v := by
  unfold fnDen at h
  split at h
  · rename_i g
    split at h
    · rename_i s hg
      split at h
      · rename_i f hh hf hr
        injection h with h
        subst h
        rw [show v = _ from hv]
        have := sig_val (us := []) (w := C.w) (S := S) (hΓ g s hg) hr (f := f) (withCaps_ok hI hs hS hf (by simp) rfl (fun j b u hj => by simp at hj))
        simpa using this
      · cases h
    · cases h
  · rename_i g caps
    split at h
    · rename_i s hg
      split at h
      · rename_i f hh hf hr
        injection h with h
        subst h
        obtain ⟨us, rfl, hl, hu⟩ := hv
        refine sig_val (hΓ g s hg) hr (f := f) (withCaps_ok hI hs hS hf (hrd g caps rfl) hl (fun j b u hj hu' => ?_))
        exact hu j b u hj hu'
      · cases h
    · cases h
  · rename_i ps' rs' G'
    split at h
    · rename_i hh
      obtain ⟨rfl, rfl⟩ := hh
      injection h with h
      subst h
      obtain ⟨g, fs, cap, h1, h2, h3⟩ := hv
      exact ⟨g, fs, cap, h1, h2, fun xs r hr w' hw hk S' vs hv => h3 xs r hr w' hw (fun k hk' => hk k (hS k (.inl hk'))) S' vs hv⟩
    · cases h
  · cases h

/-! ### arguments -/
structure CallEnts (C : Cx) (loc : Loc) (ids : List Nat) (m m' : Nat) (Mt φo : Nat → Prop) (Es : List Ent) : Prop where
  nodup : (Es.map (·.b)).Nodup
  names : ∀ e ∈ Es, (e.b ∈ ids ∧ e.v = C.ρ e.b ∧ (e.lb.alive = true → ∃ lb0, lget loc e.b = some lb0 ∧ lb0.alive = true ∧ ∀ d' ep' e' t' (ys' : List (Ty.den t')), e.lb = .row d' ep' e' t' ys' → ∃ d ep e t, ∃ ys : List (Ty.den t), lb0 = .row d ep e t ys ∧ ep < ep')) ∨ (m ≤ e.b ∧ e.b < m')
  φ : ∀ e ∈ Es, e.lb.alive = true → ∀ k, e.φ k → (e.b ∈ ids ∧ Lives loc e.b ∧ C.φ e.b k ∧ ¬ Mt k) ∨ φo k
  disj : Es.Pairwise (fun e e' => e.lb.alive = true → e'.lb.alive = true → ∀ k, e.φ k → ¬ e'.φ k)
  cover : ∀ b ∈ ids, b ∈ Es.map (·.b)
theorem CallEnts.none {loc : Loc} {m m' : Nat} {Mt φo : Nat → Prop} : CallEnts C loc [] m m' Mt φo [] := ⟨by simp, fun e he => by simp at he, fun e he => by simp at he, .nil, fun b hb => by simp at hb⟩
def OutPost (P : Program) (C : Cx) (loc : Loc) (ps : List PK) (vs : List Value) (o : outs ps) (φp : Nat → Prop) (u : Loc) (ids : List Nat) (m m' : Nat) : Prop :=
  ∀ (w' : World) (S' φo Mt : Nat → Prop), OutsOk S' w' ps vs o φo → (∀ k, φp k → Mt k) → (∀ k, ofIds C loc ids k → Mt k → φp k) → (∀ k, ofIds C loc ids k → ¬ Mt k → w'.heap[k]? = C.w.heap[k]?) → (∀ k, φo k → C.w.heap.size ≤ k ∨ Mt k) →
    ∃ Es, ups Es = u ∧ CallEnts C loc ids m m' Mt φo Es ∧ Holds P w' S' Es
/-- Two parameters' entries, together. -/
theorem CallEnts.both (hI : Inv P M wE C st.loc) {i0 i1 : List Nat} (hd : ∀ b ∈ i0, ∀ b' ∈ i1, b ≠ b') {m m1 m' : Nat} {Mt φo φ0 φ1 : Nat → Prop} (s0 : ∀ k, φ0 k → φo k) (s1 : ∀ k, φ1 k → φo k) (hdφ : ∀ k, φ0 k → ¬ φ1 k) (hφo : ∀ k, φo k → C.w.heap.size ≤ k ∨ Mt k) (h0 : m ≤ m1) (h1 : m1 ≤ m') (hlow : ∀ b ∈ i0 ++ i1, b < m ∨ m' ≤ b)
    {E0 E1 : List Ent} (h : CallEnts C st.loc i0 m m1 Mt φ0 E0) (h' : CallEnts C st.loc i1 m1 m' Mt φ1 E1) : CallEnts C st.loc (i0 ++ i1) m m' Mt φo (E0 ++ E1) := by
  refine ⟨?_, fun e he => ?_, fun e he ha k hk => ?_, ?_, fun b hb => by rw [List.map_append]; rcases List.mem_append.1 hb with hb | hb; exact List.mem_append.2 (.inl (h.cover b hb)); exact List.mem_append.2 (.inr (h'.cover b hb))⟩
  · rw [List.map_append]
    refine List.nodup_append.2 ⟨h.nodup, h'.nodup, fun b hb b' hb' => ?_⟩
    obtain ⟨e, he, rfl⟩ := List.mem_map.1 hb
    obtain ⟨e', he', rfl⟩ := List.mem_map.1 hb'
    rcases h.names e he with ⟨q, _⟩ | q <;> rcases h'.names e' he' with ⟨q', _⟩ | q'
    · exact hd _ q _ q'
    · have := hlow e.b (List.mem_append.2 (.inl q)); omega
    · have := hlow e'.b (List.mem_append.2 (.inr q')); omega
    · omega
  · rcases List.mem_append.1 he with he | he
    · rcases h.names e he with ⟨q1, q2⟩ | q
      · exact .inl ⟨List.mem_append.2 (.inl q1), q2⟩
      · exact .inr (by omega)
    · rcases h'.names e he with ⟨q1, q2⟩ | q
      · exact .inl ⟨List.mem_append.2 (.inr q1), q2⟩
      · exact .inr (by omega)
  · rcases List.mem_append.1 he with he | he
    · exact (h.φ e he ha k hk).imp (fun ⟨q1, q2⟩ => ⟨List.mem_append.2 (.inl q1), q2⟩) (s0 k)
    · exact (h'.φ e he ha k hk).imp (fun ⟨q1, q2⟩ => ⟨List.mem_append.2 (.inr q1), q2⟩) (s1 k)
  · refine List.pairwise_append.2 ⟨h.disj, h'.disj, fun e he e' he' ha ha' k hk hk' => ?_⟩
    rcases h.φ e he ha k hk with ⟨q1, ⟨lb, r1, r2⟩, q3, q4⟩ | q <;> rcases h'.φ e' he' ha' k hk' with ⟨q1', ⟨lb', r1', r2'⟩, q3', q4'⟩ | q'
    · exact hI.disj _ _ lb lb' (hd _ q1 _ q1') r1 r1' r2 r2' k q3 q3'
    · rcases hφo k (s1 k q') with h | h
      · have := (hI.own _ lb r1 r2 k q3).1; omega
      · exact q4 h
    · rcases hφo k (s0 k q) with h | h
      · have := (hI.own _ lb' r1' r2' k q3').1; omega
      · exact q4' h
    · exact hdφ k q q'
theorem Holds.both {w' : World} {S' : Nat → Prop} {E0 E1 : List Ent} (h : Holds P w' S' E0) (h' : Holds P w' S' E1) : Holds P w' S' (E0 ++ E1) := fun C' loc' hw hS hl e he => by
  rcases List.mem_append.1 he with he' | he'
  · exact h C' loc' hw hS (fun e he => hl e (List.mem_append.2 (.inl he))) e he'
  · exact h' C' loc' hw hS (fun e he => hl e (List.mem_append.2 (.inr he))) e he'
theorem ups_append (E0 E1 : List Ent) : ups (E0 ++ E1) = ups E0 ++ ups E1 := by simp [ups]
theorem Holds.dead {w' : World} {S' : Nat → Prop} {ids : List Nat} : Holds P w' S' (deadEnts C ids) := fun C' loc' _ _ _ e he => by
  rw [(mem_dead he).2.1]
  trivial
theorem CallEnts.dead {loc : Loc} {ids : List Nat} (hnd : ids.Nodup) {m m' : Nat} {Mt φo : Nat → Prop} : CallEnts C loc ids m m' Mt φo (deadEnts C ids) := by
  refine ⟨by rw [show (deadEnts C ids).map (·.b) = ids by unfold deadEnts; rw [List.map_map]; exact List.map_id ids]; exact hnd, fun e he => ?_, fun e he ha => ?_, ?_, fun b hb => by rw [show (deadEnts C ids).map (·.b) = ids by unfold deadEnts; rw [List.map_map]; exact List.map_id ids]; exact hb⟩
  · obtain ⟨h1, h2, h3⟩ := mem_dead he
    exact .inl ⟨h1, h3, fun ha => by rw [h2] at ha; cases ha⟩
  · rw [(mem_dead he).2.1] at ha
    cases ha
  · refine List.Pairwise.imp_of_mem (R := fun _ _ => True) (fun {e e'} he _ _ ha => ?_) (List.pairwise_of_forall fun _ _ => trivial)
    rw [(mem_dead he).2.1] at ha
    cases ha
theorem flat_nil {t : Ty} (h : t.sz = 0) : False := by have := sz_pos t; omega
theorem outUpd_le : ∀ {ps : List PK} {vs : List TV} {o : outs ps} {m m' : Nat} {u : Loc}, outUpd L ps vs o m = some (u, m') → m ≤ m'
  | [], [], o, m, m', u, h => by
    simp only [outUpd] at h
    injection h with h
    injection h with _ h
    omega
  | .mu g t :: ps, v :: vs, o, m, m', u, h => by
    simp only [outUpd] at h
    split at h
    · split at h
      · split at h
        · rename_i h'
          injection h with h
          injection h with _ h
          subst h
          exact outUpd_le h'
        · cases h
      · cases h
    · cases h
  | .mv g t :: ps, v :: vs, o, m, m', u, h => by
    simp only [outUpd] at h
    split at h
    · split at h
      · rename_i h'
        injection h with h
        injection h with _ h
        subst h
        exact outUpd_le h'
      · cases h
    · cases h
  | .ref E d t :: ps, v :: vs, o, m, m', u, h => by
    cases v with
    | c c =>
      cases c with
      | ptr b off =>
        cases off with
        | zero =>
          simp only [outUpd] at h
          split at h
          · split at h
            · split at h
              · rename_i h'
                injection h with h
                injection h with _ h
                subst h
                have := outUpd_le h'
                omega
              · cases h
            · split at h
              · rename_i h'
                injection h with h
                injection h with _ h
                subst h
                exact outUpd_le h'
              · cases h
          · cases h
        | succ n => simp [outUpd] at h
      | _ => simp [outUpd] at h
    | _ => simp [outUpd] at h
  | .val g t :: ps, v :: vs, o, m, m', u, h => by simp only [outUpd] at h; exact outUpd_le h
  | .rdp g t :: ps, v :: vs, o, m, m', u, h => by simp only [outUpd] at h; exact outUpd_le h
  | .fn g t :: ps, v :: vs, o, m, m', u, h => by simp only [outUpd] at h; exact outUpd_le h
  | .arr g t :: ps, v :: vs, o, m, m', u, h => by simp only [outUpd] at h; exact outUpd_le h
  | [], _ :: _, o, m, m', u, h => by simp [outUpd] at h
  | .mu _ _ :: _, [], o, m, m', u, h => by simp [outUpd] at h
  | .mv _ _ :: _, [], o, m, m', u, h => by simp [outUpd] at h
  | .ref _ _ _ :: _, [], o, m, m', u, h => by simp [outUpd] at h
  | .val _ _ :: _, [], o, m, m', u, h => by simp [outUpd] at h
  | .rdp _ _ :: _, [], o, m, m', u, h => by simp [outUpd] at h
  | .fn _ _ :: _, [], o, m, m', u, h => by simp [outUpd] at h
  | .arr _ _ :: _, [], o, m, m', u, h => by simp [outUpd] at h
/-- One parameter whose blocks the call does not touch, in front of others. -/
theorem OutPost.skip {p : PK} {ps : List PK} {v : Value} {vs : List Value} {o : outs (p :: ps)} {o' : outs ps} {φp : Nat → Prop} {u : Loc} {ids : List Nat} {m m' : Nat} (ho : ∀ S w φ, OutsOk S w (p :: ps) (v :: vs) o φ → OutsOk S w ps vs o' φ) (h : OutPost P C st.loc ps vs o' φp u ids m m') : OutPost P C st.loc (p :: ps) (v :: vs) o φp u ids m m' :=
  fun w' S' φo Mt h1 h2 h3 h4 h5 => h w' S' φo Mt (ho _ _ _ h1) h2 h3 h4 h5
set_option maxHeartbeats 1000000 in
theorem args_ok (hΓ : ∀ g s, Γ g = some s → FnOk P g s) (hI : Inv P M wE C st.loc) (hs : Sees T L st) {rd : List Nat} {S : Nat → Prop} (hS : ∀ k, RdS C st.loc rd k → S k) {lo hi : Nat} :
    ∀ {ps : List PK} {vs : List TV} {xs : dens ps} {ids : List Nat} {o : outs ps} {m m' : Nat} {u : Loc} {vals : List Value}, argsIn Γ L ps vs = some xs → inout L ps vs = some ids → outUpd L ps vs o m = some (u, m') → ids.Nodup → (∀ b ∈ reads L ps vs, b ∈ rd) → (∀ b ∈ ids, b < lo ∨ hi ≤ b) → lo ≤ m → m' ≤ hi →
      vs.length = vals.length → (∀ (j : Nat) (tv : TV) (v : Value), vs[j]? = some tv → vals[j]? = some v → RV P C st.loc tv v) →
      ∃ φp, ArgsOk P S C.w ps xs vals φp ∧ (∀ k, φp k → ofIds C st.loc ids k) ∧ OutPost P C st.loc ps vals o φp u ids m m'
  | [], [], xs, ids, o, m, m', u, vals, h, h1, h2, hnd, hr, hlow, hlo, hhi, hl, hv => by
    obtain rfl : vals = [] := List.length_eq_zero_iff.1 hl.symm
    simp only [inout] at h1
    injection h1 with h1
    subst h1
    simp only [outUpd] at h2
    injection h2 with h2
    injection h2 with h3 h4
    subst h3
    exact ⟨fun _ => False, rfl, fun _ h => h.elim, fun _ _ _ _ _ _ _ _ _ => ⟨[], rfl, CallEnts.none, fun _ _ _ _ _ e he => by simp at he⟩⟩
  | p :: ps, tv :: vs, xs, ids, o, m, m', u, vals, h, h1, h2, hnd, hr, hlow, hlo, hhi, hl, hv => by
    match vals, hl with
    | v :: vals, hl =>
      have hv0 := hv 0 tv v rfl rfl
      have hvs : ∀ (j : Nat) (tv : TV) (v : Value), vs[j]? = some tv → vals[j]? = some v → RV P C st.loc tv v := fun j tv v h h' => hv (j + 1) tv v (by simpa using h) (by simpa using h')
      have hl' : vs.length = vals.length := by simpa using hl
      have join : ∀ {i0 i1 : List Nat} {φ0 φ1 : Nat → Prop}, (∀ b ∈ i0, ∀ b' ∈ i1, b ≠ b') → (∀ k, φ0 k → ofIds C st.loc i0 k) → (∀ k, φ1 k → ofIds C st.loc i1 k) → ∀ k, φ0 k → ¬ φ1 k := fun hd h0 h1 k hk hk' => by
        obtain ⟨b, hb, ⟨lb, r1, r2⟩, q⟩ := h0 k hk
        obtain ⟨b', hb', ⟨lb', r1', r2'⟩, q'⟩ := h1 k hk'
        exact hI.disj b b' lb lb' (hd b hb b' hb') r1 r1' r2 r2' k q q'
      have i0m : ∀ {i0 i1 : List Nat} (k : Nat), ofIds C st.loc i0 k → ofIds C st.loc (i0 ++ i1) k := fun k hk => ofIds_mono (fun b hb => List.mem_append.2 (.inl hb)) hk
      have i1m : ∀ {i0 i1 : List Nat} (k : Nat), ofIds C st.loc i1 k → ofIds C st.loc (i0 ++ i1) k := fun k hk => ofIds_mono (fun b hb => List.mem_append.2 (.inr hb)) hk
      -- a parameter with names of its own, then the rest
      have glue : ∀ {i0 i1 : List Nat} {φ0 φ1 : Nat → Prop} {u0 u1 : Loc} {m1 : Nat} {o1 : outs ps}, ids = i0 ++ i1 → u = u0 ++ u1 → m ≤ m1 → m1 ≤ m' → ArgOk P S C.w p xs.1 v φ0 → ArgsOk P S C.w ps xs.2 vals φ1 → (∀ k, φ0 k → ofIds C st.loc i0 k) → (∀ k, φ1 k → ofIds C st.loc i1 k) →
          (∀ (w' : World) (S' φo Mt : Nat → Prop), OutsOk S' w' (p :: ps) (v :: vals) o φo → (∀ k, φ0 k → Mt k) → (∀ k, ofIds C st.loc i0 k → Mt k → φ0 k) → (∀ k, ofIds C st.loc i0 k → ¬ Mt k → w'.heap[k]? = C.w.heap[k]?) → (∀ k, φo k → C.w.heap.size ≤ k ∨ Mt k) →
            ∃ Es ψ0 ψ1, ups Es = u0 ∧ CallEnts C st.loc i0 m m1 Mt ψ0 Es ∧ Holds P w' S' Es ∧ OutsOk S' w' ps vals o1 ψ1 ∧ (∀ k, ψ0 k → φo k) ∧ (∀ k, ψ1 k → φo k) ∧ ∀ k, ψ0 k → ¬ ψ1 k) → OutPost P C st.loc ps vals o1 φ1 u1 i1 m1 m' →
          ∃ φp, ArgsOk P S C.w (p :: ps) xs (v :: vals) φp ∧ (∀ k, φp k → ofIds C st.loc ids k) ∧ OutPost P C st.loc (p :: ps) (v :: vals) o φp u ids m m' := by
        intro i0 i1 φ0 φ1 u0 u1 m1 o1 e1 e2 hm1 hm2 hA0 hA1 a0 a1 hpost0 hpost1
        subst e1; subst e2
        have hnp := List.nodup_append.1 hnd
        have hdis := join hnp.2.2 a0 a1
        refine ⟨fun k => φ0 k ∨ φ1 k, ⟨v, vals, φ0, φ1, rfl, hA0, hA1, fun k h => .inl h, fun k h => .inr h, hdis⟩, fun k hk => hk.elim (fun h => i0m k (a0 k h)) (fun h => i1m k (a1 k h)), fun w' S' φo Mt hO hM1 hM2 hk hφo => ?_⟩
        have cross : ∀ k, ofIds C st.loc i0 k → ¬ ofIds C st.loc i1 k := join (φ0 := ofIds C st.loc i0) (φ1 := ofIds C st.loc i1) hnp.2.2 (fun _ h => h) (fun _ h => h)
        obtain ⟨E0, ψ0, ψ1, f1, f2, f3, f4, s0, s1, sd⟩ := hpost0 w' S' φo Mt hO (fun k h => hM1 k (.inl h)) (fun k h hm => (hM2 k (i0m k h) hm).resolve_right (fun h' => cross k h (a1 k h'))) (fun k h hm => hk k (i0m k h) hm) hφo
        obtain ⟨E1, g1, g2, g3⟩ := hpost1 w' S' ψ1 Mt f4 (fun k h => hM1 k (.inr h)) (fun k h hm => (hM2 k (i1m k h) hm).resolve_left (fun h' => cross k (a0 k h') h)) (fun k h hm => hk k (i1m k h) hm) (fun k h => hφo k (s1 k h))
        exact ⟨E0 ++ E1, by rw [ups_append, f1, g1], f2.both hI hnp.2.2 s0 s1 sd hφo hm1 hm2 (fun b hb => (hlow b hb).imp (fun h => by omega) (fun h => by omega)) g2, f3.both g3⟩
      -- a parameter that is only read, then the rest
      have skip : ∀ {i1 : List Nat} {φ1 : Nat → Prop} {u1 : Loc} {o1 : outs ps}, ids = i1 → u = u1 → ArgOk P S C.w p xs.1 v (fun _ => False) → ArgsOk P S C.w ps xs.2 vals φ1 → (∀ k, φ1 k → ofIds C st.loc i1 k) → (∀ S w φ, OutsOk S w (p :: ps) (v :: vals) o φ → OutsOk S w ps vals o1 φ) → OutPost P C st.loc ps vals o1 φ1 u1 i1 m m' →
          ∃ φp, ArgsOk P S C.w (p :: ps) xs (v :: vals) φp ∧ (∀ k, φp k → ofIds C st.loc ids k) ∧ OutPost P C st.loc (p :: ps) (v :: vals) o φp u ids m m' := by
        intro i1 φ1 u1 o1 e1 e2 hA0 hA1 a1 ho hpost
        subst e1; subst e2
        exact ⟨φ1, ⟨v, vals, fun _ => False, φ1, rfl, hA0, hA1, fun _ h => h.elim, fun _ h => h, fun _ h => h.elim⟩, a1, OutPost.skip ho hpost⟩
      cases p with
      | val g t =>
        simp only [argsIn] at h
        split at h
        · rename_i x r hx hrr
          injection h with h
          subst h
          simp only [inout] at h1
          simp only [outUpd] at h2
          obtain ⟨φ1, a1, a2, a3⟩ := args_ok hΓ hI hs hS (lo := lo) (hi := hi) hrr h1 h2 hnd (fun b hb => hr b (by simp only [reads]; exact List.mem_append.2 (.inr hb))) hlow hlo hhi hl' hvs
          obtain ⟨cs, us, q1, q2, q3, q4, q5⟩ := argRd_ok hI hs hx hv0 (ids := rd) (fun cs hcs b hb => hr b (by simp only [reads, hcs]; exact List.mem_append.2 (.inl hb)))
          exact skip rfl rfl ⟨us, q3, Rd.mono hS (fun _ _ => rfl) q5⟩ a1 a2 (fun S w φ ⟨v', vs', e, h⟩ => by injection e with _ e; subst e; exact h) a3
        · cases h
      | mu g t =>
        simp only [argsIn] at h
        split at h
        · rename_i x r hx hrr
          injection h with h
          subst h
          simp only [inout] at h1
          split at h1
          · rename_i cs hcs
            split at h1
            · rename_i i0 i1 hi0 hi1
              injection h1 with h1
              subst h1
              simp only [outUpd, hcs] at h2
              split at h2
              · rename_i u0 hu0
                split at h2
                · rename_i u1 m1 hu1
                  injection h2 with h2
                  injection h2 with h3 h4
                  subst h3; subst h4
                  have hnp := List.nodup_append.1 hnd
                  obtain ⟨φ1, a1, a2, a3⟩ := args_ok hΓ hI hs hS (lo := lo) (hi := hi) hrr hi1 hu1 hnp.2.1 (fun b hb => hr b (by simp only [reads]; exact hb)) (fun b hb => hlow b (List.mem_append.2 (.inr hb))) hlo hhi hl' hvs
                  obtain ⟨us, z1, z2⟩ := tvCells_ok hcs hv0
                  unfold argRd at hx
                  rw [hcs] at hx
                  simp only at hx
                  split at hx
                  · rename_i y hy
                    injection hx with hx
                    subst hx
                    obtain ⟨d0, c0, c1, e1, e2, _, y1, y2, y3⟩ := muUpd_ok hI hs hy hu0 z1
                    obtain rfl : c1 = [] := List.length_eq_zero_iff.1 y2.1.symm
                    rw [List.append_nil] at e1 e2
                    subst e1; subst e2
                    obtain ⟨φ0, b1, b2, b3⟩ := y3 i0 hi0 hnp.1
                    refine glue (m1 := m) rfl rfl (Nat.le_refl _) (outUpd_le hu1) ⟨us, z2, b1⟩ a1 b2 a2 (fun w' S' φo Mt hO hM1 hM2 hk hφo => ?_) a3
                    obtain ⟨v', vs', ψ0, ψ1, e, ⟨cs', k1, k2⟩, k3, s0, s1, sd⟩ := hO
                    injection e with ee1 ee2
                    subst ee1; subst ee2
                    have hce : cs' = us := by
                      unfold Pack at k1 z2
                      cases g with
                      | true =>
                        simp only [if_true] at k1 z2
                        rw [k1] at z2
                        injection z2 with z2
                        simpa using z2
                      | false =>
                        simp only [Bool.false_eq_true, if_false] at k1 z2
                        rw [k1, z2]
                    subst hce
                    obtain ⟨Es, f1, f2, f3⟩ := b3 w' S' ψ0 Mt k2 hM1 hM2 hk (fun k h => hφo k (s0 k h))
                    refine ⟨Es, ψ0, ψ1, f1, ⟨f2.nodup, fun e he => .inl ?_, fun e he _ k hk' => ?_, f2.disj.imp (fun h _ _ => h), f2.cover⟩, f3, k3, s0, s1, sd⟩
                    · obtain ⟨q1, q2, ep, e0, t0, xs0, ys0, q3, q4⟩ := f2.old e he
                      exact ⟨q1, q2, fun _ => ⟨_, q3, rfl, fun d' ep' e' t' ys' hh => by rw [q4] at hh; injection hh with w1 w2 w3 w4 w5; exact ⟨true, ep, e0, t0, xs0, rfl, by omega⟩⟩⟩
                    · obtain ⟨q1, q2, ep, e0, t0, xs0, ys0, q3, q4⟩ := f2.old e he
                      exact (f2.φ e he k hk').imp (fun h => ⟨q1, ⟨_, q3, rfl⟩, h.1, h.2⟩) id
                  · cases hx
                · cases h2
              · cases h2
            · cases h1
          · cases h1
        · cases h
      | mv g t =>
        simp only [argsIn] at h
        split at h
        · rename_i x r hx hrr
          injection h with h
          subst h
          simp only [inout] at h1
          split at h1
          · rename_i cs hcs
            split at h1
            · rename_i i0 i1 hi0 hi1
              injection h1 with h1
              subst h1
              simp only [outUpd, hcs, hi0] at h2
              split at h2
              · rename_i idsq u1 m1 hq hu1
                injection hq with hq
                injection hq with hq _
                subst hq
                injection h2 with h2
                injection h2 with h3 h4
                subst h3; subst h4
                have hnp := List.nodup_append.1 hnd
                obtain ⟨φ1, a1, a2, a3⟩ := args_ok hΓ hI hs hS (lo := lo) (hi := hi) hrr hi1 hu1 hnp.2.1 (fun b hb => hr b (by simp only [reads]; exact hb)) (fun b hb => hlow b (List.mem_append.2 (.inr hb))) hlo hhi hl' hvs
                obtain ⟨us, z1, z2⟩ := tvCells_ok hcs hv0
                unfold argRd at hx
                rw [hcs] at hx
                simp only at hx
                split at hx
                · rename_i y hy
                  injection hx with hx
                  subst hx
                  obtain ⟨_, d0, c0, c1, e1, e2, y1, y2, y3⟩ := own_cells hI hs hy hi0 hnp.1 z1
                  obtain rfl : c1 = [] := List.length_eq_zero_iff.1 y2.1.symm
                  rw [List.append_nil] at e2
                  subst e2
                  refine glue (m1 := m) rfl rfl (Nat.le_refl _) (outUpd_le hu1) ⟨us, z2, y3 C.w (fun _ _ => rfl)⟩ a1 (fun _ h => h) a2 (fun w' S' φo Mt hO hM1 hM2 hk hφo => ?_) a3
                  obtain ⟨v', vs', e, h⟩ := hO
                  injection e with ee1 ee2
                  subst ee1; subst ee2
                  exact ⟨deadEnts C i0, fun _ => False, φo, ups_dead i0, CallEnts.dead hnp.1, Holds.dead, h, fun _ h => h.elim, fun _ h => h, fun _ h => h.elim⟩
                · cases hx
              · cases h2
            · cases h1
          · cases h1
        · cases h
      | ref E d t =>
        cases tv with
        | c c =>
          simp only [argsIn] at h
          split at h
          · rename_i x r hx hrr
            injection h with h
            subst h
            have hc : ∃ b, c = .ptr b 0 := by
              unfold refRd at hx
              split at hx
              · exact ⟨_, rfl⟩
              · cases hx
            obtain ⟨b, rfl⟩ := hc
            have hb0 : ∃ cs, L b = some (.cells E cs) := by
              simp only [refRd] at hx
              split at hx
              · rename_i T' cs hb
                split at hx
                · rename_i hT
                  subst hT
                  exact ⟨cs, hb⟩
                · cases hx
              · cases hx
            obtain ⟨cs, hLb⟩ := hb0
            obtain ⟨b', cs', g, us, e0, k1, k2, k3, rfl, k5, k6, k7, k8, _, _⟩ := refRd_ok hI hs hx hv0 (rd := b :: idsOf cs) (fun b1 cs1 he hL => by
              injection he with he _
              subst he
              rw [hLb] at hL
              injection hL with hL
              injection hL with _ hL
              subst hL
              exact ⟨List.mem_cons_self .., fun b' hb' => List.mem_cons_of_mem _ hb'⟩)
            injection e0 with e0 _
            subst e0
            rw [hLb] at k1
            injection k1 with k1
            injection k1 with _ k1
            subst k1
            have hbl : Lives st.loc b := ⟨_, k2, rfl⟩
            simp only [inout, hLb] at h1
            simp only [outUpd, hLb] at h2
            cases d with
            | true =>
              simp only [if_true] at h1 h2
              split at h1
              · rename_i a0 i1 hi0 hi1
                injection h1 with h1
                subst h1
                split at h2
                · rename_i idsq u1 m1 hq hu1
                  rw [hi0] at hq
                  injection hq with hq
                  injection hq with hq _
                  subst hq
                  injection h2 with h2
                  injection h2 with h3 h4
                  subst h3; subst h4
                  rw [← List.cons_append] at hnd
                  have hnp := List.nodup_append.1 hnd
                  have hle := outUpd_le hu1
                  obtain ⟨φ1, a1, a2, a3⟩ := args_ok hΓ hI hs hS (lo := lo) (hi := hi) hrr hi1 hu1 hnp.2.1 (fun b hb => hr b (by simp only [reads]; exact hb)) (fun b' hb' => hlow b' (List.mem_cons_of_mem _ (List.mem_append.2 (.inr hb')))) (by omega) hhi hl' hvs
                  have hna := List.nodup_cons.1 hnp.1
                  obtain ⟨_, d0, c0, c1, e1, e2, y1, y2, y3⟩ := own_cells hI hs k8 hi0 hna.2 k7
                  obtain rfl : c1 = [] := List.length_eq_zero_iff.1 y2.1.symm
                  rw [List.append_nil] at e2
                  subst e2
                  have hbb := hlow b (List.mem_cons_self ..)
                  refine glue (i0 := b :: a0) (φ0 := fun k => k = g ∨ ofIds C st.loc a0 k) (u0 := (b, .cells E (thaw t o.1 m).1) :: ((thaw t o.1 m).2 ++ kills a0)) (m1 := m + (thaw t o.1 m).2.length) rfl (by simp) (by omega) hle ⟨g, us, ofIds C st.loc a0, rfl, k5, .inl rfl, y3 C.w (fun _ _ => rfl), fun k hk => ⟨.inr hk, fun he => ?_⟩⟩ a1 (fun k hk => ?_) a2 (fun w' S' φo Mt hO hM1 hM2 hk hφo => ?_) a3
                  · subst he
                    obtain ⟨b2, hb2, ⟨lb2, r1, r2⟩, q⟩ := hk
                    exact hI.disj b b2 _ lb2 (fun he => hna.1 (he ▸ hb2)) k2 r1 rfl r2 _ k6 q
                  · rcases hk with rfl | hk
                    · exact ⟨b, List.mem_cons_self .., hbl, k6⟩
                    · exact ofIds_mono (fun b hb => List.mem_cons_of_mem _ hb) hk
                  · obtain ⟨v', vs', ψ0, ψ1, e, ⟨g', cs2, φ2, z1, z2, z3, z4, z5⟩, z6, s0, s1, sd⟩ := hO
                    injection e with ee1 ee2
                    subst ee1; subst ee2
                    injection z1 with z1
                    injection z1 with z1
                    injection z1 with z1
                    subst z1
                    have z4 : Own w' t o.1 cs2 φ2 := z4
                    obtain ⟨Et, t1, t2, t3, t4, t5, t6⟩ := thaw_ok (P := P) (S' := S') m z4
                    have hnames : ∀ e ∈ Et, m ≤ e.b ∧ e.b < m + (thaw t o.1 m).2.length := fun e he => by
                      have : e.b ∈ Et.map (·.b) := List.mem_map.2 ⟨e, he, rfl⟩
                      rw [t2] at this
                      obtain ⟨i, hi, hie⟩ := List.mem_map.1 this
                      have := List.mem_range.1 hi
                      omega
                    refine ⟨⟨b, .cells E (thaw t o.1 m).1, C.ρ b, fun k => k = g⟩ :: (Et ++ deadEnts C a0), ψ0, ψ1, by simp only [ups, List.map_cons, List.map_append] at t1 ⊢; rw [t1]; congr 2; exact ups_dead a0, ⟨?_, fun e he => ?_, fun e he ha k hk' => ?_, ?_, fun b' hb' => ?_⟩, fun C' loc' hw hSS hl2 e he => ?_, z6, s0, s1, sd⟩
                    · rw [List.map_cons, List.map_append]
                      have hda : (deadEnts C a0).map (·.b) = a0 := by unfold deadEnts; rw [List.map_map]; exact List.map_id a0
                      rw [hda]
                      refine List.nodup_cons.2 ⟨fun hm => ?_, List.nodup_append.2 ⟨?_, hna.2, fun b1 hb1 b2 hb2 => ?_⟩⟩
                      · rcases List.mem_append.1 hm with hm | hm
                        · obtain ⟨e, he, heb⟩ := List.mem_map.1 hm
                          have := hnames e he
                          have heb : e.b = b := heb
                          omega
                        · exact hna.1 hm
                      · rw [t2]
                        exact List.pairwise_map.2 (List.Pairwise.imp (fun {x y} h => by omega) List.nodup_range)
                      · obtain ⟨e, he, rfl⟩ := List.mem_map.1 hb1
                        have := hnames e he
                        have := hlow b2 (List.mem_cons_of_mem _ (List.mem_append.2 (.inl hb2)))
                        omega
                    · rcases List.mem_cons.1 he with rfl | he
                      · exact .inl ⟨List.mem_cons_self .., rfl, fun _ => ⟨_, k2, rfl, fun d' ep' e' t' ys' hh => by cases hh⟩⟩
                      · rcases List.mem_append.1 he with he | he
                        · exact .inr (hnames e he)
                        · obtain ⟨w1, w2, w3⟩ := mem_dead he
                          exact .inl ⟨List.mem_cons_of_mem _ w1, w3, fun ha => by rw [w2] at ha; cases ha⟩
                    · rcases List.mem_cons.1 he with rfl | he
                      · have hk' : k = g := hk'
                        exact .inr (by rw [hk']; exact z3)
                      · rcases List.mem_append.1 he with he | he
                        · exact .inr (z5 k ((t3 e he).2 k hk')).1
                        · rw [(mem_dead he).2.1] at ha
                          cases ha
                    · refine List.pairwise_cons.2 ⟨fun e he _ ha k hk1 hk2 => ?_, List.pairwise_append.2 ⟨t4.imp (fun h _ _ => h), ?_, fun e he e' he' _ ha' => ?_⟩⟩
                      · have hk1 : k = g := hk1
                        rcases List.mem_append.1 he with he | he
                        · exact (z5 k ((t3 e he).2 k hk2)).2 hk1
                        · rw [(mem_dead he).2.1] at ha
                          cases ha
                      · refine List.Pairwise.imp_of_mem (R := fun _ _ => True) (fun {e e'} he _ _ ha => ?_) (List.pairwise_of_forall fun _ _ => trivial)
                        rw [(mem_dead he).2.1] at ha
                        cases ha
                      · rw [(mem_dead he').2.1] at ha'
                        cases ha'
                    · rw [List.map_cons, List.map_append]
                      have hda : (deadEnts C a0).map (·.b) = a0 := by unfold deadEnts; rw [List.map_map]; exact List.map_id a0
                      rw [hda]
                      rcases List.mem_cons.1 hb' with rfl | hb'
                      · exact List.mem_cons_self ..
                      · exact List.mem_cons_of_mem _ (List.mem_append.2 (.inr hb'))
                    · rcases List.mem_cons.1 he with rfl | he'
                      · exact ⟨g, cs2, k3, by rw [hw]; exact z2, rfl, t6 C' loc' hw (fun e he => hl2 e (List.mem_cons_of_mem _ (List.mem_append.2 (.inl he))))⟩
                      · rcases List.mem_append.1 he' with he' | he'
                        · exact t5 C' loc' hw hSS (fun e he => hl2 e (List.mem_cons_of_mem _ (List.mem_append.2 (.inl he)))) e he'
                        · rw [(mem_dead he').2.1]
                          trivial
                · cases h2
              · cases h1
            | false =>
              simp only [Bool.false_eq_true, if_false] at h1 h2
              split at h1
              · rename_i a0 i1 hi0 hi1
                injection hi0 with hi0
                injection hi0 with hi0 _
                subst hi0
                injection h1 with h1
                subst h1
                split at h2
                · rename_i u1 m1 hu1
                  injection h2 with h2
                  injection h2 with h3 h4
                  subst h3; subst h4
                  rw [List.nil_append] at hnd hlow
                  have hnp := List.nodup_cons.1 hnd
                  have hle := outUpd_le hu1
                  obtain ⟨φ1, a1, a2, a3⟩ := args_ok hΓ hI hs hS (lo := lo) (hi := hi) hrr hi1 hu1 hnp.2 (fun b' hb' => hr b' (by simp only [reads, hLb]; exact List.mem_append.2 (.inr hb'))) (fun b' hb' => hlow b' (List.mem_cons_of_mem _ hb')) hlo hhi hl' hvs
                  obtain ⟨d0, c0, c1, e1, e2, y1, y2, y3⟩ := unflat_ok hI hs (ids := rd) k8 k7 (fun b' hb' => hr b' (by simp only [reads, hLb]; exact List.mem_append.2 (.inl hb')))
                  obtain rfl : c1 = [] := List.length_eq_zero_iff.1 y3.1.symm
                  rw [List.append_nil] at e2
                  subst e2
                  refine glue (i0 := [b]) (φ0 := fun k => k = g) (u0 := [(b, .cells E (flat t o.1))]) (m1 := m) rfl rfl (Nat.le_refl _) hle ⟨g, us, fun _ => False, rfl, k5, rfl, Rd.mono hS (fun _ _ => rfl) y1, fun k hk => hk.elim⟩ a1 (fun k hk => ?_) a2 (fun w' S' φo Mt hO hM1 hM2 hk hφo => ?_) a3
                  · subst hk
                    exact ⟨b, by simp, hbl, k6⟩
                  · obtain ⟨v', vs', ψ0, ψ1, e, ⟨g', cs2, φ2, z1, z2, z3, z4, z5⟩, z6, s0, s1, sd⟩ := hO
                    injection e with ee1 ee2
                    subst ee1; subst ee2
                    injection z1 with z1
                    injection z1 with z1
                    injection z1 with z1
                    subst z1
                    have z4 : Rd S' w' t o.1 cs2 := z4
                    refine ⟨[⟨b, .cells E (flat t o.1), C.ρ b, fun k => k = g⟩], ψ0, ψ1, rfl, ⟨by simp, fun e he => ?_, fun e he ha k hk' => ?_, by simp, fun b' hb' => by simpa using hb'⟩, fun C' loc' hw hSS hl2 e he => ?_, z6, s0, s1, sd⟩
                    · simp only [List.mem_singleton] at he
                      subst he
                      exact .inl ⟨by simp, rfl, fun _ => ⟨_, k2, rfl, fun d' ep' e' t' ys' hh => by cases hh⟩⟩
                    · simp only [List.mem_singleton] at he
                      subst he
                      have hk' : k = g := hk'
                      exact .inr (by rw [hk']; exact z3)
                    · simp only [List.mem_singleton] at he
                      subst he
                      exact ⟨g, cs2, k3, by rw [hw]; exact z2, rfl, flat_ok (by rw [hw]; exact Rd.mono hSS (fun _ _ => rfl) z4)⟩
                · cases h2
              · cases h1
          · cases h
        | _ => simp [argsIn] at h
      | rdp E t =>
        cases tv with
        | c c =>
          simp only [argsIn] at h
          split at h
          · rename_i x r hx hrr
            injection h with h
            subst h
            simp only [inout] at h1
            simp only [outUpd] at h2
            have hc : ∃ b, c = .ptr b 0 := by
              unfold refRd at hx
              split at hx
              · exact ⟨_, rfl⟩
              · cases hx
            obtain ⟨b, rfl⟩ := hc
            obtain ⟨φ1, a1, a2, a3⟩ := args_ok hΓ hI hs hS (lo := lo) (hi := hi) hrr h1 h2 hnd (fun b hb => hr b (by simp only [reads]; exact List.mem_append.2 (.inr hb))) hlow hlo hhi hl' hvs
            obtain ⟨b', cs, g, us, e0, k1, k2, k3, rfl, k5, k6, k7, k8, k9, k10⟩ := refRd_ok hI hs hx hv0 (rd := rd) (fun b1 cs1 he hL => by
              injection he with he _
              subst he
              exact ⟨hr b (by simp only [reads, hL]; exact List.mem_append.2 (.inl (List.mem_cons_self ..))), fun b' hb' => hr b' (by simp only [reads, hL]; exact List.mem_append.2 (.inl (List.mem_cons_of_mem _ hb')))⟩)
            exact skip rfl rfl ⟨g, us, rfl, hS g k9, k5, Rd.mono hS (fun _ _ => rfl) k10⟩ a1 a2 (fun S w φ ⟨v', vs', e, h⟩ => by injection e with _ e; subst e; exact h) a3
          · cases h
        | _ => simp [argsIn] at h
      | fn qs rs =>
        cases tv with
        | c c =>
          simp only [argsIn] at h
          split at h
          · rename_i x r hx hrr
            injection h with h
            subst h
            simp only [inout] at h1
            simp only [outUpd] at h2
            obtain ⟨φ1, a1, a2, a3⟩ := args_ok hΓ hI hs hS (lo := lo) (hi := hi) hrr h1 h2 hnd (fun b hb => hr b (by cases c <;> simp only [reads] <;> first | exact hb | exact List.mem_append.2 (.inr hb))) hlow hlo hhi hl' hvs
            have hf := fnDen_ok hΓ hI hs hS hx hv0 (fun f caps he b hb => by
              subst he
              exact ⟨hr b (by simp only [reads]; exact List.mem_append.2 (.inl (List.mem_append.2 (.inl hb)))), fun E cs hL b' hb' => hr b' (by
                simp only [reads]
                refine List.mem_append.2 (.inl (List.mem_append.2 (.inr (List.mem_flatMap.2 ⟨b, hb, ?_⟩))))
                rw [hL]
                exact hb')⟩)
            exact skip rfl rfl hf a1 a2 (fun S w φ ⟨v', vs', e, h⟩ => by injection e with _ e; subst e; exact h) a3
          · cases h
        | _ => simp [argsIn] at h
      | arr k n =>
        cases tv with
        | arr k' n' ys =>
          simp only [argsIn] at h
          split at h
          · rename_i hc
            obtain ⟨rfl, rfl⟩ := hc
            split at h
            · rename_i r hrr
              injection h with h
              subst h
              simp only [inout] at h1
              simp only [outUpd] at h2
              obtain ⟨φ1, a1, a2, a3⟩ := args_ok hΓ hI hs hS (lo := lo) (hi := hi) hrr h1 h2 hnd (fun b hb => hr b (by simp only [reads]; exact hb)) hlow hlo hhi hl' hvs
              exact skip rfl rfl hv0 a1 a2 (fun S w φ ⟨v', vs', e, h⟩ => by injection e with _ e; subst e; exact h) a3
            · cases h
          · cases h
        | _ => simp [argsIn] at h
  | [], _ :: _, xs, ids, o, m, m', u, vals, h, h1, h2, hnd, hr, hlow, hlo, hhi, hl, hv => by simp [argsIn] at h
  | p :: ps, [], xs, ids, o, m, m', u, vals, h, h1, h2, hnd, hr, hlow, hlo, hhi, hl, hv => by cases p <;> simp [argsIn] at h
end
end Go.Proofs.Ytceffcfnjjlbkaa.E
