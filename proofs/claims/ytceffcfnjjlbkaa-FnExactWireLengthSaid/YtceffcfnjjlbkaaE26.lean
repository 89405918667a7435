/- The evaluator, 26: at the head of a loop; the whole run. -/
import Derived.Test.YtceffcfnjjlbkaaE25
namespace Go.Proofs.Ytceffcfnjjlbkaa.E
open Go.RowKit
set_option linter.unusedVariables false
set_option linter.unusedSimpArgs false
section
variable {P : Program} {Γ : Nat → Option Sig} {M : Nat → Prop} {wE : World} {C : Cx} {st : St} {a : Act} {R : Type} {r : R}
theorem ixOf_ok {b : Nat} : ∀ {l : List Nat} {n c : Nat}, ixOf b l n = some c → n ≤ c ∧ l[c - n]? = some b
  | [], n, c, h => by cases h
  | x :: l, n, c, h => by
    simp only [ixOf] at h
    cases hb : Nat.beq b x with
    | true =>
      rw [hb] at h
      simp only [cond_true] at h
      injection h with h
      subst h
      exact ⟨Nat.le_refl _, by rw [Nat.sub_self, Nat.eq_of_beq_eq_true hb]; rfl⟩
    | false =>
      rw [hb] at h
      simp only [cond_false] at h
      obtain ⟨h1, h2⟩ := ixOf_ok h
      exact ⟨by omega, by rw [show c - n = (c - (n + 1)) + 1 by omega, List.getElem?_cons_succ]; exact h2⟩
def oldName (resv ord : List Nat) (c : Nat) : Nat := bif memB c resv then c else ord.getD (c - 19300000) 0
theorem old_new {resv ord : List Nat} (hr : ∀ b ∈ resv, b < 19300000) {b c : Nat} (h : newName resv ord b = some c) : oldName resv ord c = b ∧ b ∈ resv ++ ord := by
  unfold newName at h
  cases hb : memB b resv with
  | true =>
    rw [hb] at h
    simp only [cond_true] at h
    injection h with h
    subst h
    exact ⟨by unfold oldName; rw [hb]; rfl, List.mem_append.2 (.inl (memB_iff.1 hb))⟩
  | false =>
    rw [hb] at h
    simp only [cond_false] at h
    obtain ⟨h1, h2⟩ := ixOf_ok h
    have hc : memB c resv = false := by
      cases hm : memB c resv with
      | false => rfl
      | true => have := hr c (memB_iff.1 hm); omega
    refine ⟨by unfold oldName; rw [hc]; simp only [cond_false]; rw [List.getD_eq_getElem?_getD, h2]; rfl, List.mem_append.2 (.inr (List.mem_of_getElem? h2))⟩
def Cx.ren (C : Cx) (g : Nat → Nat) : Cx := { w := C.w, S := C.S, S0 := C.S0, ρ := fun c => C.ρ (g c), φ := fun c => C.φ (g c) }
theorem renL_alive (loc : Loc) (f : Nat → Option Nat) (lb : LB) : (renL loc f lb).alive = lb.alive := by cases lb <;> rfl
/-- What the new names are. -/
structure Ren (loc : Loc) (f : Nat → Option Nat) (g : Nat → Nat) (loc' : Loc) : Prop where
  inv : ∀ b c, f b = some c → g c = b
  to : ∀ b c lb, f b = some c → lget loc b = some lb → lget loc' c = some (renL loc f lb)
  of : ∀ c lb', lget loc' c = some lb' → ∃ b lb, f b = some c ∧ lget loc b = some lb ∧ lb' = renL loc f lb
theorem renLoc_ren {loc : Loc} {f : Nat → Option Nat} {g : Nat → Nat} (hi : ∀ b c, f b = some c → g c = b) : ∀ (l : List Nat), (∀ b c lb, b ∈ l → f b = some c → lget loc b = some lb → lget (renLoc loc f l) c = some (renL loc f lb)) ∧ (∀ c lb', lget (renLoc loc f l) c = some lb' → ∃ b lb, f b = some c ∧ lget loc b = some lb ∧ lb' = renL loc f lb)
  | [] => ⟨(fun b c lb hb => by cases hb), (fun c lb' h => by cases h)⟩
  | x :: l => by
    obtain ⟨h1, h2⟩ := renLoc_ren hi l
    cases hx : f x with
    | none =>
      simp only [renLoc, hx]
      refine ⟨fun b c lb hb hf hl => ?_, h2⟩
      rcases List.mem_cons.1 hb with rfl | hb
      · rw [hx] at hf; cases hf
      · exact h1 b c lb hb hf hl
    | some y =>
      cases hlx : lget loc x with
      | none =>
        simp only [renLoc, hx, hlx]
        refine ⟨fun b c lb hb hf hl => ?_, h2⟩
        rcases List.mem_cons.1 hb with rfl | hb
        · rw [hlx] at hl; cases hl
        · exact h1 b c lb hb hf hl
      | some lx =>
        simp only [renLoc, hx, hlx, lget]
        refine ⟨fun b c lb hb hf hl => ?_, fun c lb' h => ?_⟩
        · cases hyc : Nat.beq y c with
          | true =>
            have := Nat.eq_of_beq_eq_true hyc
            subst this
            have hbx : b = x := (hi b y hf).symm.trans (hi x y hx)
            subst hbx
            rw [hlx] at hl
            injection hl with hl
            subst hl
            rfl
          | false =>
            simp only [cond_false]
            rcases List.mem_cons.1 hb with rfl | hb
            · rw [hx] at hf
              injection hf with hf
              rw [hf, Nat.beq_refl] at hyc
              cases hyc
            · exact h1 b c lb hb hf hl
        · cases hyc : Nat.beq y c with
          | true =>
            rw [hyc] at h
            simp only [cond_true] at h
            injection h with h
            subst h
            have := Nat.eq_of_beq_eq_true hyc
            subst this
            exact ⟨x, lx, hx, hlx, rfl⟩
          | false =>
            rw [hyc] at h
            exact h2 c lb' h
variable {loc loc' : Loc} {f : Nat → Option Nat} {g : Nat → Nat}
theorem renIds_ok : ∀ {caps cs : List Nat}, renIds f caps = some cs → cs.length = caps.length ∧ ∀ (j c : Nat), cs[j]? = some c → ∃ b, caps[j]? = some b ∧ f b = some c
  | [], cs, h => by
    simp only [renIds] at h
    injection h with h
    subst h
    exact ⟨rfl, fun j c hj => by simp at hj⟩
  | b :: caps, cs, h => by
    simp only [renIds] at h
    split at h
    · rename_i c r hc hr
      injection h with h
      subst h
      obtain ⟨h1, h2⟩ := renIds_ok hr
      refine ⟨by simp [h1], fun j c' hj => ?_⟩
      cases j with
      | zero =>
        simp only [List.getElem?_cons_zero, Option.some.injEq] at hj
        subst hj
        exact ⟨b, rfl, hc⟩
      | succ j => simpa using h2 j c' (by simpa using hj)
    · cases h
theorem RC_ren (hr : Ren loc f g loc') {x : CV} {v : Value} (h : RC P C loc x v) : RC P (C.ren g) loc' (renC loc f x) v := by
  have key : ∀ {b c : Nat} {lb : LB}, f b = some c → lget loc b = some lb → lget loc' c = some (renL loc f lb) ∧ (C.ren g).ρ c = C.ρ b ∧ (C.ren g).φ c = C.φ b := fun {b c lb} hf hl => ⟨hr.to b c lb hf hl, by show C.ρ (g c) = _; rw [hr.inv b c hf], by show C.φ (g c) = _; rw [hr.inv b c hf]⟩
  cases x with
  | own b =>
    simp only [renC]
    split
    · rename_i c hf
      obtain ⟨lb, h1, h2, h3⟩ := h
      obtain ⟨k1, k2, k3⟩ := key hf h1
      exact ⟨_, k1, h2, fun ha => by rw [renL_alive] at ha; rw [k2]; exact h3 ha⟩
    · trivial
  | sub b sz lo hi =>
    simp only [renC]
    split
    · rename_i c hf
      obtain ⟨lb, h1, h2, h3⟩ := h
      obtain ⟨k1, k2, k3⟩ := key hf h1
      exact ⟨_, k1, h2, fun ha => by rw [renL_alive] at ha; rw [k2]; exact h3 ha⟩
    · trivial
  | inn b ep p e t xs =>
    simp only [renC]
    split
    · rename_i c d0 ep0 e0 t0 ys0 hf hl
      split
      · rename_i hep
        subst hep
        obtain ⟨lb, h1, h2, h3⟩ := h
        rw [hl] at h1
        injection h1 with h1
        subst h1
        obtain ⟨k1, k2, k3⟩ := key hf hl
        obtain ⟨_, h4⟩ := h3 _ _ _ _ _ rfl
        obtain ⟨h5, h6⟩ := h4 rfl
        refine ⟨_, k1, h2, fun d' ep' e' t' ys' he => ⟨Nat.zero_le _, fun _ => ⟨?_, fun q hq => ?_⟩⟩⟩
        · refine Rd.mono (fun k hk => ?_) (fun _ _ => rfl) h5
          rcases hk with hk | hk
          · exact .inl hk
          · exact .inr ⟨by rw [k3]; exact hk.1, by rw [k2]; exact hk.2⟩
        · obtain ⟨q1, q2, q3, q4, q5, q6, q7, q8, q9⟩ := h6 q hq
          exact ⟨q1, q2, q3, q4, by rw [k2]; exact q5, by rw [k3]; exact q6, q7, q8, q9⟩
      · trivial
    · trivial
  | ptr b off =>
    simp only [renC]
    split
    · rename_i c hf
      obtain ⟨lb, h1, h2, h3⟩ := h
      obtain ⟨k1, k2, k3⟩ := key hf h1
      exact ⟨_, k1, h2, fun ha => by rw [renL_alive] at ha; rw [k2]; exact h3 ha⟩
    · trivial
  | eptr b sz i off =>
    simp only [renC]
    split
    · rename_i c hf
      obtain ⟨lb, h1, h2, h3⟩ := h
      obtain ⟨k1, k2, k3⟩ := key hf h1
      exact ⟨_, k1, h2, fun ha => by rw [renL_alive] at ha; rw [k2]; exact h3 ha⟩
    · trivial
  | aptr b n i =>
    simp only [renC]
    split
    · rename_i c hf
      obtain ⟨lb, h1, h2, h3⟩ := h
      obtain ⟨k1, k2, k3⟩ := key hf h1
      exact ⟨_, k1, h2, fun ha => by rw [renL_alive] at ha; rw [k2]; exact h3 ha⟩
    · trivial
  | mp b =>
    simp only [renC]
    split
    · rename_i c hf
      obtain ⟨lb, h1, h2, h3⟩ := h
      obtain ⟨k1, k2, k3⟩ := key hf h1
      exact ⟨_, k1, h2, fun ha => by rw [renL_alive] at ha; rw [k2]; exact h3 ha⟩
    · trivial
  | clo fn caps =>
    simp only [renC]
    split
    · rename_i cs hcs
      obtain ⟨hl, hget⟩ := renIds_ok hcs
      obtain ⟨us, h1, h2, h3⟩ := h
      refine ⟨us, h1, by rw [h2, hl], fun j c u hj hu => ?_⟩
      obtain ⟨b, hb, hf⟩ := hget j c hj
      obtain ⟨lb, q1, q2, q3⟩ := h3 j b u hb hu
      obtain ⟨k1, k2, k3⟩ := key hf q1
      exact ⟨_, k1, q2, fun ha => by rw [renL_alive] at ha; rw [k2]; exact q3 ha⟩
    · trivial
  | _ => exact h
theorem renCs_length : ∀ cs : List CV, (renCs loc f cs).length = cs.length
  | [] => rfl
  | c :: cs => by simp [renCs, renCs_length cs]
theorem renCs_get : ∀ (cs : List CV) (j : Nat), (renCs loc f cs)[j]? = (cs[j]?).map (renC loc f)
  | [], j => by simp [renCs]
  | c :: cs, 0 => rfl
  | c :: cs, j + 1 => by simp [renCs, renCs_get cs j]
theorem RCs_ren (hr : Ren loc f g loc') {cs : List CV} {vs : List Value} (h : RCs P C loc cs vs) : RCs P (C.ren g) loc' (renCs loc f cs) vs := by
  refine ⟨by rw [renCs_length]; exact h.1, fun j c v hc hv => ?_⟩
  rw [renCs_get] at hc
  obtain ⟨x, hx, rfl⟩ := Option.map_eq_some_iff.1 hc
  exact RC_ren hr (h.2 j x v hx hv)
theorem RV_ren (hr : Ren loc f g loc') {x : TV} {v : Value} (h : RV P C loc x v) : RV P (C.ren g) loc' (renT loc f x) v := by
  cases x with
  | c x => exact RC_ren hr h
  | agg cs =>
    obtain ⟨vs, h1, h2⟩ := h
    exact ⟨vs, RCs_ren hr h1, h2⟩
  | arr k n xs => exact h
  | tup xs => trivial
theorem sparse_length : ∀ (n i : Nat) (l : List (Nat × TV)), (sparse n i l).length = n
  | 0, i, l => rfl
  | n + 1, i, [] => by simp [sparse, sparse_length n]
  | n + 1, i, x :: l => by
    simp only [sparse]
    cases Nat.beq x.1 i <;> simp [sparse_length n]
theorem sparse_get : ∀ (n i j : Nat) (l : List (Nat × TV)) (v : TV), (sparse n i l)[j]? = some v → v = .c .un ∨ (i + j, v) ∈ l
  | 0, i, j, l, v, h => by simp [sparse] at h
  | n + 1, i, 0, [], v, h => by
    simp only [sparse, List.getElem?_cons_zero, Option.some.injEq] at h
    exact .inl h.symm
  | n + 1, i, j + 1, [], v, h => by
    simp only [sparse, List.getElem?_cons_succ] at h
    rcases sparse_get n (i + 1) j [] v h with h | h
    · exact .inl h
    · cases h
  | n + 1, i, j, x :: l, v, h => by
    simp only [sparse] at h
    cases hb : Nat.beq x.1 i with
    | true =>
      rw [hb] at h
      simp only [cond_true] at h
      have hx := Nat.eq_of_beq_eq_true hb
      cases j with
      | zero =>
        simp only [List.getElem?_cons_zero, Option.some.injEq] at h
        subst h
        exact .inr (by rw [Nat.add_zero, ← hx]; exact List.mem_cons_self ..)
      | succ j =>
        simp only [List.getElem?_cons_succ] at h
        rcases sparse_get n (i + 1) j l v h with h | h
        · exact .inl h
        · exact .inr (List.mem_cons_of_mem _ (by rw [show i + (j + 1) = i + 1 + j by omega]; exact h))
    | false =>
      rw [hb] at h
      simp only [cond_false] at h
      cases j with
      | zero =>
        simp only [List.getElem?_cons_zero, Option.some.injEq] at h
        exact .inl h.symm
      | succ j =>
        simp only [List.getElem?_cons_succ] at h
        rcases sparse_get n (i + 1) j (x :: l) v h with h | h
        · exact .inl h
        · exact .inr (by rw [show i + (j + 1) = i + 1 + j by omega]; exact h)
theorem keptOf_ok {tm : List TV} : ∀ {l : List Nat} {s : Nat} {v : TV}, (s, v) ∈ keptOf tm l → tget tm s = some v
  | [], s, v, h => by cases h
  | x :: l, s, v, h => by
    simp only [keptOf] at h
    split at h
    · exact keptOf_ok h
    · rename_i u hu _
      rcases List.mem_cons.1 h with h | h
      · injection h with h1 h2
        subst h1; subst h2
        assumption
      · exact keptOf_ok h
    · exact keptOf_ok h
theorem renKept_ok : ∀ {l : List (Nat × TV)} {s : Nat} {v : TV}, (s, v) ∈ renKept loc f l → ∃ u, (s, u) ∈ l ∧ v = renT loc f u
  | [], s, v, h => by cases h
  | x :: l, s, v, h => by
    rcases List.mem_cons.1 h with h | h
    · injection h with h1 h2
      subst h1; subst h2
      exact ⟨x.2, List.mem_cons_self .., rfl⟩
    · obtain ⟨u, h1, h2⟩ := renKept_ok h
      exact ⟨u, List.mem_cons_of_mem _ h1, h2⟩
/-- What holds from the start on: what was read is there, and the caller's names mean what they meant. -/
structure Kp (C0 : Cx) (resv : List Nat) (C : Cx) (loc : Loc) : Prop where
  S : ∀ k, C0.S k → C.S k
  S0 : C.S0 = C0.S0
  ρ : ∀ b ∈ resv, ∃ lb, lget loc b = some lb ∧ (lb.alive = true → C.ρ b = C0.ρ b)
theorem Kp.carries (C0 : Cx) (resv : List Nat) : Carries (Kp C0 resv) := fun C C' l l' h hE => by
  refine ⟨fun k hk => hE.S k (h.S k hk), hE.S0.trans h.S0, fun b hb => ?_⟩
  obtain ⟨lb, h1, h2⟩ := h.ρ b hb
  obtain ⟨lb', h3, h4⟩ := hE.ids b lb h1
  exact ⟨lb', h3, fun ha => by obtain ⟨q1, q2, _⟩ := h4 ha; rw [q2]; exact h2 q1⟩
theorem clean_ok {C0 : Cx} {resv : List Nat} (hr : ∀ b ∈ resv, b < 19300000) (hp : Kp C0 resv C st.loc) (hR : Rel P M wE C st a) (keep : List Nat) : ∃ C', Rel P M wE C' (clean resv keep st) a ∧ C'.w = C.w ∧ Kp C0 resv C' (clean resv keep st).loc := by
  unfold clean
  simp only
  generalize reach st.loc resv 2000 (refsLs (lget st.loc) resv ++ refsK (keptOf st.tm keep)) [] = ord
  have hinv : ∀ b c, newName resv ord b = some c → oldName resv ord c = b := fun b c h => (old_new hr h).1
  obtain ⟨h1, h2⟩ := renLoc_ren (loc := st.loc) hinv (resv ++ ord)
  have hren : Ren st.loc (newName resv ord) (oldName resv ord) (renLoc st.loc (newName resv ord) (resv ++ ord)) := ⟨hinv, fun b c lb hf hl => h1 b c lb (old_new hr hf).2 hf hl, h2⟩
  refine ⟨C.ren (oldName resv ord), ⟨⟨hR.inv.os, hR.inv.tape, hR.inv.output, hR.inv.size, hR.inv.kept, hR.inv.S_lt, hR.inv.old, fun c lb hc ha => ?_, fun c lb' hc => ?_, fun c c' lb lb' hne hc hc' ha ha' => ?_⟩, by rw [sparse_length]; exact hR.sz, fun i tv hi => ?_, hR.df⟩, rfl, ⟨hp.S, hp.S0, fun b hb => ?_⟩⟩
  · obtain ⟨b, lb0, q1, q2, rfl⟩ := hren.of c lb hc
    rw [renL_alive] at ha
    show ∀ k, C.φ (oldName resv ord c) k → _
    rw [hinv b c q1]
    exact hR.inv.own b lb0 q2 ha
  · obtain ⟨b, lb0, q1, q2, rfl⟩ := hren.of c lb' hc
    have hok := hR.inv.ok b lb0 q2
    show RLv P _ _ (C.ρ (oldName resv ord c)) (C.φ (oldName resv ord c)) _
    rw [hinv b c q1]
    cases lb0 with
    | cells T cs =>
      obtain ⟨gg, vs, k1, k2, k3, k4⟩ := hok
      exact ⟨gg, vs, k1, k2, k3, RCs_ren hren k4⟩
    | row d ep e t xs =>
      cases d with
      | true => exact hok
      | false => exact hok
    | _ => exact hok
  · obtain ⟨b, lb0, q1, q2, rfl⟩ := hren.of c lb hc
    obtain ⟨b', lb0', q1', q2', rfl⟩ := hren.of c' lb' hc'
    rw [renL_alive] at ha ha'
    show ∀ k, C.φ (oldName resv ord c) k → ¬ C.φ (oldName resv ord c') k
    rw [hinv b c q1, hinv b' c' q1']
    exact hR.inv.disj b b' lb0 lb0' (fun he => hne (by rw [he, q1'] at q1; injection q1 with q1; exact q1.symm)) q2 q2' ha ha'
  · rcases sparse_get _ _ _ _ _ hi with rfl | hi
    · trivial
    · rw [Nat.zero_add] at hi
      obtain ⟨u, hu, rfl⟩ := renKept_ok hi
      have := keptOf_ok hu
      rw [tget_eq] at this
      exact RV_ren hren (hR.tm i u this)
  · obtain ⟨lb, q1, q2⟩ := hp.ρ b hb
    have hf : newName resv ord b = some b := by unfold newName; rw [memB_iff.2 hb]; rfl
    refine ⟨_, hren.to b b lb hf q1, fun ha => ?_⟩
    rw [renL_alive] at ha
    show C.ρ (oldName resv ord b) = _
    rw [hinv b b hf]
    exact q2 ha
theorem run_ok {f : Nat} {Rt : Ending → World → Prop} (hΓ : ∀ g s, Γ g = some s → FnOk P g s) {fn : Func} (hf : P.funcs[f]? = some fn) {fi : St → Option R} {cut : Nat → Bool} {keep : Nat → List Nat} {C0 : Cx} {resv : List Nat} (hr : ∀ b ∈ resv, b < 19300000)
    (hfin : ∀ C st a, Kp C0 resv C st.loc → Rel P M wE C st a → fi st = some r → Ends P fn Rt a C.w) : ∀ (j : Nat) (todo : List Item) (st : St) (C : Cx) (a : Act), Kp C0 resv C st.loc → Rel P M wE C st a → run P Γ fi cut resv keep j todo st = some r → Goes P f Rt (arr todo) a C.w := by
  intro j
  induction j with
  | zero => intro todo st C a hp hR h; simp [run] at h
  | succ j ih =>
    intro todo st C a hp hR h
    simp only [run] at h
    refine seg_ok (Kp.carries C0 resv) hΓ hf hfin (fun C st a todo hp hR h => ?_) 2000 true (arr todo) _ C a hp hR h
    obtain ⟨C', hR', hw, hp'⟩ := clean_ok hr hp hR (keep (keyOf todo))
    rw [← hw]
    exact ih todo _ C' a hp' hR' h
end
end Go.Proofs.Ytceffcfnjjlbkaa.E
