/- A typed evaluator for loaded code, 7: functions' contracts; data handed over, data that comes back as blocks of one's own. -/
import Derived.Test.YtceffcfnjjlbkaaV5
namespace Go.Proofs.Ytceffcfnjjlbkaa.V
open Go.RowKit Go.Proofs.YtceffcfnjjlbkaaW.PrintWords Go.Proofs.YtceffcfnjjlbkaaW.PrintLast Go.Proofs.YtceffcfnjjlbkaaW.PrintMore
set_option linter.unusedVariables false
set_option linter.unusedSimpArgs false

/-- New data: its rows lie in blocks of φ, from B on; no two of its parts share a block. -/
def Fresh (w : World) (B : Nat) : (t : Ty) → (Nat → Prop) → t.den → List Value → Prop
  | .int k, _, n, cs => cs = [.int k n]
  | .bool, _, b, cs => cs = [.bool b]
  | .str, _, s, cs => cs = [.string s]
  | .sl e t, φ, xs, cs => ∃ v, cs = [v] ∧ Kd.S t.kd e w B φ v xs
  | .pair a b, φ, x, cs => ∃ c0 c1 φ0 φ1, cs = c0 ++ c1 ∧ Fresh w B a φ0 x.1 c0 ∧ Fresh w B b φ1 x.2 c1 ∧ (∀ k, φ0 k → φ k) ∧ (∀ k, φ1 k → φ k) ∧ ∀ k, φ0 k → ¬ φ1 k
def Pack (g : Bool) (cs : List Value) (v : Value) : Prop := if g = true then v = .agg cs.toArray else cs = [v]
def Freshs (w : World) (B : Nat) : (rs : List PK) → (Nat → Prop) → dens rs → List Value → Prop
  | [], _, _, vs => vs = []
  | p :: rs, φ, x, vs => ∃ v vs' cs φ0 φ1, vs = v :: vs' ∧ Pack p.1 cs v ∧ Fresh w B p.2 φ0 x.1 cs ∧ Freshs w B rs φ1 x.2 vs' ∧ (∀ k, φ0 k → φ k) ∧ (∀ k, φ1 k → φ k) ∧ ∀ k, φ0 k → ¬ φ1 k
def ArgsK (w : World) : (ps : List PK) → dens ps → List Value → Prop
  | [], _, vs => vs = []
  | p :: ps, x, vs => ∃ v vs' cs, vs = v :: vs' ∧ Pack p.1 cs v ∧ p.2.kd.K w x.1 cs ∧ ArgsK w ps x.2 vs'
def Ret (us : List Value) (e : Ending) : Prop := (∃ v, us = [v] ∧ e = .returned v) ∨ (us.length ≠ 1 ∧ e = .returned (.tuple us.toArray))
/-- What a function is proved to do: handed this data (read where it lies), it hands back that data, new; nothing that was there has changed. -/
structure FnOk (P : Program) (g : Nat) (s : Sig) : Prop where
  enter : ∀ args w, (callFunc g args).run P w = .ok (.enter g args) w
  calls : ∀ (xs : dens s.ps) (r : dens s.rs), s.F xs = some r → ∀ (w : World) (vs : List Value), ArgsK w s.ps xs vs →
    Calls P g vs.toArray w (fun e w' => ∃ us φ, Freshs w' w.heap.size s.rs φ r us ∧ Ret us e ∧ Below w.heap.size w w')

section
variable {P : Program} {B : Nat} {wE : World} {C : Cx} {st : St} {a : Act}

/-! ### data handed over -/
theorem RCs_cons {c : CV} {cs : List CV} {vs : List Value} (h : RCs C (c :: cs) vs) : ∃ v vs', vs = v :: vs' ∧ RC C c v ∧ RCs C cs vs' := by
  obtain ⟨hl, hr⟩ := h
  match vs, hl with
  | v :: vs', hl => exact ⟨v, vs', rfl, hr 0 c v rfl rfl, ⟨by simpa using hl, fun j c' v' hc hv => hr (j + 1) c' v' (by simpa using hc) (by simpa using hv)⟩⟩
theorem cast_ok {t t' : Ty} {xs : List t.den} {ys : List t'.den} (h : cast? (t := t) (t' := t') xs = some ys) : ∃ e : t = t', e ▸ xs = ys := by
  unfold cast? at h
  split at h
  · rename_i e
    injection h with h
    exact ⟨e, h⟩
  · cases h
theorem unflat_ok (hI : Inv B wE C st.loc) : ∀ {t : Ty} {cs : List CV} {x : t.den} {r : List CV}, unflat st.loc t cs = some (x, r) → ∀ {vs : List Value}, RCs C cs vs → ∃ c0 c1, vs = c0 ++ c1 ∧ t.kd.K C.w x c0 ∧ RCs C r c1
  | .int k, cs, x, r, h, vs, hv => by
    match cs, h with
    | .int k' n :: r', h =>
      simp only [unflat] at h
      split at h
      · rename_i hk
        injection h with h
        injection h with h1 h2
        subst hk; subst h1; subst h2
        obtain ⟨v, vs', rfl, hc, hr⟩ := RCs_cons hv
        exact ⟨[v], vs', rfl, by rw [show v = _ from hc]; rfl, hr⟩
      · cases h
    | [], h | .bool _ :: _, h | .str _ :: _, h | .bor _ _ _ :: _, h | .own _ :: _, h | .nil :: _, h | .ptr _ _ :: _, h | .eptr _ _ _ _ :: _, h | .bptr _ _ _ :: _, h | .fn _ :: _, h | .un :: _, h => simp [unflat] at h
  | .bool, cs, x, r, h, vs, hv => by
    match cs, h with
    | .bool b :: r', h =>
      simp only [unflat] at h
      injection h with h
      injection h with h1 h2
      subst h1; subst h2
      obtain ⟨v, vs', rfl, hc, hr⟩ := RCs_cons hv
      exact ⟨[v], vs', rfl, by rw [show v = _ from hc]; rfl, hr⟩
    | [], h | .int _ _ :: _, h | .str _ :: _, h | .bor _ _ _ :: _, h | .own _ :: _, h | .nil :: _, h | .ptr _ _ :: _, h | .eptr _ _ _ _ :: _, h | .bptr _ _ _ :: _, h | .fn _ :: _, h | .un :: _, h => simp [unflat] at h
  | .str, cs, x, r, h, vs, hv => by
    match cs, h with
    | .str b :: r', h =>
      simp only [unflat] at h
      injection h with h
      injection h with h1 h2
      subst h1; subst h2
      obtain ⟨v, vs', rfl, hc, hr⟩ := RCs_cons hv
      exact ⟨[v], vs', rfl, by rw [show v = _ from hc]; rfl, hr⟩
    | [], h | .int _ _ :: _, h | .bool _ :: _, h | .bor _ _ _ :: _, h | .own _ :: _, h | .nil :: _, h | .ptr _ _ :: _, h | .eptr _ _ _ _ :: _, h | .bptr _ _ _ :: _, h | .fn _ :: _, h | .un :: _, h => simp [unflat] at h
  | .sl e t, cs, x, r, h, vs, hv => by
    match cs, h with
    | .bor e' t' ys :: r', h =>
      simp only [unflat] at h
      obtain ⟨zs, hz, he⟩ := Option.map_eq_some_iff.1 h
      injection he with h1 h2
      subst h1; subst h2
      obtain ⟨ht, hzs⟩ := cast_ok hz
      subst ht
      simp only at hzs
      subst hzs
      obtain ⟨v, vs', rfl, hc, hr⟩ := RCs_cons hv
      obtain ⟨A, c, rfl, hl, hF⟩ := hc
      exact ⟨[_], vs', rfl, ⟨A, c, rfl, hl, Kd.F_now hF⟩, hr⟩
    | .own b :: r', h =>
      simp only [unflat] at h
      split at h
      · rename_i e' t' ys hb
        split at h
        case isFalse => cases h
        obtain ⟨zs, hz, he⟩ := Option.map_eq_some_iff.1 h
        injection he with h1 h2
        subst h1; subst h2
        obtain ⟨ht, hzs⟩ := cast_ok hz
        subst ht
        simp only at hzs
        subst hzs
        obtain ⟨v, vs', rfl, hc, hr⟩ := RCs_cons hv
        obtain ⟨hbN, hρ, _⟩ := hc
        obtain ⟨hS, _⟩ := hI.ok _ _ hb
        obtain ⟨A, c, he, hl, hC⟩ := Kd.S_reads hS
        exact ⟨[v], vs', rfl, ⟨A, c, by rw [hρ, he], hl, hC⟩, hr⟩
      · cases h
    | .nil :: r', h =>
      simp only [unflat] at h
      injection h with h
      injection h with h1 h2
      subst h1; subst h2
      obtain ⟨v, vs', rfl, hc, hr⟩ := RCs_cons hv
      exact ⟨[v], vs', rfl, ⟨none, 0, by rw [show v = _ from hc]; rfl, Nat.le_refl _, Kd.C_nil _ _⟩, hr⟩
    | [], h | .int _ _ :: _, h | .bool _ :: _, h | .str _ :: _, h | .ptr _ _ :: _, h | .eptr _ _ _ _ :: _, h | .bptr _ _ _ :: _, h | .fn _ :: _, h | .un :: _, h => simp [unflat] at h
  | .pair p q, cs, x, r, h, vs, hv => by
    simp only [unflat] at h
    split at h
    · rename_i x0 r0 h0
      split at h
      · rename_i y r1 h1
        injection h with h
        injection h with e1 e2
        subst e1; subst e2
        obtain ⟨c0, c1, rfl, k0, hr0⟩ := unflat_ok hI h0 hv
        obtain ⟨c2, c3, rfl, k1, hr1⟩ := unflat_ok hI h1 hr0
        exact ⟨c0 ++ c2, c3, by rw [List.append_assoc], ⟨c0, c2, rfl, k0, k1⟩, hr1⟩
      · cases h
    · cases h
theorem unArgs_ok (hI : Inv B wE C st.loc) : ∀ {ps : List PK} {tvs : List TV} {xs : dens ps}, unArgs st.loc ps tvs = some xs → ∀ {vs : List Value}, tvs.length = vs.length → (∀ (j : Nat) (tv : TV) (v : Value), tvs[j]? = some tv → vs[j]? = some v → RV C tv v) → ArgsK C.w ps xs vs
  | [], tvs, xs, h, vs, hl, hv => by
    match tvs, h with
    | [], _ => exact List.length_eq_zero_iff.1 hl.symm
  | p :: ps, tvs, xs, h, vs, hl, hv => by
    match tvs, h with
    | tv :: tvs, h =>
      simp only [unArgs] at h
      split at h
      · rename_i cs hcs
        split at h
        · rename_i x hx
          split at h
          · rename_i r hr
            injection h with h
            subst h
            match vs, hl with
            | v :: vs, hl =>
              obtain ⟨seg, hseg, hp⟩ := tvCells_ok hcs (hv 0 tv v rfl rfl)
              obtain ⟨c0, c1, he, hK, hr1⟩ := unflat_ok hI hx hseg
              have hc1 : c1 = [] := List.length_eq_zero_iff.1 hr1.1.symm
              subst hc1
              rw [List.append_nil] at he
              subst he
              exact ⟨v, vs, _, rfl, hp, hK, unArgs_ok hI hr (by simpa using hl) (fun j t u ht hu => hv (j + 1) t u (by simpa using ht) (by simpa using hu))⟩
          · cases h
        · cases h
      · cases h
end
end Go.Proofs.Ytceffcfnjjlbkaa.V
