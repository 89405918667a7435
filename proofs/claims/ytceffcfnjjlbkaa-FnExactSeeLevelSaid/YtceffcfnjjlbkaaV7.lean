/- A typed evaluator for loaded code, 8: memory that a call has left; its results as blocks of one's own; one operation. -/
import Derived.Test.YtceffcfnjjlbkaaV6
namespace Go.Proofs.Ytceffcfnjjlbkaa.V
open Go.RowKit Go.Proofs.YtceffcfnjjlbkaaW.PrintWords Go.Proofs.YtceffcfnjjlbkaaW.PrintLast Go.Proofs.YtceffcfnjjlbkaaW.PrintMore
set_option linter.unusedVariables false
set_option linter.unusedSimpArgs false
section
variable {P : Program} {B : Nat} {wE : World} {C : Cx} {st : St} {a : Act}

/-- Memory has only grown. -/
theorem Rel.move (hR : Rel B wE C st a) {w' : World} (hb : Below C.w.heap.size C.w w') : Rel B wE { C with w := w' } st a ∧ Ext C { C with w := w' } := by
  have hE : Ext C { C with w := w' } := ⟨fun k hk => hb.block k (hR.inv.S_lt k hk), fun _ h => h, Nat.le_refl _, fun _ _ => rfl⟩
  refine ⟨⟨⟨hR.inv.len, below_then hR.inv.below hR.inv.base hb, Nat.le_trans hR.inv.base hb.size, hR.inv.S_base, fun k hk => Nat.lt_of_lt_of_le (hR.inv.S_lt k hk) hb.size, fun b lb hlb => ?_, hR.inv.disj⟩, hR.sz, tm_ext hE hR.tm, hR.df⟩, hE⟩
  have hRb := hR.inv.ok b lb hlb
  cases hal : lb.alive with
  | false => cases lb <;> first | trivial | cases hal
  | true => exact RL_ext hE (by rw [← hR.inv.len]; exact (List.getElem?_eq_some_iff.1 hlb).1) rfl hb.size (fun k hk => hb.block k (RL_lt hal hRb k hk)) (fun _ _ h => h) hRb
/-- None of these blocks is settled, none is a local block's. -/
def Free (C : Cx) (loc : List LB) (ψ : Nat → Prop) : Prop := (∀ k, ψ k → ¬ C.S k) ∧ ∀ b lb, loc[b]? = some lb → lb.alive = true → ∀ k, C.φ b k → ¬ ψ k
def Cx.add (C : Cx) (u : Value) (φ' : Nat → Prop) (S' : Nat → Prop) : Cx :=
  { w := C.w, N := C.N + 1, S := S', ρ := fun b => if b = C.N then u else C.ρ b, φ := fun b => if b = C.N then φ' else C.φ b }
theorem Rel.add (hR : Rel B wE C st a) {u : Value} {φ' S' : Nat → Prop} {lb : LB} (hS : ∀ k, C.S k → S' k) (hS' : ∀ k, S' k → C.S k ∨ φ' k) (hlt : ∀ k, S' k → k < C.w.heap.size) (hF : Free C st.loc φ') (hnew : RL B (C.add u φ' S') C.N lb) :
    Rel B wE (C.add u φ' S') (newBlk st lb) a ∧ Ext C (C.add u φ' S') := by
  have hE : Ext C (C.add u φ' S') := ⟨fun k _ => rfl, hS, Nat.le_succ _, fun b hb => by show (if b = C.N then _ else _) = _; rw [if_neg (by omega)]⟩
  have key : ∀ {b : Nat} {l : LB}, (st.loc ++ [lb])[b]? = some l → (b < C.N ∧ st.loc[b]? = some l ∧ (C.add u φ' S').φ b = C.φ b) ∨ (b = C.N ∧ l = lb ∧ (C.add u φ' S').φ b = φ') := by
    intro b l hb
    by_cases hlt : b < st.loc.length
    · rw [List.getElem?_append_left hlt] at hb
      exact .inl ⟨by rw [← hR.inv.len]; exact hlt, hb, by show (if b = C.N then _ else _) = _; rw [if_neg (by rw [← hR.inv.len]; omega)]⟩
    · rw [List.getElem?_append_right (by omega)] at hb
      have h0 := (List.getElem?_eq_some_iff.1 hb).1
      simp at h0
      rw [show b - st.loc.length = 0 by omega] at hb
      simp at hb
      have hbN : b = C.N := by rw [← hR.inv.len]; omega
      exact .inr ⟨hbN, hb.symm, by show (if b = C.N then _ else _) = _; rw [if_pos hbN]⟩
  refine ⟨⟨⟨by show (st.loc ++ [lb]).length = _; rw [List.length_append, hR.inv.len]; rfl, hR.inv.below, hR.inv.base, fun k hk => hS k (hR.inv.S_base k hk), hlt, fun b l hb => ?_, fun b b' l l' hne hb hb' ha ha' k hk hk' => ?_⟩, hR.sz, tm_ext hE hR.tm, hR.df⟩, hE⟩
  · rcases key hb with ⟨h1, h2, h3⟩ | ⟨h1, h2, h3⟩
    · have hRb := hR.inv.ok b l h2
      cases hal : l.alive with
      | false => cases l <;> first | trivial | cases hal
      | true =>
        refine RL_ext hE h1 h3 (Nat.le_refl _) (fun _ _ => rfl) (fun k hk hs => ?_) hRb
        rcases hS' k hs with h | h
        · exact h
        · exact absurd h (hF.2 b l h2 hal k hk)
    · rw [h1, h2]
      exact hnew
  · rcases key hb with ⟨h1, h2, h3⟩ | ⟨h1, h2, h3⟩ <;> rcases key hb' with ⟨h1', h2', h3'⟩ | ⟨h1', h2', h3'⟩
    · rw [h3] at hk
      rw [h3'] at hk'
      exact hR.inv.disj b b' l l' hne h2 h2' ha ha' k hk hk'
    · rw [h3] at hk
      rw [h3'] at hk'
      exact hF.2 b l h2 ha k hk hk'
    · rw [h3] at hk
      rw [h3'] at hk'
      exact hF.2 b' l' h2' ha' k hk' hk
    · exact hne (h1.trans h1'.symm)
/-- A new row. -/
theorem Rel.addRow (hR : Rel B wE C st a) {e : Nat} {t : Ty} {xs : List t.den} {v : Value} {φ : Nat → Prop} {B0 : Nat} (hB : B ≤ B0) (hS : Kd.S t.kd e C.w B0 φ v xs) (hF : Free C st.loc φ) :
    ∃ C', Rel B wE C' (newBlk st (.row e t xs)) a ∧ Ext C C' ∧ C'.w = C.w ∧ C'.N = C.N + 1 ∧ C'.ρ C.N = v ∧ ∀ ψ, Free C st.loc ψ → (∀ k, ψ k → ¬ φ k) → Free C' (newBlk st (.row e t xs)).loc ψ := by
  have hS1 := Kd.S_lower (Kd.S_bound hS) hB
  generalize hφ' : (fun k => φ k ∧ B0 ≤ k ∧ k < C.w.heap.size ∧ ∃ q, q ∈ e :: t.kd.E ∧ ∃ cells, C.w.heap[k]? = some (.cells cells q (0, 0))) = φ' at hS1
  have hle : ∀ k, φ' k → φ k := fun k hk => by rw [← hφ'] at hk; exact hk.1
  have hlt : ∀ k, φ' k → k < C.w.heap.size := fun k hk => by rw [← hφ'] at hk; exact hk.2.2.1
  have hF' : Free C st.loc φ' := ⟨fun k hk => hF.1 k (hle k hk), fun b lb hb ha k hk hk' => hF.2 b lb hb ha k hk (hle k hk')⟩
  have hρ : (C.add v φ' (fun k => C.S k ∨ (φ' k ∧ v.ownBlock ≠ some k))).ρ C.N = v := by show (if C.N = C.N then _ else _) = _; rw [if_pos rfl]
  have hφN : (C.add v φ' (fun k => C.S k ∨ (φ' k ∧ v.ownBlock ≠ some k))).φ C.N = φ' := by show (if C.N = C.N then _ else _) = _; rw [if_pos rfl]
  have hown : ∀ k, v.ownBlock = some k → φ' k := by
    obtain ⟨f, hR', _⟩ := hS1
    exact hR'
  obtain ⟨h1, h2⟩ := hR.add (u := v) (φ' := φ') (S' := fun k => C.S k ∨ (φ' k ∧ v.ownBlock ≠ some k)) (lb := .row e t xs) (fun _ h => .inl h) (fun k h => h.imp id (·.1)) (fun k h => h.elim (hR.inv.S_lt k) (fun h => hlt k h.1)) hF' (by
    show _ ∧ _ ∧ _ ∧ _
    rw [hρ, hφN]
    exact ⟨hS1, hlt, fun k hk hs => hs.elim (hF'.1 k (hown k hk)) (fun h => h.2 hk), fun k hk hne => .inr ⟨hk, hne⟩⟩)
  refine ⟨_, h1, h2, rfl, rfl, hρ, fun ψ hψ hd => ⟨fun k hk hs => hs.elim (hψ.1 k hk) (fun h => hd k hk (hle k h.1)), fun b lb hb ha k hk hk' => ?_⟩⟩
  by_cases hlt' : b < st.loc.length
  · have hb' : st.loc[b]? = some lb := by
      have : (st.loc ++ [LB.row e t xs])[b]? = some lb := hb
      rwa [List.getElem?_append_left hlt'] at this
    have hφb : (C.add v φ' (fun k => C.S k ∨ (φ' k ∧ v.ownBlock ≠ some k))).φ b = C.φ b := by show (if b = C.N then _ else _) = _; rw [if_neg (by rw [← hR.inv.len]; omega)]
    rw [hφb] at hk
    exact hψ.2 b lb hb' ha k hk hk'
  · have hb' : (st.loc ++ [LB.row e t xs])[b]? = some lb := hb
    have h0 := (List.getElem?_eq_some_iff.1 hb').1
    simp at h0
    have hbN : b = C.N := by rw [← hR.inv.len]; omega
    rw [hbN, hφN] at hk
    exact hd k hk' (hle k hk)
theorem newBlks (st : St) (l l' : List LB) : ({ st with loc := st.loc ++ (l ++ l') } : St) = { ({ st with loc := st.loc ++ l } : St) with loc := (st.loc ++ l) ++ l' } := by
  simp
/-- New data, as blocks of one's own. -/
theorem thaw_ok {B0 : Nat} (hB : B ≤ B0) : ∀ {t : Ty} {φ : Nat → Prop} {x : t.den} {cs : List Value} {C : Cx} {st : St}, Fresh C.w B0 t φ x cs → Rel B wE C st a → Free C st.loc φ →
    ∃ C', Rel B wE C' { st with loc := st.loc ++ (thaw t x C.N).2 } a ∧ Ext C C' ∧ C'.w = C.w ∧ C'.N = C.N + (thaw t x C.N).2.length ∧ RCs C' (thaw t x C.N).1 cs ∧ ∀ ψ, Free C st.loc ψ → (∀ k, ψ k → ¬ φ k) → Free C' (st.loc ++ (thaw t x C.N).2) ψ
  | .int k, φ, x, cs, C, st, hf, hR, hF => ⟨C, by simpa [thaw] using hR, Ext.refl C, rfl, rfl, by rw [show cs = _ from hf]; exact RCs_one rfl, fun ψ hψ _ => by simpa [thaw] using hψ⟩
  | .bool, φ, x, cs, C, st, hf, hR, hF => ⟨C, by simpa [thaw] using hR, Ext.refl C, rfl, rfl, by rw [show cs = _ from hf]; exact RCs_one rfl, fun ψ hψ _ => by simpa [thaw] using hψ⟩
  | .str, φ, x, cs, C, st, hf, hR, hF => ⟨C, by simpa [thaw] using hR, Ext.refl C, rfl, rfl, by rw [show cs = _ from hf]; exact RCs_one rfl, fun ψ hψ _ => by simpa [thaw] using hψ⟩
  | .sl e t, φ, x, cs, C, st, hf, hR, hF => by
    obtain ⟨v, rfl, hS⟩ := hf
    obtain ⟨C', h1, h2, h3, h4, h5, h6⟩ := hR.addRow hB hS hF
    obtain ⟨A, c, hv, _⟩ := Kd.S_reads hS
    exact ⟨C', h1, h2, h3, h4, RCs_one ⟨by rw [h4]; exact Nat.lt_succ_self _, h5.symm, A, _, c, hv⟩, h6⟩
  | .pair p q, φ, x, cs, C, st, hf, hR, hF => by
    obtain ⟨c0, c1, φ0, φ1, rfl, hf0, hf1, hs0, hs1, hd⟩ := hf
    obtain ⟨C1, h1, h2, h3, h4, h5, h6⟩ := thaw_ok hB hf0 hR ⟨fun k hk => hF.1 k (hs0 k hk), fun b lb hb ha k hk hk' => hF.2 b lb hb ha k hk (hs0 k hk')⟩
    have hF1 : Free C st.loc φ1 := ⟨fun k hk => hF.1 k (hs1 k hk), fun b lb hb ha k hk hk' => hF.2 b lb hb ha k hk (hs1 k hk')⟩
    rw [← h3] at hf1
    obtain ⟨C2, k1, k2, k3, k4, k5, k6⟩ := thaw_ok hB hf1 h1 (h6 φ1 hF1 (fun k hk1 hk0 => hd k hk0 hk1))
    rw [h4] at k1 k4 k5 k6
    refine ⟨C2, ?_, h2.trans k2, k3.trans h3, ?_, ?_, fun ψ hψ hdψ => ?_⟩
    · show Rel B wE C2 { st with loc := st.loc ++ ((thaw p x.1 C.N).2 ++ (thaw q x.2 (C.N + (thaw p x.1 C.N).2.length)).2) } a
      rw [newBlks]
      exact k1
    · show C2.N = C.N + ((thaw p x.1 C.N).2 ++ (thaw q x.2 (C.N + (thaw p x.1 C.N).2.length)).2).length
      rw [List.length_append, k4]
      omega
    · exact RCs_append (RCs_ext k2 h5) k5
    · show Free C2 (st.loc ++ ((thaw p x.1 C.N).2 ++ (thaw q x.2 (C.N + (thaw p x.1 C.N).2.length)).2)) ψ
      rw [← List.append_assoc]
      exact k6 ψ (h6 ψ hψ (fun k hk h0 => hdψ k hk (hs0 k h0))) (fun k hk h1 => hdψ k hk (hs1 k h1))
theorem thaws_ok {B0 : Nat} (hB : B ≤ B0) : ∀ {rs : List PK} {φ : Nat → Prop} {x : dens rs} {us : List Value} {C : Cx} {st : St}, Freshs C.w B0 rs φ x us → Rel B wE C st a → Free C st.loc φ →
    ∃ C', Rel B wE C' { st with loc := st.loc ++ (thaws rs x C.N).2 } a ∧ Ext C C' ∧ C'.w = C.w ∧ (thaws rs x C.N).1.length = us.length ∧ ∀ (j : Nat) y u, (thaws rs x C.N).1[j]? = some y → us[j]? = some u → R1 C' y u
  | [], φ, x, us, C, st, hf, hR, hF => ⟨C, by simpa [thaws] using hR, Ext.refl C, rfl, by rw [show us = _ from hf]; rfl, fun j y u hj => by simp [thaws] at hj⟩
  | p :: rs, φ, x, us, C, st, hf, hR, hF => by
    obtain ⟨v, vs', cs, φ0, φ1, rfl, hp, hf0, hf1, hs0, hs1, hd⟩ := hf
    obtain ⟨C1, h1, h2, h3, h4, h5, h6⟩ := thaw_ok hB hf0 hR ⟨fun k hk => hF.1 k (hs0 k hk), fun b lb hb ha k hk hk' => hF.2 b lb hb ha k hk (hs0 k hk')⟩
    have hF1 : Free C st.loc φ1 := ⟨fun k hk => hF.1 k (hs1 k hk), fun b lb hb ha k hk hk' => hF.2 b lb hb ha k hk (hs1 k hk')⟩
    rw [← h3] at hf1
    obtain ⟨C2, k1, k2, k3, k4, k5⟩ := thaws_ok hB hf1 h1 (h6 φ1 hF1 (fun k hk1 hk0 => hd k hk0 hk1))
    rw [h4] at k1 k4 k5
    refine ⟨C2, ?_, h2.trans k2, k3.trans h3, ?_, fun j y u hj hu => ?_⟩
    · show Rel B wE C2 { st with loc := st.loc ++ ((thaw p.2 x.1 C.N).2 ++ (thaws rs x.2 (C.N + (thaw p.2 x.1 C.N).2.length)).2) } a
      rw [newBlks]
      exact k1
    · simp only [thaws, List.length_cons]
      rw [k4]
    · cases j with
      | zero =>
        simp only [thaws, List.getElem?_cons_zero, Option.some.injEq] at hj hu
        subst hj; subst hu
        exact ⟨cs, RCs_ext k2 h5, hp⟩
      | succ j =>
        simp only [thaws, List.getElem?_cons_succ] at hj hu
        exact k5 j y u hj hu
end
end Go.Proofs.Ytceffcfnjjlbkaa.V
