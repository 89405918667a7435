/- A typed evaluator for loaded code, 9: every operation that the evaluator carries out is carried out so by the machine. -/
import Derived.Test.YtceffcfnjjlbkaaV7
namespace Go.Proofs.Ytceffcfnjjlbkaa.V
open Go.RowKit Go.Proofs.YtceffcfnjjlbkaaW.PrintWords Go.Proofs.YtceffcfnjjlbkaaW.PrintLast Go.Proofs.YtceffcfnjjlbkaaW.PrintMore
set_option linter.unusedVariables false
set_option linter.unusedSimpArgs false
section
variable {P : Program} {Γ : Nat → Option Sig} {B : Nat} {wE : World} {C : Cx} {st : St} {a : Act} {R : Type} {K : St → Option R} {r : R} {o : Oper} {next : Act → World → Prop} {Q : Exit → Act → World → Prop}

theorem args_ok (hR : Rel B wE C st a) {l : List Operand} {tvs : List TV} (h : evOs st l = some tvs) : tvs.length = (l.map a.eval).length ∧ ∀ (j : Nat) (tv : TV) (v : Value), tvs[j]? = some tv → (l.map a.eval)[j]? = some v → RV C tv v := by
  obtain ⟨h1, h2⟩ := evOs_ok hR h
  refine ⟨by simp [h1], fun j tv v hj hv => ?_⟩
  rw [List.getElem?_map] at hv
  obtain ⟨x, hx, rfl⟩ := Option.map_eq_some_iff.1 hv
  exact h2 j tv x hj hx
theorem packRes_ok {l : List (Bool × List CV)} {tv : TV} (h : packRes l = some tv) {us : List Value} (hl : l.length = us.length) (hr : ∀ (j : Nat) y u, l[j]? = some y → us[j]? = some u → R1 C y u) {e : Ending} (he : Ret us e) : ∃ v, e = .returned v ∧ RV C tv v := by
  unfold packRes at h
  split at h
  · rename_i g cs
    match us, hl with
    | [u], _ =>
      obtain ⟨vs, hvs, hp⟩ := hr 0 (g, cs) u rfl rfl
      obtain ⟨v, hv, hrv⟩ := tvOf_ok h hvs
      have huv : v = u := by
        cases g with
        | true =>
          simp only [if_true] at hv hp
          rw [hv, hp]
        | false =>
          simp only [Bool.false_eq_true, if_false] at hv hp
          rw [hv] at hp
          injection hp
      rcases he with ⟨v', h1, h2⟩ | ⟨h1, _⟩
      · injection h1 with h1 _
        subst h1
        exact ⟨u, h2, huv ▸ hrv⟩
      · exact absurd rfl h1
  · rename_i hne
    injection h with h
    subst h
    rcases he with ⟨v', h1, h2⟩ | ⟨h1, h2⟩
    · subst h1
      match l, hl with
      | [(g, cs)], _ => exact absurd rfl (hne g cs)
    · exact ⟨_, h2, us, rfl, hl, hr⟩
theorem run_call_value {c : Call} {f : Operand} (hop : o.op = .call c) (hc : c.callee = .value f) {g : Nat} (hf : a.eval f = .func (.func g) #[] #[]) {s : Sig} (hs : FnOk P g s) (w : World) :
    (execOp a.eval o).run P w = .ok (.enter g (c.args.map a.eval)) w := by
  unfold execOp
  simp only [hop, resolve, hc, Deferred.ofValue, hf, Sem.run_bind, Sem.run_pure, Result.andThen_ok, invoke]
  have := hs.enter (#[] ++ c.args.map a.eval ++ #[]) w
  simpa using this
theorem run_call_builtin {c : Call} {b : Builtin} (hop : o.op = .call c) (hc : c.callee = .builtin b) (w : World) :
    (execOp a.eval o).run P w = (builtin b c.argTypes o.type (c.args.map fun | .const _ => true | _ => false) (c.args.map a.eval)).run P w := by
  unfold execOp
  simp only [hop, resolve, hc, Sem.run_bind, Sem.run_pure, Result.andThen_ok, invoke]
  rfl
theorem Rel.putC (hR : Rel B wE C st a) {d : Option Nat} {c : CV} {v : Value} (h : RC C c v) : Rel B wE C (st.put d (.c c)) (a.put d v) := hR.put (tv := .c c) h
theorem newVar_run (T : Nat) (v : Value) (w : World) : (newVar T v).run P w = .ok ⟨w.heap.size, 0, none⟩ (w.alloc (.cells v.cells T)) := rfl
theorem Rel.putInt (hR : Rel B wE C st a) (d : Option Nat) (k : IntKind) (n : Int) : Rel B wE C (st.put d (.c (.int k n))) (a.put d (.int k n)) := hR.put (tv := .c (.int k n)) rfl

theorem Fresh_ge {w : World} {B0 : Nat} : ∀ {t : Ty} {φ : Nat → Prop} {x : t.den} {cs : List Value}, Fresh w B0 t φ x cs → Fresh w B0 t (fun k => φ k ∧ B0 ≤ k) x cs
  | .int k, φ, x, cs, h => h
  | .bool, φ, x, cs, h => h
  | .str, φ, x, cs, h => h
  | .sl e t, φ, xs, cs, h => by
    obtain ⟨v, h1, h2⟩ := h
    exact ⟨v, h1, Kd.S_mono (Kd.S_bound h2) (fun k hk => ⟨hk.1, hk.2.1⟩)⟩
  | .pair p q, φ, x, cs, h => by
    obtain ⟨c0, c1, φ0, φ1, h0, h1, h2, h3, h4, h5⟩ := h
    exact ⟨c0, c1, _, _, h0, Fresh_ge h1, Fresh_ge h2, fun k hk => ⟨h3 k hk.1, hk.2⟩, fun k hk => ⟨h4 k hk.1, hk.2⟩, fun k hk hk' => h5 k hk.1 hk'.1⟩
theorem Freshs_ge' {w : World} {B0 : Nat} : ∀ {rs : List PK} {φ : Nat → Prop} {x : dens rs} {us : List Value}, Freshs w B0 rs φ x us → Freshs w B0 rs (fun k => φ k ∧ B0 ≤ k) x us
  | [], φ, x, us, h => h
  | p :: rs, φ, x, us, h => by
    obtain ⟨v, vs', cs, φ0, φ1, h0, h1, h2, h3, h4, h5, h6⟩ := h
    exact ⟨v, vs', cs, _, _, h0, h1, Fresh_ge h2, Freshs_ge' h3, fun k hk => ⟨h4 k hk.1, hk.2⟩, fun k hk => ⟨h5 k hk.1, hk.2⟩, fun k hk hk' => h6 k hk.1 hk'.1⟩
theorem Freshs_ge {w : World} {B0 : Nat} {rs : List PK} {φ : Nat → Prop} {x : dens rs} {us : List Value} (h : Freshs w B0 rs φ x us) : ∃ φ', Freshs w B0 rs φ' x us ∧ ∀ k, φ' k → B0 ≤ k := ⟨_, Freshs_ge' h, fun _ hk => hk.2⟩

set_option maxHeartbeats 1000000 in
theorem evOp_ok (hΓ : ∀ g s, Γ g = some s → FnOk P g s) (hR : Rel B wE C st a) (h : evOp P Γ o st K = some r)
    (hK : ∀ C' st' a', Ext C C' → Rel B wE C' st' a' → K st' = some r → next a' C'.w) : o.wp P a C.w next Q := by
  unfold evOp at h
  split at h
  · -- move
    rename_i x hop
    split at h
    · rename_i v hv
      exact wp_val (v := a.eval x) (by unfold execOp; simp only [hop, Sem.run_pure]) (hK C _ _ (Ext.refl C) (hR.put (evO_ok hR hv)) h)
    · cases h
  · -- assign
    rename_i x hop
    split at h
    · rename_i v hv
      exact wp_val (v := a.eval x) (by unfold execOp; simp only [hop, Sem.run_pure]) (hK C _ _ (Ext.refl C) (hR.put (evO_ok hR hv)) h)
    · cases h
  · -- pick
    rename_i c x y hop
    split at h
    · rename_i t va vb hc hx hy
      have hc' : a.eval c = .bool t := evO_ok hR hc
      split at h
      · rename_i ht
        subst ht
        exact wp_val (v := a.eval x) (by unfold execOp; simp only [hop, hc', asBool, Sem.run_bind, Sem.run_pure, Result.andThen_ok, if_true]) (hK C _ _ (Ext.refl C) (hR.put (evO_ok hR hx)) h)
      · rename_i ht
        have ht : t = false := by simpa using ht
        subst ht
        exact wp_val (v := a.eval y) (by unfold execOp; simp only [hop, hc', asBool, Sem.run_bind, Sem.run_pure, Result.andThen_ok, Bool.false_eq_true, if_false]) (hK C _ _ (Ext.refl C) (hR.put (evO_ok hR hy)) h)
    · cases h
  · -- binOp
    rename_i op T x y yt hop
    split at h
    · rename_i cx cy hx hy
      have hx' := evO_ok hR hx
      have hy' := evO_ok hR hy
      split at h
      · rename_i k p k' q
        have hx'' : a.eval x = .int k p := hx'
        have hy'' : a.eval y = .int k' q := hy'
        split at h
        · rename_i hk
          subst hk
          split at h
          · cases h
          · rename_i hq
            refine wp_val (v := .int k (k.wrap (p.tdiv q))) ?_ (hK C _ _ (Ext.refl C) (hR.putInt _ _ _) h)
            unfold execOp
            simp only [hop, hx'', hy'', Sem.run_bind, guard_int, Result.andThen_ok]
            simp [binOp, Op.intDiv, hq, Sem.run_pure]
        · cases h
      · rename_i k p k' q
        have hx'' : a.eval x = .int k p := hx'
        have hy'' : a.eval y = .int k' q := hy'
        split at h
        · rename_i hk
          subst hk
          split at h
          · cases h
          · rename_i hq
            refine wp_val (v := .int k (p.tmod q)) ?_ (hK C _ _ (Ext.refl C) (hR.putInt _ _ _) h)
            unfold execOp
            simp only [hop, hx'', hy'', Sem.run_bind, guard_int, Result.andThen_ok]
            simp [binOp, Op.intDiv, hq, Sem.run_pure]
        · cases h
      · rename_i k p k' q
        have hx'' : a.eval x = .int k p := hx'
        have hy'' : a.eval y = .int k' q := hy'
        split at h
        · cases h
        · rename_i hq
          refine wp_val (v := .int k (k.wrap (p * 2 ^ min q.toNat k.bits))) ?_ (hK C _ _ (Ext.refl C) (hR.putInt _ _ _) h)
          unfold execOp
          simp only [hop, hx'', hy'', Sem.run_bind, guard_int, Result.andThen_ok]
          simp [binOp, Op.shift, hq, Sem.run_pure]
      · rename_i k p k' q
        have hx'' : a.eval x = .int k p := hx'
        have hy'' : a.eval y = .int k' q := hy'
        split at h
        · cases h
        · rename_i hq
          refine wp_val (v := .int k (p.fdiv (2 ^ min q.toNat k.bits))) ?_ (hK C _ _ (Ext.refl C) (hR.putInt _ _ _) h)
          unfold execOp
          simp only [hop, hx'', hy'', Sem.run_bind, guard_int, Result.andThen_ok]
          simp [binOp, Op.shift, hq, Sem.run_pure]
      · split at h
        · rename_i c hc
          obtain ⟨z, hz, hrun⟩ := evBin_run hc x y hx' hy' C.w
          refine wp_val (v := z) ?_ (hK C _ _ (Ext.refl C) (hR.putC hz) h)
          unfold execOp
          simp only [hop]
          rw [Sem.run_bind, hrun]
          rfl
        · cases h
    · cases h
  · -- unOp
    rename_i op T x hop
    split at h
    · rename_i cx hx
      split at h
      · rename_i c hc
        obtain ⟨z, hz, hrun⟩ := evUn_run (P := P) hc (evO_ok hR hx) C.w
        refine wp_val (v := z) ?_ (hK C _ _ (Ext.refl C) (hR.putC hz) h)
        unfold execOp
        simp only [hop]
        rw [Sem.run_bind, hrun]
        rfl
      · cases h
    · cases h
  · -- extract
    rename_i t j hop
    split at h
    · rename_i vs ht
      obtain ⟨us, hu, hl, hr⟩ := evO_ok hR ht
      split at h
      · rename_i g cs hj
        split at h
        · rename_i v hv
          have hju : j < us.length := by rw [← hl]; exact (List.getElem?_eq_some_iff.1 hj).1
          obtain ⟨seg, hseg, hp⟩ := hr j (g, cs) us[j] hj (List.getElem?_eq_getElem hju)
          obtain ⟨v', hv', hrv⟩ := tvOf_ok hv hseg
          have huv : v' = us[j] := by
            cases g with
            | true =>
              simp only [if_true] at hv' hp
              rw [hv', hp]
            | false =>
              simp only [Bool.false_eq_true, if_false] at hv' hp
              rw [hv'] at hp
              injection hp
          refine wp_val (v := us[j]) ?_ (hK C _ _ (Ext.refl C) (hR.put (huv ▸ hrv)) h)
          unfold execOp
          simp only [hop, hu, Instr.extract, Sem.run_bind]
          simp [hju, Sem.run_pure]
        · cases h
      · cases h
    · cases h
  · -- alloc
    rename_i T hop
    split at h
    · rename_i cs hcs
      obtain ⟨z, hz, hzr⟩ := zeroC_ok hcs
      obtain ⟨C', h1, h2, h3, h4, h5⟩ := hR.newCells (T := T) hz
      rw [← hR.inv.len] at h5
      refine wp_val (v := .pointer (some ⟨C.w.heap.size, 0, none⟩)) (w' := C'.w) ?_ (hK C' _ _ h2 (h1.putC (c := .ptr st.loc.length 0) ⟨by rw [h4, ← hR.inv.len]; exact Nat.lt_succ_self _, _, h5, rfl⟩) h)
      unfold execOp
      simp only [hop, Instr.alloc, Sem.run_bind, hzr C.w, Result.andThen_ok, newVar_run, Sem.run_pure, h3]
    · cases h
  · -- box
    rename_i T x hop
    split at h
    · rename_i v hv
      split at h
      · rename_i cs hcs
        split at h
        case isFalse => cases h
        rename_i hkn
        obtain ⟨seg, hseg, hvs⟩ := allCells_ok hcs (evO_ok hR hv) hkn
        obtain ⟨C', h1, h2, h3, h4, h5⟩ := hR.newCells (T := T) hseg
        rw [← hR.inv.len] at h5
        refine wp_val (v := .pointer (some ⟨C.w.heap.size, 0, none⟩)) (w' := C'.w) ?_ (hK C' _ _ h2 (h1.putC (c := .ptr st.loc.length 0) ⟨by rw [h4, ← hR.inv.len]; exact Nat.lt_succ_self _, _, h5, rfl⟩) h)
        unfold execOp
        simp only [hop, Instr.box, Sem.run_bind, newVar_run, Sem.run_pure, Result.andThen_ok, h3]
        rw [← hvs]
      · cases h
    · cases h
  · -- load
    rename_i T p hop
    split at h
    · rename_i cp hp
      split at h
      · rename_i v hv
        obtain ⟨z, hz, hrun⟩ := evLoad_ok hR hv (evO_ok hR hp)
        refine wp_val (v := z) ?_ (hK C _ _ (Ext.refl C) (hR.put hz) h)
        unfold execOp
        simp only [hop]
        rw [Sem.run_bind, hrun]
        rfl
      · cases h
    · cases h
  · -- store
    rename_i T p x hop
    split at h
    · rename_i cp v hp hx
      split at h
      · rename_i st' hst
        obtain ⟨C', h1, h2, hrun⟩ := evStore_ok hR hst (evO_ok hR hp) (evO_ok hR hx)
        refine wp_unit (w' := C'.w) ?_ (hK C' _ _ h2 (h1.un _ _) h)
        unfold execOp
        simp only [hop]
        rw [Sem.run_bind, hrun]
        rfl
      · cases h
    · cases h
  · -- fieldAddr
    rename_i T x j hop
    split at h
    · rename_i cx hx
      split at h
      · rename_i c hc
        obtain ⟨z, hz, hrun⟩ := evFieldAddr_ok hc (evO_ok hR hx) C.w
        refine wp_val (v := z) ?_ (hK C _ _ (Ext.refl C) (hR.putC hz) h)
        unfold execOp
        simp only [hop]
        rw [Sem.run_bind, hrun]
        rfl
      · cases h
    · cases h
  · -- field
    rename_i T x j hop
    split at h
    · rename_i vx hx
      split at h
      · rename_i v hv
        obtain ⟨z, hz, hrun⟩ := evField_ok hv (evO_ok hR hx) C.w
        refine wp_val (v := z) ?_ (hK C _ _ (Ext.refl C) (hR.put hz) h)
        unfold execOp
        simp only [hop]
        rw [Sem.run_bind, hrun]
        rfl
      · cases h
    · cases h
  · -- indexAddr
    rename_i T x i hop
    split at h
    · rename_i vx vi hx hi
      split at h
      · rename_i c hc
        obtain ⟨z, hz, hrun⟩ := evIndexAddr_ok hR hc (evO_ok hR hx) (evO_ok hR hi)
        refine wp_val (v := z) ?_ (hK C _ _ (Ext.refl C) (hR.putC hz) h)
        unfold execOp
        simp only [hop]
        rw [Sem.run_bind, hrun C.w]
        rfl
      · cases h
    · cases h
  · -- call
    rename_i c hop
    split at h
    · -- len
      rename_i hcal
      split at h
      · rename_i x T hargs hT
        split at h
        · rename_i n hn
          obtain ⟨hl, hr⟩ := args_ok hR hargs
          have hAT : c.argTypes = #[T] := by rw [← Array.toArray_toList (xs := c.argTypes), hT]
          obtain ⟨u, hu⟩ : ∃ u, c.args.toList.map a.eval = [u] := by
            match hm : c.args.toList.map a.eval, (by rw [← hl]; rfl : (c.args.toList.map a.eval).length = 1) with
            | [u], _ => exact ⟨u, rfl⟩
          have hA : c.args.map a.eval = #[u] := by
            rw [← Array.toArray_toList (xs := c.args.map a.eval), Array.toList_map, hu]
          have hxu : RC C x u := hr 0 (.c x) u rfl (by rw [hu]; rfl)
          refine wp_val (v := .int .i64 n) ?_ (hK C _ _ (Ext.refl C) (hR.putInt _ _ _) h)
          rw [run_call_builtin hop hcal, hAT, hA]
          exact evLen_ok hR hn hxu _ _ _
        · cases h
      · cases h
    · -- value
      rename_i f hcal
      split at h
      · rename_i g hf
        split at h
        · rename_i s hs
          split at h
          · rename_i tvs htvs
            split at h
            · rename_i xs hxs
              obtain ⟨rr, hrr, h⟩ := Option.bind_eq_some_iff.1 h
              split at h
              · rename_i v hv
                have hfn := hΓ g s hs
                obtain ⟨hl, hr⟩ := args_ok hR htvs
                have hA := unArgs_ok hR.inv hxs hl hr
                have hfe : a.eval f = .func (.func g) #[] #[] := evO_ok hR hf
                unfold Oper.wp
                rw [run_call_value hop hcal hfe hfn]
                have hcalls := hfn.calls xs rr hrr C.w _ hA
                have hargs : (c.args.toList.map a.eval).toArray = c.args.map a.eval := by
                  rw [← Array.toList_map, Array.toArray_toList]
                rw [hargs] at hcalls
                refine hcalls.mono fun e w' hpost => ?_
                obtain ⟨us, φ, hfr, hret, hb⟩ := hpost
                obtain ⟨hR', hE'⟩ := hR.move hb
                obtain ⟨φ', hfr', hge⟩ := Freshs_ge hfr
                have hfree : Free { C with w := w' } st.loc φ' :=
                  ⟨fun k hk hs => absurd (hR.inv.S_lt k hs) (by have := hge k hk; omega), fun b lb hb' ha k hk hk' => absurd (RL_lt ha (hR.inv.ok b lb hb') k hk) (by have := hge k hk'; omega)⟩
                obtain ⟨C', k1, k2, k3, k4, k5⟩ := thaws_ok (C := { C with w := w' }) hR.inv.base hfr' hR' hfree
                rw [show ({ C with w := w' } : Cx).N = st.loc.length from hR.inv.len.symm] at k1 k4 k5
                obtain ⟨v', rfl, hrv⟩ := packRes_ok hv k4 k5 hret
                have := hK C' _ _ (hE'.trans k2) (k1.put hrv) h
                rw [k3] at this
                exact this
              · cases h
            · cases h
          · cases h
        · cases h
      · cases h
    · cases h
  · cases h
end
end Go.Proofs.Ytceffcfnjjlbkaa.V
