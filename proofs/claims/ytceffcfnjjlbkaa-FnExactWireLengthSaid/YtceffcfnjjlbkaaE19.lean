/- The evaluator, 19: what it says of an operation is what the machine does. -/
import Derived.Test.YtceffcfnjjlbkaaE18
namespace Go.Proofs.Ytceffcfnjjlbkaa.E
open Go.RowKit
set_option linter.unusedVariables false
set_option linter.unusedSimpArgs false
section
variable {P : Program} {M : Nat → Prop} {wE : World} {C : Cx} {st : St} {a : Act} {T : Nat → Option TV} {L : Nat → Option LB} {Γ : Nat → Option Sig} {o : Oper}
theorem newVar_run (E : Nat) (v : Value) (w : World) : (newVar E v).run P w = .ok ⟨w.heap.size, 0, none⟩ (w.alloc (.cells v.cells E)) := rfl
theorem bounds_of (hR : Rel P M wE C st a) (hs : Sees T L st) {lo hi mx : Option Operand} {l h m : Option Int} (hl : intOp T lo = some l) (hh : intOp T hi = some h) (hm : intOp T mx = some m) {len cap : Nat}
    (hmh : m.isSome = true → h.isSome = true) (h0 : 0 ≤ l.getD 0) (h1 : l.getD 0 ≤ h.getD len) (h2 : h.getD len ≤ m.getD cap) (h3 : m.getD cap ≤ cap) (b : Bool) (w : World) :
    (Instr.sliceBounds b len cap (lo.map a.eval) (hi.map a.eval) (mx.map a.eval)).run P w = .ok ((l.getD 0).toNat, (h.getD len).toNat, (m.getD cap).toNat) w := by
  have key : ∀ {x : Option Operand} {n : Option Int}, intOp T x = some n → (x.map a.eval = none ∧ n = none) ∨ ∃ k m, x.map a.eval = some (.int k m) ∧ n = some m := fun {x n} hx => by
    rcases intOp_ok hR hs hx with ⟨rfl, rfl⟩ | ⟨y, k, m, rfl, rfl, hv⟩
    · exact .inl ⟨rfl, rfl⟩
    · exact .inr ⟨k, m, by simp [hv], rfl⟩
  exact sliceBounds_run (key hl) (key hh) (key hm) hmh h0 h1 h2 h3 b w
theorem evLen_nonneg (hR : Rel P M wE C st a) (hs : Sees T L st) {E e : Nat} (hu : P.underlying E = some (.slice e)) {c : CV} {n : Int} (h : evLen P L E c = some n) {v : Value} (hv : RC P C st.loc c v) : 0 ≤ n := by
  obtain ⟨A, m, cc, _, rfl, _⟩ := evLen_slice hR hs h (by simp [isSliceT, hu]) hv
  omega
theorem evSlice_cells {e : Nat} {lo hi : Int} {x c : CV} (h : evSlice P L e lo hi x = some c) : 0 < P.cellsOf e := by
  unfold evSlice at h
  split at h
  · rename_i t xs
    split at h
    · rename_i hc
      rw [hc]; exact sz_pos t
    · cases h
  · split at h
    · rename_i t xs hb
      split at h
      · rename_i hc
        rw [hc]; exact sz_pos t
      · cases h
    · rename_i t xs hb
      split at h
      · rename_i hc
        rw [hc]; exact sz_pos t
      · cases h
    · cases h
  · split at h
    · rename_i t xs hb
      split at h
      · rename_i hc
        rw [hc.1]; exact sz_pos t
      · cases h
    · cases h
  · split at h
    · assumption
    · cases h
  · cases h
/-- A part of a slice. -/
theorem slice_does (hR : Rel P M wE C st a) (hs : Sees T L st) {E e : Nat} {x : Operand} {lo hi mx : Option Operand} (hop : o.op = .slice E x lo hi mx) (hu : P.underlying E = some (.slice e)) {c r : CV} (hx : evO T x = some (.c c)) {l h m : Option Int} (hl : intOp T lo = some l) (hh : intOp T hi = some h) (hm : intOp T mx = some m)
    {n : Int} (hn : evLen P L E c = some n) (hr : evSlice P L e (l.getD 0) (h.getD n) c = some r) (hmh : m.isSome = true → h.isSome = true) (h0 : 0 ≤ l.getD 0) (h1 : l.getD 0 ≤ h.getD n) (h2 : h.getD n ≤ m.getD n) (h3 : m.getD n ≤ n) : Does P M wE C st a o ⟨.c r, []⟩ := by
  have hxv : RC P C st.loc c (a.eval x) := evO_ok hR hs hx
  obtain ⟨A, m', cap, hv, rfl, hcap, hall⟩ := evSlice_ok hR hs hu hr hn h0 h1 (by omega) hxv
  have hmc : h.getD (m' : Int) ≤ m.getD (cap : Int) ∧ m.getD (cap : Int) ≤ cap := by
    cases m with
    | none => simp only [Option.getD_none] at h2 ⊢; exact ⟨by omega, by omega⟩
    | some q => simp only [Option.getD_some] at h2 h3 ⊢; exact ⟨by omega, by omega⟩
  have hb := bounds_of (a := a) hR hs hl hh hm (len := m') (cap := cap) hmh h0 h1 hmc.1 hmc.2 true C.w
  refine Does.val hR (v := _) ?_ (hall (m.getD (cap : Int)).toNat ⟨by omega, by omega⟩)
  unfold execOp
  simp only [hop, Instr.sliceAt]
  rw [Sem.run_bind, hv]
  simp only [Sem.run_bind, run_underlying hu C.w, Result.andThen_ok]
  rw [slice_run hu (evSlice_cells hr) hb]
  rfl
set_option maxHeartbeats 2000000 in
theorem evEff_ok {R : Type} {nid : Nat} {K : Eff → Option R} {r : R} (hΓ : ∀ g s, Γ g = some s → FnOk P g s) (hR : Rel P M wE C st a) (hs : Sees T L st) (hfr : ∀ j, j < 64 → lget st.loc (64 * nid + j) = none) (h : evEff P Γ T L nid o K = some r) :
    ∃ eff, K eff = some r ∧ Does P M wE C st a o eff := by
  have hnb : lget st.loc (64 * nid) = none := hfr 0 (by omega)
  unfold evEff at h
  split at h
  · -- move
    rename_i x hop
    split at h
    · rename_i v hv
      exact ⟨_, h, Does.val hR (v := a.eval x) (by unfold execOp; simp only [hop, Sem.run_pure]) (evO_ok hR hs hv)⟩
    · cases h
  · -- assign
    rename_i x hop
    split at h
    · rename_i v hv
      exact ⟨_, h, Does.val hR (v := a.eval x) (by unfold execOp; simp only [hop, Sem.run_pure]) (evO_ok hR hs hv)⟩
    · cases h
  · -- pick
    rename_i c x y hop
    split at h
    · rename_i t va vb hc hx hy
      have hc' : a.eval c = .bool t := evO_ok hR hs hc
      split at h
      · rename_i ht
        subst ht
        exact ⟨_, h, Does.val hR (v := a.eval x) (by unfold execOp; simp only [hop, hc', asBool, Sem.run_bind, Sem.run_pure, Result.andThen_ok, if_true]) (evO_ok hR hs hx)⟩
      · rename_i ht
        have ht : t = false := by simpa using ht
        subst ht
        exact ⟨_, h, Does.val hR (v := a.eval y) (by unfold execOp; simp only [hop, hc', asBool, Sem.run_bind, Sem.run_pure, Result.andThen_ok, Bool.false_eq_true, if_false]) (evO_ok hR hs hy)⟩
    · cases h
  · -- binOp
    rename_i op E x y yt hop
    split at h
    · rename_i cx cy hx hy
      have hx' : RC P C st.loc cx (a.eval x) := evO_ok hR hs hx
      have hy' : RC P C st.loc cy (a.eval y) := evO_ok hR hs hy
      split at h
      · rename_i k p k' q
        have hx'' : a.eval x = .int k p := hx'
        have hy'' : a.eval y = .int k' q := hy'
        split at h
        · rename_i hk
          subst hk
          split at h
          · cases h
          · rename_i hq
            refine ⟨_, h, Does.val hR (v := .int k (k.wrap (p.tdiv q))) ?_ rfl⟩
            unfold execOp
            simp only [hop, hx'', hy'', Sem.run_bind, guard_int, Result.andThen_ok]
            simp [binOp, Op.intDiv, hq, Sem.run_pure]
        · cases h
      · rename_i k p k' q
        have hx'' : a.eval x = .int k p := hx'
        have hy'' : a.eval y = .int k' q := hy'
        split at h
        · rename_i hk
          subst hk
          split at h
          · cases h
          · rename_i hq
            refine ⟨_, h, Does.val hR (v := .int k (p.tmod q)) ?_ rfl⟩
            unfold execOp
            simp only [hop, hx'', hy'', Sem.run_bind, guard_int, Result.andThen_ok]
            simp [binOp, Op.intDiv, hq, Sem.run_pure]
        · cases h
      · rename_i k p k' q
        have hx'' : a.eval x = .int k p := hx'
        have hy'' : a.eval y = .int k' q := hy'
        split at h
        · cases h
        · rename_i hq
          refine ⟨_, h, Does.val hR (v := .int k (k.wrap (p * 2 ^ min q.toNat k.bits))) ?_ rfl⟩
          unfold execOp
          simp only [hop, hx'', hy'', Sem.run_bind, guard_int, Result.andThen_ok]
          simp [binOp, Op.shift, hq, Sem.run_pure]
      · rename_i k p k' q
        have hx'' : a.eval x = .int k p := hx'
        have hy'' : a.eval y = .int k' q := hy'
        split at h
        · cases h
        · rename_i hq
          refine ⟨_, h, Does.val hR (v := .int k (p.fdiv (2 ^ min q.toNat k.bits))) ?_ rfl⟩
          unfold execOp
          simp only [hop, hx'', hy'', Sem.run_bind, guard_int, Result.andThen_ok]
          simp [binOp, Op.shift, hq, Sem.run_pure]
      · split at h
        · rename_i c hc
          obtain ⟨z, hz, hrun⟩ := evBin_run hc x y hx' hy' C.w
          refine ⟨_, h, Does.val hR (v := z) ?_ hz⟩
          unfold execOp
          simp only [hop]
          rw [Sem.run_bind, hrun]
          rfl
        · cases h
    · cases h
  · -- unOp
    rename_i op E x hop
    split at h
    · rename_i cx hx
      split at h
      · rename_i c hc
        obtain ⟨z, hz, hrun⟩ := evUn_run (P := P) hc (evO_ok hR hs hx) C.w
        refine ⟨_, h, Does.val hR (v := z) ?_ hz⟩
        unfold execOp
        simp only [hop]
        rw [Sem.run_bind, hrun]
        rfl
      · cases h
    · cases h
  · -- extract
    rename_i t j hop
    split at h
    · rename_i vs ht
      obtain ⟨us, hu, hl, hr⟩ := evO_ok hR hs ht
      split at h
      · rename_i g cs hj
        split at h
        · rename_i v hv
          have hju : j < us.length := by rw [← hl]; exact (List.getElem?_eq_some_iff.1 hj).1
          obtain ⟨seg, hseg, hp⟩ := hr j (g, cs) us[j] hj (List.getElem?_eq_getElem hju)
          obtain ⟨v', hv', hrv⟩ := tvOf_ok hv hseg
          have huv : v' = us[j] := Pack_inj hv' hp
          refine ⟨_, h, Does.val hR (v := us[j]) ?_ (huv ▸ hrv)⟩
          unfold execOp
          simp only [hop, hu, Instr.extract, Sem.run_bind]
          simp [hju, Sem.run_pure]
        · cases h
      · cases h
    · cases h
  · -- alloc
    rename_i E hop
    split at h
    · rename_i k n htk
      split at h
      · rename_i cs hcs
        split at h
        · rename_i hall
          obtain ⟨hln, hall⟩ := hall
          obtain ⟨z, hzv, hzr⟩ := zeroC_ok hcs
          obtain ⟨i, hi, hiz, hsz, hzrun⟩ := zeroV_ok hzv
          have hz := hzr C st.loc
          have hcz : z.cells = ((List.replicate n (0 : Int)).map (Value.int k)).toArray := by
            apply Array.ext'
            simp only
            apply List.ext_getElem?
            intro j
            simp only [List.map_replicate, List.getElem?_replicate]
            by_cases hj : j < n
            · rw [if_pos hj]
              have hc : cs[j]? = some cs[j] := List.getElem?_eq_getElem (by omega)
              have hzl := hz.1
              have hzj : z.cells.toList[j]? = some z.cells.toList[j] := List.getElem?_eq_getElem (by omega)
              have hrc := hz.2 j _ _ hc hzj
              have hk := List.all_eq_true.1 hall cs[j] (List.getElem_mem _)
              rw [hzj]
              revert hrc hk
              generalize cs[j] = cj
              intro hrc hk
              cases cj <;> first | (cases hk; done) | skip
              rename_i k' m
              simp only [Bool.and_eq_true, decide_eq_true_eq] at hk
              obtain ⟨rfl, rfl⟩ := hk
              exact congrArg some hrc
            · rw [if_neg hj]
              exact List.getElem?_eq_none (by rw [← hz.1]; omega)
          refine ⟨_, h, Does.newArr hR hnb (by simp) ?_⟩
          unfold execOp
          simp only [hop, Instr.alloc, Sem.run_bind, hzrun C.w, Result.andThen_ok, newVar_run, Sem.run_pure, hcz]
        · cases h
      · cases h
    · split at h
      · rename_i cs hcs
        obtain ⟨z, hzv, hzr⟩ := zeroC_ok hcs
        obtain ⟨i, hi, hiz, hsz, hzrun⟩ := zeroV_ok hzv
        refine ⟨_, h, Does.newVar hR hnb (hzr C st.loc) ?_⟩
        unfold execOp
        simp only [hop, Instr.alloc, Sem.run_bind, hzrun C.w, Result.andThen_ok, newVar_run, Sem.run_pure, Array.toArray_toList]
      · cases h
    · cases h
  · -- box
    rename_i E x hop
    split at h
    · rename_i k n xs hx
      obtain ⟨hl, hv⟩ : xs.length = n ∧ a.eval x = .agg (xs.map (Value.int k)).toArray := evO_ok hR hs hx
      refine ⟨_, h, Does.newArr hR hnb hl ?_⟩
      unfold execOp
      simp only [hop, Instr.box, Sem.run_bind, hv, newVar_run, Sem.run_pure, Result.andThen_ok, Value.cells]
    · rename_i v hne hv
      split at h
      · rename_i cs hcs
        split at h
        · rename_i hkn
          refine ⟨_, h, Does.newVar hR hnb (RCs_one' hcs (evO_ok hR hs hv) hkn) ?_⟩
          unfold execOp
          simp only [hop, Instr.box, Sem.run_bind, newVar_run, Sem.run_pure, Result.andThen_ok, Array.toArray_toList]
        · cases h
      · cases h
    · cases h
  · -- build
    rename_i E parts hop
    split at h
    · rename_i ps cs htk hps hcs
      split at h
      · rename_i cs' hb
        split at h
        · rename_i hp
          obtain ⟨v, hv, hrun⟩ := build_run hR hs hps hcs hb hp
          refine ⟨_, h, Does.val hR (v := v) ?_ hv⟩
          unfold execOp
          simp only [hop]
          rw [Sem.run_bind, hrun]
          rfl
        · cases h
      · cases h
    · cases h
  · -- buildSlice
    rename_i E len parts hop
    exact evLit_ok hR hs hop hnb h
  · -- load
    rename_i E p hop
    split at h
    · rename_i cp hp
      split at h
      · rename_i v hv
        obtain ⟨z, hz, hrun⟩ := evLoad_ok hR hs hv (evO_ok hR hs hp)
        refine ⟨_, h, Does.val hR (v := z) ?_ hz⟩
        unfold execOp
        simp only [hop]
        rw [Sem.run_bind, hrun]
        rfl
      · cases h
    · cases h
  · -- store
    rename_i E p x hop
    split at h
    · rename_i cp v hp hx
      split at h
      · rename_i u hu
        obtain ⟨Es, w', rfl, hEO, hrun, hok⟩ := evStore_ok hR hs hu (evO_ok hR hs hp) (evO_ok hR hs hx)
        refine ⟨_, h, Does.unit hR (w' := w') ?_ hEO hok⟩
        unfold execOp
        simp only [hop]
        rw [Sem.run_bind, hrun]
        rfl
      · cases h
    · cases h
  · -- fieldAddr
    rename_i E x j hop
    split at h
    · rename_i cx hx
      split at h
      · rename_i c hc
        obtain ⟨z, hz, hrun⟩ := evFieldAddr_ok (P := P) hc (evO_ok hR hs hx)
        refine ⟨_, h, Does.val hR (v := z) ?_ hz⟩
        unfold execOp
        simp only [hop]
        rw [Sem.run_bind, hrun C.w]
        rfl
      · cases h
    · cases h
  · -- field
    rename_i E x j hop
    split at h
    · rename_i vx hx
      split at h
      · rename_i v hv
        obtain ⟨z, hz, hrun⟩ := evField_ok hv (evO_ok hR hs hx) C.w
        refine ⟨_, h, Does.val hR (v := z) ?_ hz⟩
        unfold execOp
        simp only [hop]
        rw [Sem.run_bind, hrun]
        rfl
      · cases h
    · cases h
  · -- indexAddr
    rename_i E x i hop
    split at h
    · rename_i vx vi hx hi
      split at h
      · rename_i c i' n hc
        split at h
        · rename_i h0
          split at h
          · rename_i h1
            obtain ⟨z, hz, hrun⟩ := evIndexAddr_ok hR hs hc h0 h1 (evO_ok hR hs hx) (evO_ok hR hs hi)
            refine ⟨_, h, Does.val hR (v := z) ?_ hz⟩
            unfold execOp
            simp only [hop]
            rw [Sem.run_bind, hrun C.w]
            rfl
          · cases h
        · cases h
      · cases h
    · cases h
  · -- index
    rename_i E x i hop
    split at h
    · rename_i n e k n' xs ki i' hu hx hi
      split at h
      · rename_i hc
        obtain ⟨rfl, hce, hcell⟩ := hc
        split at h
        · rename_i h0
          split at h
          · rename_i h1
            obtain ⟨hl, hv⟩ : xs.length = n ∧ a.eval x = .agg (xs.map (Value.int k)).toArray := evO_ok hR hs hx
            have hi' : a.eval i = .int ki i' := evO_ok hR hs hi
            obtain ⟨ii, hii⟩ := info_of_cells (P := P) (T := e) (by omega)
            have hlt : i'.toNat < xs.length := by omega
            refine ⟨_, h, Does.val hR (v := .int k (xs.getD i'.toNat 0)) ?_ rfl⟩
            unfold execOp
            simp only [hop, Instr.index, asIntOf, hv, hi', Sem.run_bind, Sem.run_pure, Result.andThen_ok, run_underlying hu C.w]
            rw [if_pos ⟨h0, by omega⟩]
            simp only [Sem.run_bind, size_run hii, Result.andThen_ok]
            have hag : ∀ w, (isAgg e).run P w = .ok false w := by
              unfold isCellT at hcell
              split at hcell
              · rename_i htk
                exact (tk_ok htk rfl).2
              · cases hcell
            have := part_run ⟨ii, hii⟩ hag (cs := xs.map (Value.int k)) (off := i'.toNat * P.cellsOf e) (v := .int k (xs.getD i'.toNat 0)) (by rw [hce, List.length_map]; omega) (by
              show _ = _
              rw [hce, Nat.mul_one, List.drop_eq_getElem_cons (by simpa using hlt)]
              simp [List.getElem?_eq_getElem hlt]) C.w
            rw [this]
            rfl
          · cases h
        · cases h
      · cases h
    · rename_i s ki i' hu hx hi
      split at h
      · rename_i h0
        split at h
        · rename_i h1
          have hv : a.eval x = .string s := evO_ok hR hs hx
          have hi' : a.eval i = .int ki i' := evO_ok hR hs hi
          refine ⟨_, h, Does.val hR (v := .int .u8 (bt s i')) ?_ rfl⟩
          unfold execOp
          simp only [hop, hv, hi', Sem.run_bind]
          rw [run_index_string C.w E s ki i' hu, dif_pos ⟨h0, h1⟩]
          have : i'.toNat < s.data.toList.length := by show _ < s.data.size; exact (by omega : i'.toNat < s.size)
          simp only [Result.andThen_ok, Sem.run_pure, bt]
          rw [List.getD_eq_getElem?_getD, List.getElem?_eq_getElem this]
          rfl
        · cases h
      · cases h
    · cases h
  · -- makeSlice
    rename_i E x y hop
    split at h
    · rename_i e t bytes hi
      split at h
      · rename_i n m z hn hm hz
        have hx : a.eval x = .int .i64 n := evO_ok hR hs hn
        have hy : a.eval y = .int .i64 m := evO_ok hR hs hm
        split at h
        · rename_i hxy
          have hy' : a.eval y = .int .i64 n := (sameOp_ok hxy).symm.trans hx
          split at h
          · rename_i h0
            split at h
            · rename_i hl
              exact ⟨_, h, make_ok hR hop hi hnb hx hy' hz h0 (by omega) hl⟩
            · cases h
          · cases h
        · split at h
          · rename_i h0
            split at h
            · rename_i h1
              split at h
              · rename_i hl
                exact ⟨_, h, make_ok hR hop hi hnb hx hy hz h0 h1 hl⟩
              · cases h
            · cases h
          · cases h
      · cases h
    · cases h
  · -- slice
    rename_i E x lo hi mx hop
    split at h
    · rename_i e c l hh m hu hx hl hhi hm
      split at h
      · rename_i n hn
        split at h
        · rename_i r' hr
          split at h
          · exact ⟨_, h, slice_does hR hs hop hu hx hl hhi hm hn hr (by simp) (by simp) (by simp; exact evLen_nonneg hR hs hu hn (evO_ok hR hs hx)) (by simp) (by simp)⟩
          · split at h
            · rename_i h0
              split at h
              · rename_i h1
                exact ⟨_, h, slice_does hR hs hop hu hx hl hhi hm hn hr (by simp) h0 h1 (by simp) (by simp)⟩
              · cases h
            · cases h
          · split at h
            · rename_i h0
              split at h
              · rename_i h1
                exact ⟨_, h, slice_does hR hs hop hu hx hl hhi hm hn hr (by simp) (by simp) h0 h1 (by simp)⟩
              · cases h
            · cases h
          · split at h
            · rename_i h0
              split at h
              · rename_i h1
                split at h
                · rename_i h2
                  exact ⟨_, h, slice_does hR hs hop hu hx hl hhi hm hn hr (by simp) h0 h1 h2 (by simp)⟩
                · cases h
              · cases h
            · cases h
          · split at h
            · rename_i h0
              split at h
              · rename_i h1
                split at h
                · rename_i h2
                  exact ⟨_, h, slice_does hR hs hop hu hx hl hhi hm hn hr (by simp) (by simp) h0 h1 h2⟩
                · cases h
              · cases h
            · cases h
          · split at h
            · rename_i h0
              split at h
              · rename_i h1
                split at h
                · rename_i h2
                  split at h
                  · rename_i h3
                    exact ⟨_, h, slice_does hR hs hop hu hx hl hhi hm hn hr (by simp) h0 h1 h2 h3⟩
                  · cases h
                · cases h
              · cases h
            · cases h
          · cases h
        · cases h
      · cases h
    · rename_i s lo' hi' hu hx hl hhi hm
      split at h
      · rename_i h0
        split at h
        · rename_i h1
          split at h
          · rename_i h2
            have hv : a.eval x = .string s := evO_ok hR hs hx
            have hb := bounds_of (a := a) hR hs hl hhi hm (len := s.size) (cap := s.size) (by simp) h0 h1 (by simpa using h2) (by simp) false C.w
            have hmx : mx.map a.eval = none := by
              rcases intOp_ok hR hs hm with ⟨rfl, _⟩ | ⟨_, _, _, _, hq, _⟩
              · rfl
              · cases hq
            rw [hmx] at hb
            refine ⟨_, h, Does.val hR (v := .string _) ?_ rfl⟩
            unfold execOp
            simp only [hop, Instr.sliceAt]
            rw [Sem.run_bind, hv, hmx]
            simp only [Sem.run_bind, run_underlying hu C.w, Result.andThen_ok]
            rw [slice_str_run hu hb]
            rfl
          · cases h
        · cases h
      · cases h
    · cases h
  · -- convert
    rename_i src dst x hop
    split at h
    · rename_i d k k' n hsrc hdst hx
      have hv : a.eval x = .int k' n := evO_ok hR hs hx
      refine ⟨_, h, Does.val hR (v := .int k (k.wrap n)) ?_ rfl⟩
      unfold execOp
      simp only [hop, convert, Sem.run_bind, run_underlying hsrc C.w, run_underlying hdst C.w, Result.andThen_ok, hv]
      cases d <;> simp [Conv.intToInt, Sem.run_pure]
    · cases h
  · -- makeFunc
    rename_i f fs cap hop
    split at h
    · rename_i hfs hcap
      refine ⟨_, h, Does.val hR (v := .func (.func f) #[] #[]) ?_ rfl⟩
      obtain ⟨hl, _⟩ := evOs_ok hR hs hcap
      have h1 : fs = #[] := by rw [← Array.toArray_toList (xs := fs), hfs]
      have h2 : cap = #[] := by
        apply Array.eq_empty_of_size_eq_zero
        simpa using hl.symm
      unfold execOp
      simp [hop, Instr.makeFunc, h1, h2, Sem.run_bind, Sem.run_pure, Result.andThen_ok]
    · rename_i vs _ hfs hcap
      split at h
      · rename_i ids hids
        obtain ⟨hl, hv⟩ := evOs_ok hR hs hcap
        obtain ⟨q1, q2⟩ := capIds_ok hids hl hv
        have h1 : fs = #[] := by rw [← Array.toArray_toList (xs := fs), hfs]
        refine ⟨_, h, Does.val hR (v := .func (.func f) #[] (cap.toList.map a.eval).toArray) ?_ ⟨_, rfl, q1, fun j b u hb hu => q2 j b u hb hu⟩⟩
        unfold execOp
        simp [hop, Instr.makeFunc, h1, Sem.run_bind, Sem.run_pure, Result.andThen_ok]
        rw [← Array.toList_map, Array.toArray_toList]
      · cases h
    · cases h
  · -- call
    rename_i c hop
    split at h
    · -- append
      rename_i hcal
      split at h
      · rename_i E E' s x hT hvs
        split at h
        · rename_i hEE
          subst hEE
          exact evAppend_ok hR hs hop hcal hT hvs hnb h
        · cases h
      · cases h
    · -- copy
      rename_i hcal
      split at h
      · rename_i E E' s x hT hvs
        split at h
        · rename_i hEE
          subst hEE
          exact evCopy_ok hR hs hop hcal hT hvs h
        · cases h
      · cases h
    · -- len
      rename_i hcal
      split at h
      · rename_i E x hT hvs
        split at h
        · rename_i n hn
          obtain ⟨hl, hr⟩ := evOs_ok hR hs hvs
          have hAT : c.argTypes = #[E] := by rw [← Array.toArray_toList (xs := c.argTypes), hT]
          obtain ⟨u, hu⟩ : ∃ u, c.args.toList.map a.eval = [u] := by
            match hm : c.args.toList.map a.eval, (by rw [← hl]; rfl : (c.args.toList.map a.eval).length = 1) with
            | [u], _ => exact ⟨u, rfl⟩
          have hA : c.args.map a.eval = #[u] := by
            rw [← Array.toArray_toList (xs := c.args.map a.eval), Array.toList_map, hu]
          have hxu : RC P C st.loc x u := hr 0 (.c x) u rfl (by rw [hu]; rfl)
          refine ⟨_, h, Does.val hR (v := .int .i64 n) ?_ rfl⟩
          rw [run_call_builtin hop hcal, hAT, hA]
          exact evLen_ok hR hs hn hxu _ _ _
        · cases h
      · cases h
    · -- max
      rename_i hcal
      split at h
      · rename_i vs hvs
        split at h
        · rename_i n l hn
          obtain ⟨hl, hr⟩ := evOs_ok hR hs hvs
          have hu : c.args.toList.map a.eval = (n :: l).map (Value.int .i64) := ints_ok hn hl hr
          refine ⟨_, h, Does.val hR (v := .int .i64 (l.foldl mx2 n)) ?_ rfl⟩
          rw [run_call_builtin hop hcal]
          have hA : (c.args.map a.eval).toList = Value.int .i64 n :: l.map (Value.int .i64) := by rw [Array.toList_map, hu]; rfl
          simp only [builtin, Builtin.max_, hA, Sem.run_bind]
          rw [max_fold]
          rfl
        · cases h
      · cases h
    · -- min
      rename_i hcal
      split at h
      · rename_i vs hvs
        split at h
        · rename_i n l hn
          obtain ⟨hl, hr⟩ := evOs_ok hR hs hvs
          have hu : c.args.toList.map a.eval = (n :: l).map (Value.int .i64) := ints_ok hn hl hr
          refine ⟨_, h, Does.val hR (v := .int .i64 (l.foldl mn2 n)) ?_ rfl⟩
          rw [run_call_builtin hop hcal]
          have hA : (c.args.map a.eval).toList = Value.int .i64 n :: l.map (Value.int .i64) := by rw [Array.toList_map, hu]; rfl
          simp only [builtin, Builtin.min_, hA, Sem.run_bind]
          rw [min_fold]
          rfl
        · cases h
      · cases h
    · -- value
      rename_i f hcal
      split at h
      · rename_i fc vs hf hvs
        exact evCall_ok hΓ hR hs hop hcal hfr hf hvs h
      · cases h
    · cases h
  · cases h
end
end Go.Proofs.Ytceffcfnjjlbkaa.E
