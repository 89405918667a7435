/- A typed evaluator for loaded code, 6: stores, elements' addresses, lengths; data handed to a function and data that comes back. -/
import Derived.Test.YtceffcfnjjlbkaaV4
import Derived.Conc.MuLone
namespace Go.Proofs.Ytceffcfnjjlbkaa.V
open Go.RowKit Go.Proofs.YtceffcfnjjlbkaaW.PrintWords Go.Proofs.YtceffcfnjjlbkaaW.PrintLast Go.Proofs.YtceffcfnjjlbkaaW.PrintMore
set_option linter.unusedVariables false
set_option linter.unusedSimpArgs false
section
variable {P : Program} {B : Nat} {wE : World} {C : Cx} {st : St} {a : Act}

/-! ### stores -/
theorem cells_toList {g : Bool} {v : Value} {seg : List Value} (h : if g = true then v = .agg seg.toArray else seg = [v]) (h1 : ∀ u ∈ seg, u.oneCell' = true) : v.cells.toList = seg := by
  cases g with
  | true =>
    simp only [if_true] at h
    subst h
    simp [Value.cells]
  | false =>
    simp only [Bool.false_eq_true, if_false] at h
    subst h
    have := h1 v (by simp)
    cases v <;> first | rfl | cases this
theorem RCs_all_one {cs : List CV} {vs : List Value} (h : RCs C cs vs) (hk : cs.all CV.known = true) : ∀ u ∈ vs, u.oneCell' = true := by
  intro u hu
  obtain ⟨j, hj, rfl⟩ := List.getElem_of_mem hu
  have hj' : j < cs.length := by rw [h.1]; exact hj
  exact RC_one (h.2 j _ _ (List.getElem?_eq_getElem hj') (List.getElem?_eq_getElem hj)) (List.all_eq_true.mp hk _ (List.getElem_mem hj'))
theorem store_run {T : Nat} {i : TypeInfo} (hi : P.info? T = some i) {g off : Nat} {cur : List Value} {e : Nat} {w : World} (hb : w.heap[g]? = some (.cells cur.toArray e (0, 0))) {seg : List Value} (hl : seg.length = P.cellsOf T) (hle : off + seg.length ≤ cur.length) {v : Value} (hv : v.cells.toList = seg) (h1 : ∀ u ∈ seg, u.oneCell' = true) :
    (Instr.storeAt T (.pointer (some ⟨g, off, none⟩)) v).run P w = .ok () (w.setCells g off seg) := by
  have h := run_storeCells_cells (P := P) g off seg 0 w (fun j hj => by rw [blk_cell hb]; simp; omega) (fun j _ => blk_frozen hb _) h1
  have hsz : v.cells.size = P.cellsOf T := by rw [← hl, ← hv]; simp
  simp only [Nat.add_zero] at h
  simp only [Instr.storeAt, Instr.sureAddr, storeVar, Sem.run_bind, Sem.run_pure, Result.andThen_ok, size_run hi]
  rw [if_neg (by simp [hsz])]
  rw [hv]
  exact h
theorem evStore_ok (hR : Rel B wE C st a) {T : Nat} {p : CV} {tv : TV} {st' : St} (h : evStore P st T p tv = some st') {u v : Value} (hp : RC C p u) (hv : RV C tv v) :
    ∃ C', Rel B wE C' st' a ∧ Ext C C' ∧ (Instr.storeAt T u v).run P C.w = .ok () C'.w := by
  unfold evStore at h
  split at h
  · rename_i g hg
    split at h
    · rename_i seg hseg
      split at h
      · rename_i hlk
        obtain ⟨hl, hkn⟩ := hlk
        split at h
        · rename_i b off
          split at h
          · rename_i T' cs hb
            split at h
            · rename_i hle
              injection h with h
              subst h
              obtain ⟨segv, hsv, hvv⟩ := tvCells_ok hseg hv
              have h1 := RCs_all_one hsv hkn
              obtain ⟨g', vs, e1, e2, e3, e4, e5, e6⟩ := hR.inv.ok _ _ hb
              obtain ⟨hbN, g'', hp1, rfl⟩ := hp
              rw [e1] at hp1
              injection hp1 with hp1
              injection hp1 with hp1
              injection hp1 with hp1
              subst hp1
              obtain ⟨⟨i, hi⟩, _⟩ := aggT_ok hg
              have hlv : segv.length = P.cellsOf T := by rw [← hsv.1]; exact hl
              have hlev : off + segv.length ≤ vs.length := by rw [← hsv.1, ← e6.1]; exact hle
              have hrun := store_run (v := v) hi e5 hlv hlev (cells_toList hvv h1) h1
              obtain ⟨cur', k1, k2, k3⟩ := setCells_row segv off C.w vs.toArray e5 (by simpa using hlev)
              obtain ⟨s1, s2, s3, s4⟩ := setCells_same g' segv off C.w
              have hE : Ext C { C with w := C.w.setCells g' off segv } := ⟨fun k hk => setCells_far segv off k (fun he => e3 (he ▸ hk)), fun _ h => h, Nat.le_refl _, fun _ _ => rfl⟩
              refine ⟨{ C with w := C.w.setCells g' off segv }, ⟨⟨?_, ?_, ?_, hR.inv.S_base, ?_, ?_, ?_⟩, hR.sz, tm_ext hE hR.tm, hR.df⟩, hE, hrun⟩
              · simpa using hR.inv.len
              · exact ⟨s1.trans hR.inv.below.os, s2.trans hR.inv.below.tape, s3.trans hR.inv.below.output, by rw [s4]; exact hR.inv.below.size, fun k hk => (setCells_far segv off k (by omega)).trans (hR.inv.below.block k hk)⟩
              · show B ≤ (C.w.setCells g' off segv).heap.size
                rw [s4]
                exact hR.inv.base
              · intro k hk
                show k < (C.w.setCells g' off segv).heap.size
                rw [s4]
                exact hR.inv.S_lt k hk
              · intro b' lb hb'
                by_cases hbb : b' = b
                · subst hbb
                  have hlt : b' < st.loc.length := (List.getElem?_eq_some_iff.1 hb).1
                  rw [List.getElem?_set_self hlt] at hb'
                  injection hb' with hb'
                  subst hb'
                  refine ⟨g', cur'.toList, e1, e2, e3, e4, by simpa using k1, ?_⟩
                  have h3 := RCs_append (RCs_append (RCs_seg e6 0 off) hsv) (RCs_seg e6 (off + seg.length) vs.length)
                  have q1 : ((vs.drop 0).take off ++ segv) ++ ((vs.drop (off + seg.length)).take vs.length) = cur'.toList := by
                    rw [k3, hsv.1, List.take_of_length_le (l := vs.drop (off + segv.length)) (by rw [List.length_drop]; omega)]
                    simp
                  have q2 : ((cs.drop 0).take off ++ seg) ++ ((cs.drop (off + seg.length)).take vs.length) = cs.take off ++ seg ++ cs.drop (off + seg.length) := by
                    rw [← e6.1, List.take_of_length_le (l := cs.drop (off + seg.length)) (by rw [List.length_drop]; omega)]
                    simp
                  rw [q1, q2] at h3
                  exact RCs_ext hE h3
                · rw [List.getElem?_set_ne (Ne.symm hbb)] at hb'
                  have hRb := hR.inv.ok _ _ hb'
                  cases hal : lb.alive with
                  | false => cases lb <;> first | trivial | cases hal
                  | true =>
                    have hne : ∀ k, C.φ b' k → k ≠ g' := fun k hk he => hR.inv.disj b' b lb _ hbb hb' hb hal rfl k hk ((e4 k).2 he)
                    exact RL_ext hE (by rw [← hR.inv.len]; exact (List.getElem?_eq_some_iff.1 hb').1) rfl (by rw [s4]; exact Nat.le_refl _) (fun k hk => setCells_far segv off k (hne k hk)) (fun _ _ h => h) hRb
              · intro b1 b2 l1 l2 hne h1' h2' a1 a2 k hk1 hk2
                have key : ∀ {b' : Nat} {l : LB}, (st.loc.set b (.cells T' (cs.take off ++ seg ++ cs.drop (off + seg.length))))[b']? = some l → l.alive = true → ∃ l', st.loc[b']? = some l' ∧ l'.alive = true := by
                  intro b' l hb' ha'
                  by_cases hbb : b' = b
                  · subst hbb
                    exact ⟨_, hb, rfl⟩
                  · rw [List.getElem?_set_ne (Ne.symm hbb)] at hb'
                    exact ⟨l, hb', ha'⟩
                obtain ⟨m1, n1, o1⟩ := key h1' a1
                obtain ⟨m2, n2, o2⟩ := key h2' a2
                exact hR.inv.disj b1 b2 m1 m2 hne n1 n2 o1 o2 k hk1 hk2
            · cases h
          · cases h
        · cases h
      · cases h
    · cases h
  · cases h

/-! ### elements' addresses; lengths -/
theorem evIndexAddr_ok (hR : Rel B wE C st a) {T : Nat} {x i : TV} {c : CV} (h : evIndexAddr P st T x i = some c) {u v : Value} (hx : RV C x u) (hi : RV C i v) : ∃ z, RC C c z ∧ ∀ w, (Instr.indexAt T u v).run P w = .ok z w := by
  unfold evIndexAddr at h
  split at h
  · rename_i e e' t xs k i hu
    split at h
    · rename_i hs
      split at h
      · rename_i h0
        split at h
        · rename_i h1
          injection h with h
          subst h
          obtain ⟨A, n, rfl, hl, hF⟩ := hx
          obtain rfl : v = .int k i := hi
          obtain ⟨ad, cc, rfl, hcl, hFK, hcc, hok⟩ := Kd.F_get hF t.z i h0 h1
          have hpos : 0 < t.kd.sz := by rw [kd_sz]; exact sz_pos t
          obtain ⟨ii, hii⟩ := info_of_cells (P := P) (T := e) (by rw [hs]; exact sz_pos t)
          refine ⟨.pointer (some (ad.add (i.toNat * t.sz))), ⟨ad.add (i.toNat * t.sz), cc, by rw [Addr.add_zero'], by rw [← kd_sz]; exact hcl, hFK, fun j y hj => ?_, by rw [add_block]; exact hok hpos⟩, fun w => ?_⟩
          · have := hcc j y hj
            rw [kd_sz] at this
            rw [add_add]
            exact this
          · simp only [Instr.indexAt, asIntOf, Sem.run_bind, Sem.run_pure, Result.andThen_ok, run_underlying hu w]
            rw [if_pos ⟨h0, h1⟩]
            simp only [Sem.run_bind, size_run hii w, Result.andThen_ok, Sem.run_pure, hs]
        · cases h
      · cases h
    · cases h
  · rename_i e b k i hu
    split at h
    · rename_i e' t xs hb
      split at h
      · rename_i hs
        split at h
        · rename_i h0
          split at h
          · rename_i h1
            injection h with h
            subst h
            obtain ⟨hbN, hρ, A, n, c, rfl⟩ := hx
            obtain rfl : v = .int k i := hi
            obtain ⟨hS, hlt, hown, hnest⟩ := hR.inv.ok _ _ hb
            obtain ⟨g, cap, hg, _⟩ := Kd.S_form hS (by omega)
            rw [← hρ] at hg
            injection hg with hA hn hc
            subst hA; subst hn; subst hc
            obtain ⟨ii, hii⟩ := info_of_cells (P := P) (T := e) (by rw [hs]; exact sz_pos t)
            refine ⟨.pointer (some ⟨g, i.toNat * t.sz + 0, none⟩), ⟨hbN, g, _, _, hρ.symm, rfl⟩, fun w => ?_⟩
            simp only [Instr.indexAt, asIntOf, Sem.run_bind, Sem.run_pure, Result.andThen_ok, run_underlying hu w]
            rw [if_pos ⟨h0, h1⟩]
            simp only [Sem.run_bind, size_run hii w, Result.andThen_ok, Sem.run_pure, hs, add_plain, Nat.add_zero]
          · cases h
        · cases h
      · cases h
    · cases h
  · cases h
theorem isSliceT_ok {T : Nat} (h : isSliceT P T = true) : ∃ e, P.underlying T = some (.slice e) := by
  unfold isSliceT at h
  split at h
  · exact ⟨_, by assumption⟩
  · cases h
theorem len_slice {T : Nat} (h : isSliceT P T = true) (A : Option Addr) (n c : Nat) (ty : TypeId) (cs : Array Bool) (w : World) : (builtin .len #[T] ty cs #[.slice A n c]).run P w = .ok (.value (.int .i64 n)) w := by
  obtain ⟨e, hu⟩ := isSliceT_ok h
  simp [builtin, Builtin.len_, Sem.run_bind, Sem.run_pure, run_underlying hu, goInt]
theorem evLen_ok (hR : Rel B wE C st a) {T : Nat} {x : CV} {n : Int} (h : evLen P st T x = some n) {u : Value} (hx : RC C x u) (ty : TypeId) (cs : Array Bool) (w : World) : (builtin .len #[T] ty cs #[u]).run P w = .ok (.value (.int .i64 n)) w := by
  unfold evLen at h
  split at h
  · split at h
    · rename_i hT
      injection h with h
      subst h
      obtain ⟨A, c, rfl, _⟩ := hx
      exact len_slice hT _ _ _ _ _ _
    · cases h
  · rename_i b
    split at h
    · rename_i e t xs hb
      split at h
      · rename_i hT
        injection h with h
        subst h
        obtain ⟨hbN, hρ, A, n, c, rfl⟩ := hx
        obtain ⟨hS, _⟩ := hR.inv.ok _ _ hb
        rw [← hρ] at hS
        obtain ⟨hn, _, _⟩ := Kd.S_reads' hS
        subst hn
        exact len_slice hT _ _ _ _ _ _
      · cases h
    · cases h
  · split at h
    · rename_i hT
      injection h with h
      subst h
      obtain rfl : u = .slice none 0 0 := hx
      exact len_slice hT _ _ _ _ _ _
    · cases h
  · split at h
    · rename_i s hT
      injection h with h
      subst h
      obtain rfl : u = .string _ := hx
      simp [builtin, Builtin.len_, Sem.run_bind, Sem.run_pure, run_underlying (isStrT_ok hT), goInt]
    · cases h
  · cases h
end
end Go.Proofs.Ytceffcfnjjlbkaa.V
