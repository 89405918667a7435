/- The evaluator, 18: what is left of single operations. -/
import Derived.Test.YtceffcfnjjlbkaaE17
namespace Go.Proofs.Ytceffcfnjjlbkaa.E
open Go.RowKit
set_option linter.unusedVariables false
set_option linter.unusedSimpArgs false
section
variable {P : Program} {M : Nat → Prop} {wE : World} {C : Cx} {st : St} {a : Act} {T : Nat → Option TV} {L : Nat → Option LB} {Γ : Nat → Option Sig} {o : Oper}
theorem row_len (hI : Inv P M wE C st.loc) {b : Nat} {d : Bool} {ep e : Nat} {t : Ty} {xs : List t.den} (hb : lget st.loc b = some (.row d ep e t xs)) {A : Option Addr} {n c : Nat} (hρ : C.ρ b = .slice A n c) : n = xs.length ∧ n ≤ c := by
  have hr := row_rd (e' := 0) hI hb
  rw [hρ] at hr
  obtain ⟨A', c', he, hl, _⟩ := hr
  injection he with he _
  injection he with e1 e2 e3
  exact ⟨e2, by omega⟩
/-! ### copy -/
theorem evCopy_ok {R : Type} {K : Eff → Option R} {r : R} (hR : Rel P M wE C st a) (hs : Sees T L st) {E : Nat} {c : Call} (hop : o.op = .call c) (hcal : c.callee = .builtin .copy) (hT : c.argTypes.toList = [E, E]) {s x : TV} (hvs : evOs T c.args.toList = some [s, x])
    (h : evCopy P L E s x K = some r) : ∃ eff, K eff = some r ∧ Does P M wE C st a o eff := by
  obtain ⟨sO, xO, hargs, hTT, hsO, hxO⟩ := appArgs_ok hT hvs
  have hsv := evO_ok hR hs hsO
  have hxv := evO_ok hR hs hxO
  unfold evCopy at h
  split at h
  · rename_i e t bytes hi
    split at h
    · rename_i hfs
      obtain ⟨hfl, hs1⟩ := hfs
      split at h
      · rename_i b s'
        split at h
        · rename_i dp ep e' t' xs ys hb hy
          split at h
          · rename_i hc
            obtain ⟨rfl, _⟩ := hc
            split at h
            · rename_i zs hz
              obtain ⟨ht, hzs⟩ := cast_ok hz
              subst ht
              simp only at hzs
              subst hzs
              refine ⟨_, h, ?_⟩
              have hb' := hs.L _ _ hb
              obtain ⟨lb, hlb, ⟨A, m, cc, hv⟩, hal⟩ := hsv
              rw [hb'] at hlb
              injection hlb with hlb
              subst hlb
              have hρ := (hal rfl).symm.trans hv
              obtain ⟨rfl, _⟩ := row_len hR.inv hb' hρ
              have := copy_does hR hop hcal hargs hTT hi hfl hs1 hb' (lo := 0) (n := xs.length) (by omega) hρ hv (fun _ => by cases A with | none => rfl | some ad => simp [Addr.add]) rfl (rdSl_ok hR.inv hs hy hxv _)
              have e1 : xs.take 0 ++ ys.take xs.length ++ xs.drop (0 + min ys.length xs.length) = ys.take xs.length ++ xs.drop ys.length := by
                rw [List.take_zero, List.nil_append, Nat.zero_add]
                congr 1
                by_cases hl : ys.length ≤ xs.length
                · rw [Nat.min_eq_left hl]
                · rw [Nat.min_eq_right (by omega), List.drop_length, List.drop_of_length_le (by omega)]
              rw [e1] at this
              exact this
            · cases h
          · cases h
        · cases h
      · rename_i b sz lo hi' s'
        split at h
        · rename_i dp ep e' t' xs ys hb hy
          split at h
          · rename_i hc
            obtain ⟨rfl, rfl, _⟩ := hc
            split at h
            · rename_i zs hz
              obtain ⟨ht, hzs⟩ := cast_ok hz
              subst ht
              simp only at hzs
              subst hzs
              refine ⟨_, h, ?_⟩
              have hb' := hs.L _ _ hb
              obtain ⟨lb, hlb, _, hal⟩ := hsv
              rw [hb'] at hlb
              injection hlb with hlb
              subst hlb
              obtain ⟨A, n, cc, c', A', q1, q2, q3, q4, q5, q6, q7, q8⟩ := hal rfl
              obtain ⟨rfl, _⟩ := row_len hR.inv hb' q1
              exact copy_does hR hop hcal hargs hTT hi hfl hs1 hb' (lo := lo.toNat) (n := (hi' - lo).toNat) (by omega) q1 q7 (fun hq => q8 (by omega)) rfl (rdSl_ok hR.inv hs hy hxv _)
            · cases h
          · cases h
        · cases h
      · cases h
    · cases h
  · cases h

/-! ### struct literals -/
theorem places_ok : ∀ {fs : List Field}, (fs.all fun f => (P.info? f.type).isSome) = true → ∃ places, fs.mapM (fun f => (P.info? f.type).map fun i => (f.offset, i.size)) = some places ∧ ∀ (j : Nat) (f : Field), fs[j]? = some f → places[j]? = some (f.offset, P.cellsOf f.type)
  | [], _ => ⟨[], rfl, fun j f h => by simp at h⟩
  | f0 :: fs, h => by
    simp only [List.all_cons, Bool.and_eq_true] at h
    obtain ⟨ps, h1, h2⟩ := places_ok h.2
    obtain ⟨i, hi⟩ := Option.isSome_iff_exists.1 h.1
    refine ⟨(f0.offset, i.size) :: ps, by simp [List.mapM_cons, hi, h1], fun j f hj => ?_⟩
    cases j with
    | zero =>
      simp only [List.getElem?_cons_zero, Option.some.injEq] at hj ⊢
      subst hj
      simp [Program.cellsOf, hi]
    | succ j => exact h2 j f (by simpa using hj)
theorem buildC_ok (hR : Rel P M wE C st a) (hs : Sees T L st) {E : Nat} {fs : Array Field} (hu : P.underlying E = some (.struct fs)) {places : List (Nat × Nat)} (hpl : ∀ (j : Nat) (f : Field), fs.toList[j]? = some f → places[j]? = some (f.offset, P.cellsOf f.type)) :
    ∀ {l : List (Nat × Operand)} {ps : List (Nat × List CV)} {cs cs' : List CV} {cur : List Value}, evParts T l = some ps → buildC P E ps cs = some cs' → RCs P C st.loc cs cur →
    ∃ cur', Instr.fill (places.toArray[·]?) cur.toArray (l.map fun x => (x.1, a.eval x.2)) = some cur'.toArray ∧ RCs P C st.loc cs' cur'
  | [], ps, cs, cs', cur, h, h', hc => by
    simp only [evParts] at h
    injection h with h
    subst h
    simp only [buildC] at h'
    injection h' with h'
    subst h'
    exact ⟨cur, rfl, hc⟩
  | (i0, x0) :: l, ps, cs, cs', cur, h, h', hc => by
    simp only [evParts] at h
    split at h
    · rename_i v hv
      split at h
      · rename_i cs0 hcs0
        split at h
        · rename_i r hr
          injection h with h
          subst h
          simp only [buildC] at h'
          split at h'
          · rename_i off ft hf
            split at h'
            · rename_i hcc
              obtain ⟨c1, c2, c3⟩ := hcc
              obtain ⟨fs', f, q1, q2, rfl, rfl, q5⟩ := fieldOf_ok hf
              rw [hu] at q1
              injection q1 with q1
              injection q1 with q1
              subst q1
              have hsg := RCs_one' hcs0 (evO_ok hR hs hv) c3
              have hsz : (a.eval x0).cells.size = P.cellsOf f.type := by rw [← c1, hsg.1]; simp
              obtain ⟨cur', q1, q2'⟩ := buildC_ok hR hs hu hpl hr h' (RCs_splice (off := f.offset) hc hsg)
              refine ⟨cur', ?_, q2'⟩
              simp only [List.map_cons]
              rw [fill_step (off := f.offset) (size := P.cellsOf f.type) (by have := hpl i0 f (by simpa using q2); simpa using this) hsz (by have := hc.1; simp; omega)]
              exact q1
            · cases h'
          · cases h'
        · cases h
      · cases h
    · cases h
theorem build_run (hR : Rel P M wE C st a) (hs : Sees T L st) {E : Nat} {parts : Array (Nat × Operand)} {ps : List (Nat × List CV)} {cs cs' : List CV} (hps : evParts T parts.toList = some ps) (hz : zeroC P E = some cs) (hb : buildC P E ps cs = some cs') (hp : placesB P E = true) :
    ∃ v, RV P C st.loc (.agg cs') v ∧ (Instr.build E (parts.map fun (i, x) => (i, a.eval x))).run P C.w = .ok v C.w := by
  unfold placesB at hp
  split at hp
  · rename_i fs hu
    obtain ⟨places, hpm, hpl⟩ := places_ok hp
    obtain ⟨z, hzv, hzr⟩ := zeroC_ok hz
    obtain ⟨i, hi, hiz, hsz, _⟩ := zeroV_ok hzv
    obtain ⟨cur', h1, h2⟩ := buildC_ok hR hs hu hpl hps hb (hzr C st.loc)
    refine ⟨.agg cur'.toArray, ⟨cur', h2, rfl⟩, run_build _ _ _ _ ?_⟩
    unfold Program.built
    rw [hi, hu]
    simp only [hiz, hpm]
    rw [Array.toArray_toList] at h1
    rw [Array.toList_map]
    exact h1
  · cases hp

/-! ### parts of slices -/
theorem intOp_ok (hR : Rel P M wE C st a) (hs : Sees T L st) {x : Option Operand} {n : Option Int} (h : intOp T x = some n) : (x = none ∧ n = none) ∨ ∃ y k m, x = some y ∧ n = some m ∧ a.eval y = .int k m := by
  unfold intOp at h
  split at h
  · injection h with h
    exact .inl ⟨rfl, h.symm⟩
  · rename_i y
    split at h
    · rename_i k m hy
      injection h with h
      exact .inr ⟨y, k, m, rfl, h.symm, evO_ok hR hs hy⟩
    · cases h
theorem sameOp_ok {x y : Operand} (h : sameOp x y = true) : a.eval x = a.eval y := by
  unfold sameOp at h
  split at h
  · rw [beq_iff_eq] at h
    rw [h]
  · rw [beq_iff_eq] at h
    rw [h]
  · cases h
theorem sliceBounds_run {len cap : Nat} {low high max : Option Value} {l h m : Option Int} (hl : (low = none ∧ l = none) ∨ ∃ k n, low = some (.int k n) ∧ l = some n) (hh : (high = none ∧ h = none) ∨ ∃ k n, high = some (.int k n) ∧ h = some n) (hm : (max = none ∧ m = none) ∨ ∃ k n, max = some (.int k n) ∧ m = some n)
    (hmh : m.isSome = true → h.isSome = true) (h0 : 0 ≤ l.getD 0) (h1 : l.getD 0 ≤ h.getD len) (h2 : h.getD len ≤ m.getD cap) (h3 : m.getD cap ≤ cap) (b : Bool) (w : World) :
    (Instr.sliceBounds b len cap low high max).run P w = .ok ((l.getD 0).toNat, (h.getD len).toNat, (m.getD cap).toNat) w := by
  rcases hm with ⟨rfl, rfl⟩ | ⟨km, nm, rfl, rfl⟩ <;> rcases hh with ⟨rfl, rfl⟩ | ⟨kh, nh, rfl, rfl⟩ <;> rcases hl with ⟨rfl, rfl⟩ | ⟨kl, nl, rfl, rfl⟩ <;> simp only [Option.getD_some, Option.getD_none, Option.isSome_some, Option.isSome_none] at h0 h1 h2 h3 hmh
  all_goals first
    | exact absurd (hmh trivial) Bool.false_ne_true
    | (simp only [Instr.sliceBounds, Sem.run_bind, Sem.run_pure, Result.andThen_ok, Option.getD_some, Option.getD_none, Int.toNat_natCast, Int.toNat_zero])
    | skip
  all_goals first
    | done
    | (rw [bound_run (by omega) (by omega)]; simp only [Result.andThen_ok, Sem.run_bind, Sem.run_pure]; done)
    | (rw [bound_run (by omega) (by omega)]; simp only [Result.andThen_ok, Sem.run_bind, Sem.run_pure]; rw [bound_run (by omega) (by omega)]; simp only [Result.andThen_ok, Sem.run_bind, Sem.run_pure]; done)
    | (rw [bound_run (by omega) (by omega)]; simp only [Result.andThen_ok, Sem.run_bind, Sem.run_pure]; rw [bound_run (by omega) (by omega)]; simp only [Result.andThen_ok, Sem.run_bind, Sem.run_pure]; rw [bound_run (by omega) (by omega)]; simp only [Result.andThen_ok, Sem.run_bind, Sem.run_pure]; done)
theorem slice_run {E e : Nat} (hu : P.underlying E = some (.slice e)) (hc : 0 < P.cellsOf e) {A : Option Addr} {len cap : Nat} {low high max : Option Value} {l h m : Nat} {w : World} (hb : (Instr.sliceBounds true len cap low high max).run P w = .ok (l, h, m) w) :
    (Instr.slice E (.slice A len cap) low high max).run P w = .ok (.slice (if m = l then A else A.map (·.add (l * P.cellsOf e))) (h - l) (m - l)) w := by
  obtain ⟨i, hi⟩ := info_of_cells hc
  simp only [Instr.slice, Sem.run_bind, run_underlying hu w, Result.andThen_ok, hb, size_run hi w, Sem.run_pure]
theorem slice_str_run {E : Nat} (hu : P.underlying E = some .string) {s : ByteArray} {low high : Option Value} {l h m : Nat} {w : World} (hb : (Instr.sliceBounds false s.size s.size low high none).run P w = .ok (l, h, m) w) :
    (Instr.slice E (.string s) low high none).run P w = .ok (.string (s.extract l h)) w := by
  simp only [Instr.slice, Sem.run_bind, run_underlying hu w, Result.andThen_ok, Option.isSome_none, Bool.false_eq_true, if_false, Sem.run_pure, hb]

/-! ### the smallest, the largest -/
theorem max_fold : ∀ (l : List Int) (n : Int) (w : World), ((l.map (Value.int .i64)).foldlM Builtin.max2 (.int .i64 n)).run P w = .ok (.int .i64 (l.foldl mx2 n)) w
  | [], n, w => by simp [Sem.run_pure]
  | x :: l, n, w => by
    simp only [List.map_cons, List.foldlM_cons, Sem.run_bind, Builtin.max2, Sem.run_pure, Result.andThen_ok, List.foldl_cons]
    exact max_fold l _ w
theorem min_fold : ∀ (l : List Int) (n : Int) (w : World), ((l.map (Value.int .i64)).foldlM Builtin.min2 (.int .i64 n)).run P w = .ok (.int .i64 (l.foldl mn2 n)) w
  | [], n, w => by simp [Sem.run_pure]
  | x :: l, n, w => by
    simp only [List.map_cons, List.foldlM_cons, Sem.run_bind, Builtin.min2, Sem.run_pure, Result.andThen_ok, List.foldl_cons]
    exact min_fold l _ w
theorem ints_ok : ∀ {vs : List TV} {l : List Int} {us : List Value}, ints vs = some l → vs.length = us.length → (∀ (j : Nat) (tv : TV) (v : Value), vs[j]? = some tv → us[j]? = some v → RV P C st.loc tv v) → us = l.map (Value.int .i64)
  | [], l, us, h, hl, _ => by
    simp only [ints] at h
    injection h with h
    subst h
    cases us with
    | nil => rfl
    | cons _ _ => cases hl
  | v :: vs, l, us, h, hl, hv => by
    cases us with
    | nil => cases hl
    | cons u us =>
      have h0 := hv 0 v u rfl rfl
      unfold ints at h
      split at h
      · rename_i he
        cases he
      · rename_i x n l' he
        injection he with he1 he2
        subst he1; subst he2
        split at h
        · rename_i r hr
          injection h with h
          subst h
          have ih : us = r.map (Value.int .i64) := ints_ok hr (by simpa using hl) (fun j tv v hj hu => hv (j + 1) tv v (by simpa using hj) (by simpa using hu))
          rw [ih]
          rw [show u = .int .i64 n from h0]
          rfl
        · cases h
      · cases h
theorem capIds_ok : ∀ {vs : List TV} {ids : List Nat} {us : List Value}, capIds vs = some ids → vs.length = us.length → (∀ (j : Nat) (tv : TV) (v : Value), vs[j]? = some tv → us[j]? = some v → RV P C st.loc tv v) →
    us.length = ids.length ∧ ∀ (j b : Nat) (u : Value), ids[j]? = some b → us[j]? = some u → RC P C st.loc (.ptr b 0) u
  | [], ids, us, h, hl, _ => by
    simp only [capIds] at h
    injection h with h
    subst h
    exact ⟨hl.symm, fun j b u hj => by simp at hj⟩
  | v :: vs, ids, us, h, hl, hv => by
    cases us with
    | nil => cases hl
    | cons u us =>
      have h0 := hv 0 v u rfl rfl
      unfold capIds at h
      split at h
      · rename_i he
        cases he
      · rename_i x b l' he
        injection he with he1 he2
        subst he1; subst he2
        split at h
        · rename_i r hr
          injection h with h
          subst h
          obtain ⟨q1, q2⟩ := capIds_ok hr (by simpa using hl) (fun j tv v hj hu => hv (j + 1) tv v (by simpa using hj) (by simpa using hu))
          refine ⟨by simp [q1], fun j b' u' hj hu => ?_⟩
          cases j with
          | zero =>
            simp only [List.getElem?_cons_zero, Option.some.injEq] at hj hu
            subst hj; subst hu
            exact h0
          | succ j => exact q2 j b' u' (by simpa using hj) (by simpa using hu)
        · cases h
      · cases h
end
end Go.Proofs.Ytceffcfnjjlbkaa.E
