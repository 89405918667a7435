/- The evaluator, 10: addresses, fields, lengths, parts of slices. -/
import Derived.Test.YtceffcfnjjlbkaaE9
namespace Go.Proofs.Ytceffcfnjjlbkaa.E
open Go.RowKit
set_option linter.unusedVariables false
set_option linter.unusedSimpArgs false
section
variable {P : Program} {M : Nat → Prop} {wE : World} {C : Cx} {st : St} {a : Act} {T : Nat → Option TV} {L : Nat → Option LB} {o : Oper}
theorem fieldOf_ok {E j off ft : Nat} (h : fieldOf P E j = some (off, ft)) : ∃ (fs : Array Field) (f : Field), P.underlying E = some (.struct fs) ∧ fs[j]? = some f ∧ f.offset = off ∧ f.type = ft ∧ 0 < P.cellsOf ft := by
  unfold fieldOf at h
  split at h
  · rename_i fs hu
    split at h
    · rename_i f hf
      split at h
      · rename_i hp
        injection h with h
        injection h with h1 h2
        subst h1; subst h2
        exact ⟨fs, f, hu, hf, rfl, rfl, hp⟩
      · cases h
    · cases h
  · cases h
theorem fieldPlace_run {ad : Addr} {f : Field} (h : 0 < P.cellsOf f.type) (w : World) : (fieldPlace ad f).run P w = .ok (ad.add f.offset) w := by
  obtain ⟨i, hi⟩ := info_of_cells h
  simp only [fieldPlace, Sem.run_bind, size_run hi, Result.andThen_ok]
  rw [if_neg (by omega)]
  rfl
theorem evFieldAddr_ok {loc : Loc} {E : Nat} {x c : CV} {j : Nat} (h : evFieldAddr P E x j = some c) {u : Value} (hx : RC P C loc x u) : ∃ z, RC P C loc c z ∧ ∀ w, (Instr.fieldAt E u j).run P w = .ok z w := by
  unfold evFieldAddr at h
  split at h
  · rename_i off ft hf
    obtain ⟨fs, f, hu, hfj, rfl, rfl, hp⟩ := fieldOf_ok hf
    have run : ∀ (ad : Addr) (w : World), (Instr.fieldAt E (.pointer (some ad)) j).run P w = .ok (.pointer (some (ad.add f.offset))) w := fun ad w => by
      simp only [Instr.fieldAt, Sem.run_bind, run_underlying hu w, Result.andThen_ok, hfj, Instr.sureAddr, Sem.run_pure, fieldPlace_run hp]
    split at h
    · rename_i b off'
      injection h with h
      subst h
      obtain ⟨lb, hlb, ⟨ad, rfl⟩, hal⟩ := hx
      refine ⟨.pointer (some (ad.add f.offset)), ⟨lb, hlb, ⟨_, rfl⟩, fun ha => ?_⟩, run ad⟩
      obtain ⟨g, h1, h2⟩ := hal ha
      injection h2 with h2
      injection h2 with h2
      exact ⟨g, h1, by rw [h2, add_lit]⟩
    · rename_i t x off'
      injection h with h
      subst h
      obtain ⟨ad, cs, rfl, h1, h2, h3⟩ := hx
      exact ⟨_, ⟨ad, cs, by rw [add_add], h1, h2, h3⟩, run _⟩
    · rename_i b sz i off'
      injection h with h
      subst h
      obtain ⟨lb, hlb, ⟨ad, rfl⟩, hal⟩ := hx
      refine ⟨.pointer (some (ad.add f.offset)), ⟨lb, hlb, ⟨_, rfl⟩, fun ha => ?_⟩, run ad⟩
      obtain ⟨g, o, n, c, h1, h2, h3, h4⟩ := hal ha
      injection h4 with h4
      injection h4 with h4
      exact ⟨g, o, n, c, h1, h2, h3, by rw [h4, add_lit, Nat.add_assoc]⟩
    · cases h
  · cases h
theorem part_run {E : Nat} {g : Bool} (hi : ∃ i, P.info? E = some i) (hag : ∀ w, (isAgg E).run P w = .ok g w) {cs : List Value} {off : Nat} (hle : off + P.cellsOf E ≤ cs.length) {v : Value} (hv : Pack g ((cs.drop off).take (P.cellsOf E)) v) (w : World) : (part E cs.toArray off).run P w = .ok v w := by
  obtain ⟨i, hi⟩ := hi
  simp only [part, Sem.run_bind, hag w, Result.andThen_ok]
  unfold Pack at hv
  cases g with
  | true =>
    simp only [if_true] at hv ⊢
    subst hv
    rw [Sem.run_bind, size_run hi, Result.andThen_ok, Sem.run_pure]
    simp [List.extract_toArray, List.extract_eq_take_drop]
  | false =>
    simp only [Bool.false_eq_true, if_false] at hv ⊢
    have h0 : cs[off]? = some v := by
      have := congrArg (fun l => l[0]?) hv
      simp only [List.getElem?_take, List.getElem?_drop, List.getElem?_cons_zero] at this
      split at this
      · simpa using this
      · cases this
    simp [h0, Sem.run_pure]
theorem evField_ok {loc : Loc} {E : Nat} {x : TV} {tv : TV} {j : Nat} (h : evField P E x j = some tv) {u : Value} (hx : RV P C loc x u) (w : World) : ∃ z, RV P C loc tv z ∧ (Instr.field E u j).run P w = .ok z w := by
  unfold evField at h
  split at h
  · rename_i off ft cs hf
    obtain ⟨fs, f, hu, hfj, rfl, rfl, hp⟩ := fieldOf_ok hf
    split at h
    · rename_i c htk
      split at h
      · rename_i g hg
        split at h
        · rename_i hle
          obtain ⟨us, h1, rfl⟩ := hx
          obtain ⟨hi, hag⟩ := tk_ok htk hg
          obtain ⟨v, hv, hrv⟩ := tvOf_ok h (RCs_seg h1 f.offset (P.cellsOf f.type))
          refine ⟨v, hrv, ?_⟩
          simp only [Instr.field, Sem.run_bind, run_underlying hu w, Result.andThen_ok, hfj, asAgg, Sem.run_pure]
          exact part_run hi hag (by rw [← h1.1]; exact hle) hv w
        · cases h
      · cases h
    · cases h
  · cases h
theorem indexAt_slice {E e : Nat} (hu : P.underlying E = some (.slice e)) (hs : 0 < P.cellsOf e) {ad : Addr} {n c : Nat} {i : Int} {k : IntKind} (h0 : 0 ≤ i) (h1 : i < (n : Int)) (w : World) : (Instr.indexAt E (.slice (some ad) n c) (.int k i)).run P w = .ok (.pointer (some (ad.add (i.toNat * P.cellsOf e)))) w := by
  obtain ⟨ii, hii⟩ := info_of_cells hs
  simp only [Instr.indexAt, asIntOf, Sem.run_bind, Sem.run_pure, Result.andThen_ok, run_underlying hu w]
  rw [if_pos ⟨h0, h1⟩]
  simp only [Sem.run_bind, size_run hii w, Result.andThen_ok, Sem.run_pure]
/-- An element of a slice that is read. -/
theorem Rd_elem {S : Nat → Prop} {w : World} {e : Nat} {t : Ty} {xs : List t.den} {v : Value} (h : Rd S w (.sl e t) xs [v]) {i : Int} (h0 : 0 ≤ i) (h1 : i < (xs.length : Int)) :
    ∃ ad c cs, v = .slice (some ad) xs.length c ∧ S ad.block ∧ Rd S w t (xs.getD i.toNat t.z) cs ∧ ∀ j u, cs[j]? = some u → w.cell? (ad.add (i.toNat * t.sz + j)) = some u := by
  obtain ⟨A, c, he, hl, hr⟩ := h
  injection he with he _
  subst he
  have hlt : i.toNat < xs.length := by omega
  obtain ⟨ad, rfl, h2, h3⟩ := hr (fun hx => by subst hx; simp at hlt)
  obtain ⟨es, h4, h5, h6⟩ := h3 i.toNat _ (getD_get (n := 0) (z := t.z) h0 hlt)
  exact ⟨ad, c, es, rfl, h2, h5, h6⟩
theorem evIndexAddr_ok (hR : Rel P M wE C st a) (hs : Sees T L st) {E : Nat} {x y : TV} {c : CV} {i n : Int} (h : evIndexAddr P L E x y = some (c, i, n)) (h0 : 0 ≤ i) (h1 : i < n) {u v : Value} (hx : RV P C st.loc x u) (hy : RV P C st.loc y v) :
    ∃ z, RC P C st.loc c z ∧ ∀ w, (Instr.indexAt E u v).run P w = .ok z w := by
  unfold evIndexAddr at h
  split at h
  · rename_i e e' t xs k i' hu
    split at h
    · rename_i hsz
      simp only [Option.some.injEq, Prod.mk.injEq] at h
      obtain ⟨rfl, rfl, rfl⟩ := h
      obtain rfl : v = .int k i' := hy
      obtain ⟨ad, cc, cs, rfl, hS, hr, hcell⟩ := Rd_elem hx h0 h1
      refine ⟨_, ⟨ad.add (i'.toNat * t.sz), cs, rfl, hr, fun j q hq => by rw [add_add]; exact hcell j q hq, by rw [add_block]; exact hS⟩, fun w => ?_⟩
      rw [indexAt_slice hu (by rw [hsz]; exact sz_pos t) h0 h1, hsz, add_add, Nat.add_zero]
    · cases h
  · rename_i e b k i' hu
    split at h
    · rename_i d ep e' t xs hb
      split at h
      · rename_i hsz
        simp only [Option.some.injEq, Prod.mk.injEq] at h
        obtain ⟨rfl, rfl, rfl⟩ := h
        obtain rfl : v = .int k i' := hy
        have hb' := hs.L _ _ hb
        obtain ⟨lb, hlb, ⟨A, m, cc, rfl⟩, hal⟩ := hx
        rw [hb'] at hlb
        injection hlb with hlb
        subst hlb
        have hρ := hal rfl
        have hr := row_rd (e' := 0) hR.inv hb'
        rw [← hρ] at hr
        obtain ⟨ad, c1, cs, he, hS, _, _⟩ := Rd_elem hr h0 h1
        injection he with e1 e2 e3
        subst e1; subst e2
        have hlt : i'.toNat < xs.length := by omega
        have hok := hR.inv.ok _ _ hb'
        obtain ⟨g, o', had⟩ : ∃ g o', ad = ⟨g, o', none⟩ := by
          cases d with
          | true =>
            rcases (hok : Own _ _ _ _ _) with ⟨q, _⟩ | ⟨g, o', _, _, _, q, _⟩
            · rw [← hρ] at q
              cases q
            · rw [← hρ] at q
              injection q with q _
              injection q with q _ _
              injection q with q
              exact ⟨g, o', q⟩
          | false =>
            rcases (hok : OwnSh _ _ _ _ _ _ _) with ⟨q, _⟩ | ⟨g, o', _, _, q, _⟩
            · rw [← hρ] at q
              cases q
            · rw [← hρ] at q
              injection q with q _ _
              injection q with q
              exact ⟨g, o', q⟩
        subst had
        refine ⟨.pointer (some ⟨g, o' + i'.toNat * t.sz + 0, none⟩), ⟨_, hb', ⟨_, rfl⟩, fun _ => ⟨g, o', _, cc, hρ.symm, h0, hlt, rfl⟩⟩, fun w => ?_⟩
        rw [indexAt_slice hu (by rw [hsz]; exact sz_pos t) h0 h1, hsz, add_lit, Nat.add_zero]
      · cases h
    · rename_i e' t xs hb
      split at h
      · rename_i hsz
        simp only [Option.some.injEq, Prod.mk.injEq] at h
        obtain ⟨rfl, rfl, rfl⟩ := h
        obtain rfl : v = .int k i' := hy
        have hb' := hs.L _ _ hb
        obtain ⟨lb, hlb, _, hal⟩ := hx
        rw [hb'] at hlb
        injection hlb with hlb
        subst hlb
        have hρ := hal rfl
        have hr : Rd C.S C.w (.sl e' t) xs [C.ρ b] := hR.inv.ok _ _ hb'
        rw [← hρ] at hr
        obtain ⟨ad, cc, cs, rfl, hS, hr, hcell⟩ := Rd_elem hr h0 h1
        refine ⟨_, ⟨ad.add (i'.toNat * t.sz), cs, rfl, hr, fun j q hq => by rw [add_add]; exact hcell j q hq, by rw [add_block]; exact hS⟩, fun w => ?_⟩
        rw [indexAt_slice hu (by rw [hsz]; exact sz_pos t) h0 h1, hsz, add_add, Nat.add_zero]
      · cases h
    · cases h
  · rename_i e b sz lo hi k i' hu
    split at h
    · rename_i d ep e' t xs hb
      split at h
      · rename_i hc
        obtain ⟨hsz, rfl⟩ := hc
        simp only [Option.some.injEq, Prod.mk.injEq] at h
        obtain ⟨rfl, rfl, rfl⟩ := h
        obtain rfl : v = .int k i' := hy
        have hb' := hs.L _ _ hb
        obtain ⟨lb, hlb, _, hal⟩ := hx
        rw [hb'] at hlb
        injection hlb with hlb
        subst hlb
        obtain ⟨A, m, cc, c', A', q1, q2, q3, q4, q5, q6, rfl, q7⟩ := hal rfl
        have hok := hR.inv.ok _ _ hb'
        have hm : m = xs.length ∧ ∃ g o', A = some ⟨g, o', none⟩ := by
          cases d with
          | true =>
            rcases (hok : Own _ _ _ _ _) with ⟨q, hx0⟩ | ⟨g, o', _, _, _, q, _⟩
            · rw [q1] at q
              injection q with q _
              injection q with _ q _
              omega
            · rw [q1] at q
              injection q with q _
              injection q with qa qb _
              exact ⟨qb, g, o', qa⟩
          | false =>
            rcases (hok : OwnSh _ _ _ _ _ _ _) with ⟨q, hx0⟩ | ⟨g, o', _, _, q, _⟩
            · rw [q1] at q
              injection q with _ q _
              omega
            · rw [q1] at q
              injection q with qa qb _
              exact ⟨qb, g, o', qa⟩
        obtain ⟨rfl, g, o', rfl⟩ := hm
        refine ⟨.pointer (some ⟨g, o' + (lo + i').toNat * t.sz + 0, none⟩), ⟨_, hb', ⟨_, rfl⟩, fun _ => ⟨g, o', _, cc, q1, by omega, by omega, rfl⟩⟩, fun w => ?_⟩
        rw [q7 (by omega)]
        simp only [Option.map_some]
        rw [indexAt_slice hu (by rw [hsz]; exact sz_pos t) h0 (by omega), hsz, add_lit, add_lit, show (lo + i').toNat = lo.toNat + i'.toNat by omega, Nat.add_mul]
        simp only [Nat.add_zero, Nat.add_assoc]
      · cases h
    · cases h
  · rename_i m e b k i' hu
    split at h
    · rename_i T' k' n' xs hb
      split at h
      · rename_i hc
        obtain ⟨hsz, rfl⟩ := hc
        simp only [Option.some.injEq, Prod.mk.injEq] at h
        obtain ⟨rfl, rfl, rfl⟩ := h
        obtain rfl : v = .int k i' := hy
        have hb' := hs.L _ _ hb
        obtain ⟨lb, hlb, _, hal⟩ := hx
        rw [hb'] at hlb
        injection hlb with hlb
        subst hlb
        obtain ⟨g, q1, rfl⟩ := hal rfl
        refine ⟨.pointer (some ⟨g, i'.toNat, none⟩), ⟨_, hb', ⟨_, rfl⟩, fun _ => ⟨g, q1, h0, by omega, rfl⟩⟩, fun w => ?_⟩
        obtain ⟨ii, hii⟩ := info_of_cells (P := P) (T := e) (by rw [hsz]; exact Nat.one_pos)
        simp only [Instr.indexAt, asIntOf, Sem.run_bind, Sem.run_pure, Result.andThen_ok, run_underlying hu w, Instr.sureAddr]
        rw [if_pos ⟨h0, h1⟩]
        simp only [Sem.run_bind, size_run hii w, Result.andThen_ok, Sem.run_pure, hsz, Nat.mul_one, add_lit, Nat.zero_add]
      · cases h
    · cases h
  · cases h
theorem len_slice {E : Nat} (h : isSliceT P E = true) (A : Option Addr) (n c : Nat) (ty : TypeId) (cs : Array Bool) (w : World) : (builtin .len #[E] ty cs #[.slice A n c]).run P w = .ok (.value (.int .i64 n)) w := by
  obtain ⟨e, hu⟩ := isSliceT_ok h
  simp [builtin, Builtin.len_, Sem.run_bind, Sem.run_pure, run_underlying hu, goInt]
/-- A slice's length, as the evaluator has it. -/
theorem evLen_slice (hR : Rel P M wE C st a) (hs : Sees T L st) {E : Nat} {x : CV} {n : Int} (h : evLen P L E x = some n) (hsl : isSliceT P E = true) {u : Value} (hx : RC P C st.loc x u) : ∃ A m c, u = .slice A m c ∧ n = (m : Int) ∧ m ≤ c := by
  unfold evLen at h
  split at h
  · rw [if_pos hsl] at h
    injection h with h
    obtain ⟨A, c, he, hl, _⟩ := hx
    injection he with he _
    exact ⟨A, _, c, he, h.symm, hl⟩
  · rename_i b
    obtain ⟨lb, hlb, ⟨A, m, c, rfl⟩, hal⟩ := hx
    split at h
    · rename_i d ep e t xs hb
      have hb' := hs.L _ _ hb
      rw [hb'] at hlb
      injection hlb with hlb
      subst hlb
      rw [if_pos hsl] at h
      injection h with h
      have hρ := hal rfl
      have hr := row_rd (e' := 0) hR.inv hb'
      rw [← hρ] at hr
      obtain ⟨A', c', he, hl, _⟩ := hr
      injection he with he _
      injection he with e1 e2 e3
      exact ⟨A, m, c, rfl, by rw [← h, e2], by omega⟩
    · rename_i e t xs hb
      have hb' := hs.L _ _ hb
      rw [hb'] at hlb
      injection hlb with hlb
      subst hlb
      rw [if_pos hsl] at h
      injection h with h
      have hρ := hal rfl
      have hr : Rd C.S C.w (.sl e t) xs [C.ρ b] := hR.inv.ok _ _ hb'
      rw [← hρ] at hr
      obtain ⟨A', c', he, hl, _⟩ := hr
      injection he with he _
      injection he with e1 e2 e3
      exact ⟨A, m, c, rfl, by rw [← h, e2], by omega⟩
    · cases h
  · rename_i b sz lo hi
    obtain ⟨lb, hlb, ⟨A, m, c, rfl⟩, hal⟩ := hx
    have fin : lb.alive = true → n = hi - lo → ∃ A' m' c', Value.slice A m c = .slice A' m' c' ∧ n = (m' : Int) ∧ m' ≤ c' := fun ha hn => by
      obtain ⟨A0, n0, c0, c', A', q1, q2, q3, q4, q5, q6, q7, _⟩ := hal ha
      injection q7 with e1 e2 e3
      exact ⟨A, m, c, rfl, by omega, by omega⟩
    split at h
    · rename_i d ep e t xs hb
      have hb' := hs.L _ _ hb
      rw [hb'] at hlb
      injection hlb with hlb
      subst hlb
      rw [if_pos hsl] at h
      injection h with h
      exact fin rfl h.symm
    · rename_i e t xs hb
      have hb' := hs.L _ _ hb
      rw [hb'] at hlb
      injection hlb with hlb
      subst hlb
      rw [if_pos hsl] at h
      injection h with h
      exact fin rfl h.symm
    · cases h
  · rename_i b ep p e t xs
    obtain ⟨lb, hlb, ⟨A, m, c, rfl⟩, hal⟩ := hx
    split at h
    · rename_i d ep' e' t' ys hb
      have hb' := hs.L _ _ hb
      rw [hb'] at hlb
      injection hlb with hlb
      subst hlb
      split at h
      · rename_i hc
        injection h with h
        obtain ⟨_, q⟩ := hal _ _ _ _ _ rfl
        obtain ⟨⟨A', c', he, hl, _⟩, _⟩ := q hc.1
        injection he with he _
        injection he with e1 e2 e3
        exact ⟨A, m, c, rfl, by rw [← h, e2], by omega⟩
      · cases h
    · cases h
  · rw [if_pos hsl] at h
    injection h with h
    exact ⟨none, 0, 0, hx, h.symm, Nat.le_refl _⟩
  · split at h
    · rename_i hst
      obtain ⟨e, hu⟩ := isSliceT_ok hsl
      rw [isStrT_ok hst] at hu
      cases hu
    · cases h
  · cases h
theorem evLen_sl {E : Nat} {x : CV} {n : Int} (h : evLen P L E x = some n) : isSliceT P E = true ∨ ∃ s, x = .str s ∧ isStrT P E = true ∧ n = (s.size : Int) := by
  unfold evLen at h
  split at h
  · split at h
    · exact .inl (by assumption)
    · cases h
  · split at h
    · split at h
      · exact .inl (by assumption)
      · cases h
    · split at h
      · exact .inl (by assumption)
      · cases h
    · cases h
  · split at h
    · split at h
      · exact .inl (by assumption)
      · cases h
    · split at h
      · exact .inl (by assumption)
      · cases h
    · cases h
  · split at h
    · split at h
      · rename_i hc
        exact .inl hc.2
      · cases h
    · cases h
  · split at h
    · exact .inl (by assumption)
    · cases h
  · split at h
    · rename_i s hs
      injection h with h
      exact .inr ⟨s, rfl, hs, h.symm⟩
    · cases h
  · cases h
theorem evLen_ok (hR : Rel P M wE C st a) (hs : Sees T L st) {E : Nat} {x : CV} {n : Int} (h : evLen P L E x = some n) {u : Value} (hx : RC P C st.loc x u) (ty : TypeId) (cs : Array Bool) (w : World) : (builtin .len #[E] ty cs #[u]).run P w = .ok (.value (.int .i64 n)) w := by
  rcases evLen_sl h with hsl | ⟨s, rfl, hst, rfl⟩
  · obtain ⟨A, m, c, rfl, rfl, _⟩ := evLen_slice hR hs h hsl hx
    exact len_slice hsl _ _ _ _ _ _
  · obtain rfl : u = .string s := hx
    simp [builtin, Builtin.len_, Sem.run_bind, Sem.run_pure, run_underlying (isStrT_ok hst), goInt]

/-! ### parts of slices -/
theorem bound_run {k : IntKind} {i : Int} {y : Nat} {code : BoundsCode} (h0 : 0 ≤ i) (h1 : i ≤ (y : Int)) (w : World) : (Instr.sliceBound (.int k i) y code).run P w = .ok i.toNat w := by
  simp only [Instr.sliceBound, asIntOf, Sem.run_bind, Sem.run_pure, Result.andThen_ok]
  rw [if_pos ⟨h0, h1⟩]
  rfl
/-- What a part of a slice is, by the evaluator and by the machine. -/
theorem evSlice_ok (hR : Rel P M wE C st a) (hs : Sees T L st) {E e : Nat} (hu : P.underlying E = some (.slice e)) {lo hi n : Int} {x c : CV} (h : evSlice P L e lo hi x = some c) (hn : evLen P L E x = some n) (h0 : 0 ≤ lo) (h1 : lo ≤ hi) (h2 : hi ≤ n) {u : Value} (hx : RC P C st.loc x u) :
    ∃ A m cap, u = .slice A m cap ∧ n = (m : Int) ∧ m ≤ cap ∧ ∀ mx, (hi.toNat ≤ mx ∧ mx ≤ cap) → RC P C st.loc c (.slice (if mx = lo.toNat then A else A.map (·.add (lo.toNat * P.cellsOf e))) (hi.toNat - lo.toNat) (mx - lo.toNat)) := by
  have hsl : isSliceT P E = true := by simp [isSliceT, hu]
  obtain ⟨A, m, cap, rfl, rfl, hmc⟩ := evLen_slice hR hs hn hsl hx
  refine ⟨A, m, cap, rfl, rfl, hmc, fun mx hmx => ?_⟩
  have hd : hi.toNat - lo.toNat = (hi - lo).toNat := by omega
  rw [hd]
  have hA : 0 < mx - lo.toNat → (if mx = lo.toNat then A else A.map (·.add (lo.toNat * P.cellsOf e))) = A.map (·.add (lo.toNat * P.cellsOf e)) := fun hq => if_neg (by omega)
  generalize hA1 : (if mx = lo.toNat then A else A.map (·.add (lo.toNat * P.cellsOf e))) = A1 at hA ⊢
  unfold evSlice at h
  split at h
  · rename_i e' t xs
    split at h
    · rename_i hsz
      injection h with h
      subst h
      rw [hsz] at hA
      exact Rd_sub hx h0 h1 h2 (by omega) hA
    · cases h
  · rename_i b
    obtain ⟨lb, hlb, hsh, hal⟩ := hx
    split at h
    · rename_i d ep e' t xs hb
      have hb' := hs.L _ _ hb
      rw [hb'] at hlb
      injection hlb with hlb
      subst hlb
      split at h
      · rename_i hsz
        injection h with h
        subst h
        rw [hsz] at hA
        have hρ := hal rfl
        exact ⟨_, hb', ⟨_, _, _, rfl⟩, fun _ => ⟨A, m, cap, mx - lo.toNat, A1, hρ.symm, h0, h1, h2, by omega, by omega, rfl, hA⟩⟩
      · cases h
    · rename_i e' t xs hb
      have hb' := hs.L _ _ hb
      rw [hb'] at hlb
      injection hlb with hlb
      subst hlb
      split at h
      · rename_i hsz
        injection h with h
        subst h
        rw [hsz] at hA
        have hρ := hal rfl
        have hr : Rd C.S C.w (.sl e' t) xs [C.ρ b] := hR.inv.ok _ _ hb'
        rw [← hρ] at hr
        exact Rd_sub hr h0 h1 h2 (by omega) hA
      · cases h
    · cases h
  · rename_i b sz l hh
    obtain ⟨lb, hlb, hsh, hal⟩ := hx
    split at h
    · rename_i d ep e' t xs hb
      have hb' := hs.L _ _ hb
      rw [hb'] at hlb
      injection hlb with hlb
      subst hlb
      split at h
      · rename_i hc
        obtain ⟨hsz, rfl⟩ := hc
        injection h with h
        subst h
        rw [hsz] at hA
        obtain ⟨A0, n0, c0, c', A', q1, q2, q3, q4, q5, q6, q7, q8⟩ := hal rfl
        injection q7 with e1 e2 e3
        subst e1; subst e3
        refine ⟨_, hb', ⟨_, _, _, rfl⟩, fun _ => ⟨A0, n0, c0, mx - lo.toNat, A1, q1, by omega, by omega, by omega, by omega, by omega, by rw [show (l + hi - (l + lo)).toNat = (hi - lo).toNat by omega], fun hq => ?_⟩⟩
        rw [hA hq, q8 (by omega), Option.map_map]
        congr 1
        funext ad
        simp only [Function.comp, add_add]
        congr 1
        rw [show (l + lo).toNat = l.toNat + lo.toNat by omega, Nat.add_mul]
      · cases h
    · cases h
  · split at h
    case isFalse => cases h
    injection h with h
    subst h
    have hx : Value.slice A m cap = .slice none 0 0 := hx
    injection hx with q1 q2 q3
    subst q1; subst q2; subst q3
    have : A1 = none := by rw [← hA1]; split <;> rfl
    subst this
    show _ = _
    rw [show mx - lo.toNat = 0 by omega, show (hi - lo).toNat = 0 by omega]
  · cases h
end
end Go.Proofs.Ytceffcfnjjlbkaa.E
