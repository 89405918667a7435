/- The evaluator, 6: loads, fields, addresses, lengths, parts of slices. -/
import Derived.Test.YtceffcfnjjlbkaaE5
import Derived.Conc.MuLone
namespace Go.Proofs.Ytceffcfnjjlbkaa.E
open Go.RowKit
set_option linter.unusedVariables false
set_option linter.unusedSimpArgs false
section
variable {P : Program} {M : Nat → Prop} {wE : World} {C : Cx} {st : St} {a : Act} {T : Nat → Option TV} {L : Nat → Option LB}

/-! ### types at run time -/
theorem info_of_underlying {T : Nat} {d : TypeDesc} (h : P.underlying T = some d) : ∃ i, P.info? T = some i := by
  unfold Program.underlying at h
  split at h
  · exact ⟨_, by assumption⟩
  · exact ⟨_, by assumption⟩
  · cases h
theorem info_of_cells {T : Nat} (h : 0 < P.cellsOf T) : ∃ i, P.info? T = some i := by
  unfold Program.cellsOf at h
  cases hi : P.info? T with
  | some i => exact ⟨i, rfl⟩
  | none => rw [hi] at h; simp at h
theorem size_run {T : Nat} {i : TypeInfo} (h : P.info? T = some i) (w : World) : (sizeOf T).run P w = .ok (P.cellsOf T) w := by
  simp [sizeOf, typeInfo, Sem.run_bind, h, Program.cellsOf]
theorem tk_ok {T : Nat} {c : TK} {g : Bool} (h : tk P T = some c) (hg : c.g = some g) : (∃ i, P.info? T = some i) ∧ ∀ w, (isAgg T).run P w = .ok g w := by
  unfold tk at h
  split at h <;> first | (injection h with h; subst h) | cases h | skip
  all_goals first | (injection hg with hg; subst hg) | skip
  all_goals first
    | (rename_i hu
       exact ⟨info_of_underlying hu, fun w => by unfold isAgg; rw [Sem.run_bind, run_underlying hu w]; rfl⟩)
    | skip
  · split at h
    · injection h with h
      subst h
      cases hg
    · cases h
theorem tk_arr {T : Nat} {k : IntKind} {n : Nat} (h : tk P T = some (.arr k n)) : (∃ i, P.info? T = some i) ∧ (∀ w, (isAgg T).run P w = .ok true w) ∧ ∃ e, P.underlying T = some (.array n e) := by
  unfold tk at h
  split at h <;> first | (injection h with h; cases h; done) | cases h | skip
  rename_i n' e hu
  split at h
  · injection h with h
    injection h with h1 h2
    subst h2
    exact ⟨info_of_underlying hu, fun w => by unfold isAgg; rw [Sem.run_bind, run_underlying hu w]; rfl, e, hu⟩
  · cases h
theorem cvsOf_ok {loc : Loc} : ∀ {l : List Value} {cs : List CV}, cvsOf l = some cs → RCs P C loc cs l
  | [], cs, h => by
    simp only [cvsOf] at h
    injection h with h
    subst h
    exact RCs_nil
  | v :: l, cs, h => by
    simp only [cvsOf] at h
    split at h
    · rename_i c hc
      split at h
      · rename_i r hr
        injection h with h
        subst h
        exact RCs_mk (cvOf_ok hc) (cvsOf_ok hr)
      · cases h
    · cases h
theorem zeroV_ok {T : Nat} {z : Value} (h : zeroV P T = some z) : ∃ i, P.info? T = some i ∧ i.zero = some z ∧ z.cells.size = i.size ∧ ∀ w, (zeroValue T).run P w = .ok z w := by
  unfold zeroV at h
  split at h
  · rename_i i hi
    split at h
    · rename_i z' hz
      split at h
      · rename_i hsz
        injection h with h
        subst h
        exact ⟨i, hi, hz, hsz, fun w => by simp [zeroValue, typeInfo, Sem.run_bind, hi, hz]⟩
      · cases h
    · cases h
  · cases h
theorem zeroC_ok {T : Nat} {cs : List CV} (h : zeroC P T = some cs) : ∃ z : Value, zeroV P T = some z ∧ ∀ (C : Cx) (loc : Loc), RCs P C loc cs z.cells.toList := by
  unfold zeroC at h
  split at h
  · rename_i z hz
    exact ⟨z, hz, fun C loc => cvsOf_ok h⟩
  · cases h

/-! ### loads -/
theorem load_run {T : Nat} {g : Bool} (hi : ∃ i, P.info? T = some i) (hag : ∀ w, (isAgg T).run P w = .ok g w) {ad : Addr} {sg : List Value} (hl : sg.length = P.cellsOf T) {w : World} (hc : ∀ j v, sg[j]? = some v → w.cell? (ad.add j) = some v) {v : Value} (hv : Pack g sg v) :
    (Instr.loadAt T (.pointer (some ad))).run P w = .ok v w := by
  obtain ⟨i, hi⟩ := hi
  simp only [Instr.loadAt, Instr.sureAddr, Sem.run_bind, Sem.run_pure, Result.andThen_ok, loadVar, hag w]
  unfold Pack at hv
  cases g with
  | true =>
    simp only [if_true] at hv ⊢
    subst hv
    have := run_loadCells_list (P := P) w ad sg hc
    rw [Sem.run_bind, size_run hi, Result.andThen_ok, Sem.run_bind, ← hl, this]
    rfl
  | false =>
    simp only [Bool.false_eq_true, if_false] at hv ⊢
    subst hv
    have := hc 0 v rfl
    rw [add_zero] at this
    simp [load, Sem.run, this]
theorem seg_len {loc : Loc} {cs : List CV} {vs : List Value} (h : RCs P C loc cs vs) {o n : Nat} (hn : o + n ≤ cs.length) : ((vs.drop o).take n).length = n := by
  have := h.1
  simp
  omega
theorem getD_get {α : Type} {xs : List α} {i : Int} {n : Nat} {z : α} (h0 : 0 ≤ i) (h1 : i.toNat < xs.length) : xs[i.toNat]? = some (xs.getD i.toNat z) := by
  rw [List.getD_eq_getElem?_getD, List.getElem?_eq_getElem h1]
  rfl
/-- The cells of an element, owned. -/
def OC (w : World) (c : CV) (v : Value) (ψ : Nat → Prop) : Prop :=
  match c with
  | .bor e t xs => Own w (.sl e t) xs [v] ψ
  | .int k n => v = .int k n
  | .bool b => v = .bool b
  | .str s => v = .string s
  | _ => False
def OCs (w : World) (cs : List CV) (vs : List Value) (φ : Nat → Prop) : Prop :=
  cs.length = vs.length ∧ ∃ ψ : Nat → Nat → Prop, (∀ j k, ψ j k → φ k) ∧ (∀ i j k, ψ i k → ψ j k → i = j) ∧ ∀ j c v, cs[j]? = some c → vs[j]? = some v → OC w c v (ψ j)
theorem OCs.one {w : World} {c : CV} {v : Value} {φ : Nat → Prop} (h : OC w c v φ) : OCs w [c] [v] φ :=
  ⟨rfl, fun j k => j = 0 ∧ φ k, fun j k h => h.2, fun i j k h h' => h.1.trans h'.1.symm, fun j c' v' hc hv => by
    cases j with
    | zero =>
      simp at hc hv
      subst hc; subst hv
      have e : (fun k => (0 : Nat) = 0 ∧ φ k) = φ := funext fun k => by simp
      show OC w c v (fun k => (0 : Nat) = 0 ∧ φ k)
      rw [e]
      exact h
    | succ j => simp at hc⟩
theorem OCs.append {w : World} {cs ds : List CV} {us vs : List Value} {φ φ0 φ1 : Nat → Prop} (h : OCs w cs us φ0) (h' : OCs w ds vs φ1) (h0 : ∀ k, φ0 k → φ k) (h1 : ∀ k, φ1 k → φ k) (hd : ∀ k, φ0 k → ¬ φ1 k) : OCs w (cs ++ ds) (us ++ vs) φ := by
  obtain ⟨l0, ψ0, a0, b0, c0⟩ := h
  obtain ⟨l1, ψ1, a1, b1, c1⟩ := h'
  refine ⟨by simp [l0, l1], fun j k => if j < cs.length then ψ0 j k else ψ1 (j - cs.length) k, fun j k hk => ?_, fun i j k hi hj => ?_, fun j c v hc hv => ?_⟩
  · simp only at hk
    split at hk
    · exact h0 k (a0 j k hk)
    · exact h1 k (a1 _ k hk)
  · simp only at hi hj
    split at hi <;> split at hj
    · exact b0 i j k hi hj
    · exact absurd (a1 _ k hj) (hd k (a0 _ k hi))
    · exact absurd (a1 _ k hi) (hd k (a0 _ k hj))
    · have := b1 _ _ k hi hj
      omega
  · by_cases hj : j < cs.length
    · rw [List.getElem?_append_left hj] at hc
      rw [List.getElem?_append_left (by omega)] at hv
      have e : (fun k => if j < cs.length then ψ0 j k else ψ1 (j - cs.length) k) = ψ0 j := funext fun k => by rw [if_pos hj]
      show OC w c v (fun k => if j < cs.length then ψ0 j k else ψ1 (j - cs.length) k)
      rw [e]
      exact c0 j c v hc hv
    · rw [List.getElem?_append_right (by omega)] at hc
      rw [List.getElem?_append_right (by omega), ← l0] at hv
      have e : (fun k => if j < cs.length then ψ0 j k else ψ1 (j - cs.length) k) = ψ1 (j - cs.length) := funext fun k => by rw [if_neg hj]
      show OC w c v (fun k => if j < cs.length then ψ0 j k else ψ1 (j - cs.length) k)
      rw [e]
      exact c1 _ c v hc hv
theorem Own.ocs {w : World} : ∀ {t : Ty} {x : t.den} {cs : List Value} {φ : Nat → Prop}, Own w t x cs φ → OCs w (flat t x) cs φ
  | .int k, n, cs, φ, h => by rw [show cs = _ from h]; exact OCs.one rfl
  | .bool, n, cs, φ, h => by rw [show cs = _ from h]; exact OCs.one rfl
  | .str, n, cs, φ, h => by rw [show cs = _ from h]; exact OCs.one rfl
  | .sl e t, xs, cs, φ, h => by
    obtain ⟨A, c, rfl, _⟩ := Own.form h
    exact OCs.one (c := .bor e t xs) h
  | .pair p q, x, cs, φ, h => by
    obtain ⟨c0, c1, φ0, φ1, rfl, h0, h1, h2, h3, h4⟩ := h
    exact OCs.append h0.ocs h1.ocs h2 h3 h4
/-- The cells of an element of a row of one's own. -/
theorem innAt_get : ∀ (cs : List CV) (b ep sz : Nat) (i : Int) (j0 j : Nat), (innAt b ep sz i j0 cs)[j]? = (cs[j]?).map fun c => match c with | .bor e t ys => .inn b ep (some (sz, i, j0 + j)) e t ys | c => c
  | [], b, ep, sz, i, j0, j => by simp [innAt]
  | c :: cs, b, ep, sz, i, j0, 0 => by cases c <;> simp [innAt]
  | c :: cs, b, ep, sz, i, j0, j + 1 => by
    have h := innAt_get cs b ep sz i (j0 + 1) j
    have e : j0 + 1 + j = j0 + (j + 1) := by omega
    rw [e] at h
    cases c <;> simpa [innAt] using h
theorem innAt_length : ∀ (cs : List CV) (b ep sz : Nat) (i : Int) (j0 : Nat), (innAt b ep sz i j0 cs).length = cs.length
  | [], b, ep, sz, i, j0 => rfl
  | c :: cs, b, ep, sz, i, j0 => by cases c <;> simp [innAt, innAt_length cs]
theorem own_row {w : World} {e : Nat} {t : Ty} {xs : List t.den} {v : Value} {φ : Nat → Prop} (h : Own w (.sl e t) xs [v] φ) {g o n c : Nat} (hv : v = .slice (some ⟨g, o, none⟩) n c) :
    n = xs.length ∧ ∃ (cur : List Value) (f : Nat → Nat → Prop), blk w g cur e ∧ xs.length ≤ c ∧ c ≤ maxLen ∧ o + c * t.sz ≤ cur.length ∧ φ g ∧ (∀ i k, f i k → φ k ∧ k ≠ g) ∧ (∀ i j k, f i k → f j k → i = j) ∧ ∀ i x, xs[i]? = some x → Own w t x ((cur.drop (o + i * t.sz)).take t.sz) (f i) := by
  subst hv
  rcases h with ⟨h, _⟩ | ⟨g', o', c', cur, f, h1, h2, h3, h4, h5, h6, h7, h8, h9⟩
  · cases h
  · injection h1 with h1 _
    injection h1 with h1 hn hc
    injection h1 with h1
    injection h1 with hg ho _
    subst hg; subst ho; subst hc; subst hn
    exact ⟨rfl, cur, f, h2, h3, h4, h5, h6, h7, h8, h9⟩
theorem ownSh_row {S : Nat → Prop} {w : World} {e : Nat} {t : Ty} {xs : List t.den} {v : Value} {φ : Nat → Prop} (h : OwnSh S w e t xs v φ) {g o n c : Nat} (hv : v = .slice (some ⟨g, o, none⟩) n c) :
    n = xs.length ∧ ∃ cur : List Value, blk w g cur e ∧ xs.length ≤ c ∧ c ≤ maxLen ∧ o + c * t.sz ≤ cur.length ∧ φ g ∧ ∀ i x, xs[i]? = some x → Rd S w t x ((cur.drop (o + i * t.sz)).take t.sz) := by
  subst hv
  rcases h with ⟨h, _⟩ | ⟨g', o', c', cur, h1, h2, h3, h4, h5, h6, h7⟩
  · cases h
  · injection h1 with h1 hn hc
    injection h1 with h1
    injection h1 with hg ho _
    subst hg; subst ho; subst hc; subst hn
    exact ⟨rfl, cur, h2, h3, h4, h5, h6, h7⟩
/-- A row's element, its cells where they lie. -/
theorem elem_ok (hI : Inv P M wE C st.loc) {b : Nat} {d : Bool} {ep e : Nat} {t : Ty} {xs : List t.den} (hb : lget st.loc b = some (.row d ep e t xs)) {g o n c : Nat} (hρ : C.ρ b = .slice (some ⟨g, o, none⟩) n c) {i : Int} (h0 : 0 ≤ i) (h1 : i.toNat < n) :
    i.toNat < xs.length ∧ ∃ cur : List Value, blk C.w g cur e ∧ C.φ b g ∧ o + c * t.sz ≤ cur.length ∧ n ≤ c ∧ ((cur.drop (o + i.toNat * t.sz)).take t.sz).length = t.sz ∧ RCs P C st.loc (elemCells d b ep t xs i) ((cur.drop (o + i.toNat * t.sz)).take t.sz) := by
  have hok := hI.ok b _ hb
  cases d with
  | true =>
    obtain ⟨hn, cur, f, k1, k2, k3, k4, k5, k6, k7, k8⟩ := own_row hok hρ
    have hlt : i.toNat < xs.length := by omega
    have hx := getD_get (n := n) (z := t.z) h0 hlt
    have hO := k8 _ _ hx
    refine ⟨hlt, cur, k1, k5, k4, by omega, hO.len, ?_⟩
    obtain ⟨hl, ψ, p1, p2, p3⟩ := hO.ocs
    unfold elemCells
    split
    · refine ⟨by rw [innAt_length]; exact hl, fun j c' v hc hv => ?_⟩
      rw [innAt_get] at hc
      obtain ⟨c0, hc0, rfl⟩ := Option.map_eq_some_iff.1 hc
      have hoc := p3 j c0 v hc0 hv
      cases c0 <;> first | exact hoc | exact hoc.elim | skip
      rename_i e' t' ys
      have hoc : Own C.w (.sl e' t') ys [v] (ψ j) := hoc
      obtain ⟨A, c1, hvs, _⟩ := hoc.form
      injection hvs with hvs _
      refine ⟨_, hb, ⟨A, _, c1, hvs⟩, fun d1 ep1 e1 t1 ys1 he => ?_⟩
      injection he with _ hep _ _ _
      subst hep
      refine ⟨Nat.le_refl _, fun _ => ⟨Rd.mono (fun k hk => .inr ⟨(k6 _ k (p1 j k hk)).1, ?_⟩) (fun _ _ => rfl) hoc.rd, fun q hq => ?_⟩⟩
      · injection hq with hq
        subst hq
        refine ⟨g, o, n, c, hρ, k5, h0, h1, ?_⟩
        simp only
        rw [blk_cell k1, Nat.zero_add]
        exact (take_drop_get hv).1
      · rw [hρ]
        intro he
        simp [Value.ownBlock] at he
        exact (k6 _ k (p1 j k hk)).2 he.symm
    · rename_i hfl
      have hfl : t.flatB = true := by simpa using hfl
      have hr : Rd C.S C.w t (xs.getD i.toNat t.z) ((cur.drop (o + i.toNat * t.sz)).take t.sz) := Own.rd (φ := C.S) (Rd.own hfl hO.rd)
      exact flat_ok hr
  | false =>
    obtain ⟨hn, cur, k1, k2, k3, k4, k5, k6⟩ := ownSh_row hok hρ
    have hlt : i.toNat < xs.length := by omega
    have hx := getD_get (n := n) (z := t.z) h0 hlt
    have hO := k6 _ _ hx
    refine ⟨hlt, cur, k1, k5, k4, by omega, hO.len, ?_⟩
    simp only [elemCells, Bool.false_and, Bool.false_eq_true, if_false]
    exact flat_ok hO
theorem seg_get {vs : List Value} {o n j : Nat} {x : Value} (hj : ((vs.drop o).take n)[j]? = some x) : vs[o + j]? = some x := (take_drop_get hj).1
theorem evLoad_ok (hR : Rel P M wE C st a) (hs : Sees T L st) {E : Nat} {p : CV} {tv : TV} (h : evLoad P L E p = some tv) {u : Value} (hp : RC P C st.loc p u) : ∃ v, RV P C st.loc tv v ∧ (Instr.loadAt E u).run P C.w = .ok v C.w := by
  unfold evLoad at h
  split at h
  · rename_i k n htk
    obtain ⟨hi, hag, e, hu⟩ := tk_arr htk
    split at h
    · rename_i b
      split at h
      · rename_i T' k' n' xs hb
        split at h
        · rename_i hkn
          obtain ⟨rfl, rfl, hcl⟩ := hkn
          injection h with h
          subst h
          have hb' := hs.L _ _ hb
          obtain ⟨hlen, g, h1, h2, h3⟩ := hR.inv.ok _ _ hb'
          obtain ⟨lb, hlb, _, hal⟩ := hp
          rw [hb'] at hlb
          injection hlb with hlb
          subst hlb
          obtain ⟨g', h4, rfl⟩ := hal rfl
          rw [h1] at h4
          injection h4 with h4
          injection h4 with h4
          injection h4 with h4
          subst h4
          refine ⟨.agg (xs.map (Value.int k)).toArray, ⟨hlen, rfl⟩, load_run (sg := xs.map (Value.int k)) hi hag (by rw [List.length_map, hcl, hlen]) (fun j x hj => ?_) rfl⟩
          rw [add_lit, blk_cell h2, Nat.zero_add]
          exact hj
        · cases h
      · cases h
    · cases h
  · rename_i c htk
    split at h
    · rename_i g hg
      obtain ⟨hi, hag⟩ := tk_ok htk hg
      split at h
      · rename_i b off
        split at h
        · rename_i T' cs hb
          split at h
          · rename_i hle
            have hb' := hs.L _ _ hb
            obtain ⟨g', vs, h1, h2, h3, h4⟩ := hR.inv.ok _ _ hb'
            obtain ⟨lb, hlb, _, hal⟩ := hp
            rw [hb'] at hlb
            injection hlb with hlb
            subst hlb
            obtain ⟨g'', h5, rfl⟩ := hal rfl
            rw [h1] at h5
            injection h5 with h5
            injection h5 with h5
            injection h5 with h5
            subst h5
            obtain ⟨v, hv, hrv⟩ := tvOf_ok h (RCs_seg h4 off (P.cellsOf E))
            refine ⟨v, hrv, load_run hi hag (seg_len h4 hle) (fun j x hj => ?_) hv⟩
            rw [add_lit, blk_cell h2]
            exact seg_get hj
          · cases h
        · cases h
      · rename_i t x off
        split at h
        · rename_i hle
          obtain ⟨ad, c, rfl, hF, hc, hS⟩ := hp
          have hfl := flat_ok (P := P) (loc := st.loc) hF
          obtain ⟨v, hv, hrv⟩ := tvOf_ok h (RCs_seg hfl off (P.cellsOf E))
          refine ⟨v, hrv, load_run hi hag (seg_len hfl (by rw [flat_length]; exact hle)) (fun j y hj => ?_) hv⟩
          rw [add_add]
          exact hc _ _ (seg_get hj)
        · cases h
      · rename_i b sz i off
        split at h
        · rename_i d ep e t xs hb
          split at h
          · rename_i hle
            obtain ⟨rfl, hle⟩ := hle
            have hb' := hs.L _ _ hb
            obtain ⟨lb, hlb, _, hal⟩ := hp
            rw [hb'] at hlb
            injection hlb with hlb
            subst hlb
            obtain ⟨g', o, n, c, h1, h2, h3, rfl⟩ := hal rfl
            obtain ⟨_, cur, k1, k2, k3, k4, k5, k6⟩ := elem_ok hR.inv hb' h1 h2 h3
            obtain ⟨v, hv, hrv⟩ := tvOf_ok h (RCs_seg k6 off (P.cellsOf E))
            refine ⟨v, hrv, load_run hi hag (seg_len k6 (by rw [k6.1, k5]; exact hle)) (fun j y hj => ?_) hv⟩
            rw [add_lit, blk_cell k1]
            have := (take_drop_get (seg_get hj)).1
            rw [show o + i.toNat * t.sz + off + j = o + i.toNat * t.sz + (off + j) by omega]
            exact this
          · cases h
        · cases h
      · rename_i b n i
        split at h
        · rename_i T' k n' xs hb
          split at h
          · rename_i hc
            obtain ⟨rfl, rfl, hone⟩ := hc
            injection h with h
            subst h
            have hb' := hs.L _ _ hb
            obtain ⟨hlen, g, h1, h2, h3⟩ := hR.inv.ok _ _ hb'
            obtain ⟨lb, hlb, _, hal⟩ := hp
            rw [hb'] at hlb
            injection hlb with hlb
            subst hlb
            obtain ⟨g', h4, h5, h6, rfl⟩ := hal rfl
            rw [h1] at h4
            injection h4 with h4
            injection h4 with h4
            injection h4 with h4
            subst h4
            refine ⟨.int k (xs.getD i.toNat 0), rfl, load_run (sg := [.int k (xs.getD i.toNat 0)]) hi hag (by rw [hone]; rfl) (fun j y hj => ?_) rfl⟩
            cases j with
            | zero =>
              simp only [List.getElem?_cons_zero, Option.some.injEq] at hj
              subst hj
              rw [add_lit, blk_cell h2, Nat.add_zero, List.getElem?_map, getD_get (n := n) (z := 0) h5 (by omega)]
              rfl
            | succ j => simp at hj
          · cases h
        · cases h
      · cases h
    · cases h
  · cases h
end
end Go.Proofs.Ytceffcfnjjlbkaa.E
