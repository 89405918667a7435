/- The evaluator, 5: operands, data that is read, arithmetic. -/
import Derived.Test.YtceffcfnjjlbkaaE4
import Derived.Deep.MidRow
import Derived.Laws.StructEq
namespace Go.Proofs.Ytceffcfnjjlbkaa.E
open Go.RowKit
set_option linter.unusedVariables false
set_option linter.unusedSimpArgs false

/-- What the evaluator sees of a state. -/
structure Sees (T : Nat → Option TV) (L : Nat → Option LB) (st : St) : Prop where
  T : ∀ t v, T t = some v → st.tm[t]? = some v
  L : ∀ b lb, L b = some lb → lget st.loc b = some lb
section
variable {P : Program} {M : Nat → Prop} {wE : World} {C : Cx} {st : St} {a : Act} {T : Nat → Option TV} {L : Nat → Option LB}

theorem cvOf_ok {loc : Loc} {v : Value} {c : CV} (h : cvOf v = some c) : RC P C loc c v := by
  unfold cvOf at h
  split at h <;> first | (injection h with h; subst h; rfl) | cases h
theorem evO_ok (hR : Rel P M wE C st a) (hs : Sees T L st) {x : Operand} {tv : TV} (h : evO T x = some tv) : RV P C st.loc tv (a.eval x) := by
  cases x with
  | tmp t => exact hR.tm t tv (hs.T t tv h)
  | const v =>
    simp only [evO] at h
    split at h
    · rename_i c hc
      injection h with h
      subst h
      exact cvOf_ok (loc := st.loc) hc
    · cases h
  | global g => simp [evO] at h
  | func f =>
    simp only [evO] at h
    injection h with h
    subst h
    rfl
theorem evOs_ok (hR : Rel P M wE C st a) (hs : Sees T L st) : ∀ {l : List Operand} {vs : List TV}, evOs T l = some vs → vs.length = (l.map a.eval).length ∧ ∀ (j : Nat) (tv : TV) (v : Value), vs[j]? = some tv → (l.map a.eval)[j]? = some v → RV P C st.loc tv v
  | [], vs, h => by
    simp only [evOs] at h
    injection h with h
    subst h
    exact ⟨rfl, fun j tv x hj => by simp at hj⟩
  | x :: l, vs, h => by
    simp only [evOs] at h
    split at h
    · rename_i v hv
      split at h
      · rename_i r hr
        injection h with h
        subst h
        obtain ⟨h1, h2⟩ := evOs_ok hR hs hr
        refine ⟨by simp [h1], fun j tv y hj hy => ?_⟩
        cases j with
        | zero =>
          simp at hj hy
          subst hj; subst hy
          exact evO_ok hR hs hv
        | succ j => exact h2 j tv y (by simpa using hj) (by simpa using hy)
      · cases h
    · cases h

/-! ### lists of cells -/
theorem RCs_cons {loc : Loc} {c : CV} {cs : List CV} {vs : List Value} (h : RCs P C loc (c :: cs) vs) : ∃ v vs', vs = v :: vs' ∧ RC P C loc c v ∧ RCs P C loc cs vs' := by
  obtain ⟨hl, hr⟩ := h
  match vs, hl with
  | v :: vs', hl => exact ⟨v, vs', rfl, hr 0 c v rfl rfl, ⟨by simpa using hl, fun j c' v' hc hv => hr (j + 1) c' v' (by simpa using hc) (by simpa using hv)⟩⟩
theorem RCs_nil {loc : Loc} : RCs P C loc [] [] := ⟨rfl, fun j c v hc => by simp at hc⟩
theorem RCs_mk {loc : Loc} {c : CV} {cs : List CV} {v : Value} {vs : List Value} (h : RC P C loc c v) (h' : RCs P C loc cs vs) : RCs P C loc (c :: cs) (v :: vs) := by
  refine ⟨by simp [h'.1], fun j c' v' hc hv => ?_⟩
  cases j with
  | zero => simp at hc hv; subst hc; subst hv; exact h
  | succ j => exact h'.2 j c' v' (by simpa using hc) (by simpa using hv)
theorem RCs_one {loc : Loc} {c : CV} {v : Value} (h : RC P C loc c v) : RCs P C loc [c] [v] := RCs_mk h RCs_nil
theorem RCs_append {loc : Loc} : ∀ {cs ds : List CV} {us vs : List Value}, RCs P C loc cs us → RCs P C loc ds vs → RCs P C loc (cs ++ ds) (us ++ vs)
  | [], ds, us, vs, h, h' => by
    obtain rfl : us = [] := List.length_eq_zero_iff.1 h.1.symm
    exact h'
  | c :: cs, ds, us, vs, h, h' => by
    obtain ⟨v, us', rfl, h1, h2⟩ := RCs_cons h
    exact RCs_mk h1 (RCs_append h2 h')
theorem RCs_drop {loc : Loc} {cs : List CV} {vs : List Value} (h : RCs P C loc cs vs) (n : Nat) : RCs P C loc (cs.drop n) (vs.drop n) :=
  ⟨by simp [h.1], fun j c v hc hv => by rw [List.getElem?_drop] at hc hv; exact h.2 _ c v hc hv⟩
theorem RCs_take {loc : Loc} {cs : List CV} {vs : List Value} (h : RCs P C loc cs vs) (n : Nat) : RCs P C loc (cs.take n) (vs.take n) := by
  refine ⟨by simp [h.1], fun j c v hc hv => ?_⟩
  rw [List.getElem?_take] at hc hv
  split at hc
  · rename_i hj
    rw [if_pos hj] at hv
    exact h.2 _ c v hc hv
  · cases hc
theorem RCs_seg {loc : Loc} {cs : List CV} {vs : List Value} (h : RCs P C loc cs vs) (off n : Nat) : RCs P C loc (seg cs off n) ((vs.drop off).take n) := RCs_take (RCs_drop h off) n
theorem RCs_splice {loc : Loc} {cs sg : List CV} {vs us : List Value} (h : RCs P C loc cs vs) (h' : RCs P C loc sg us) (off : Nat) : RCs P C loc (splice cs off sg) (vs.take off ++ us ++ vs.drop (off + us.length)) := by
  unfold splice
  rw [← h'.1]
  exact RCs_append (RCs_append (RCs_take h off) h') (RCs_drop h _)
theorem RC_one {loc : Loc} {c : CV} {v : Value} (h : RC P C loc c v) (hk : c.known = true) : v.oneCell' = true := by
  cases c with
  | int k n => obtain rfl : v = _ := h; rfl
  | bool b => obtain rfl : v = _ := h; rfl
  | str s => obtain rfl : v = _ := h; rfl
  | nil => obtain rfl : v = _ := h; rfl
  | bor e t xs => exact Rd.one h v (by simp)
  | own b => obtain ⟨_, _, ⟨A, n, c, rfl⟩, _⟩ := h; rfl
  | sub b sz lo hi => obtain ⟨_, _, ⟨A, n, c, rfl⟩, _⟩ := h; rfl
  | inn b ep p e t xs => obtain ⟨_, _, ⟨A, n, c, rfl⟩, _⟩ := h; rfl
  | ptr b off => obtain ⟨_, _, ⟨ad, rfl⟩, _⟩ := h; rfl
  | eptr b sz i off => obtain ⟨_, _, ⟨ad, rfl⟩, _⟩ := h; rfl
  | aptr b n i => obtain ⟨_, _, ⟨ad, rfl⟩, _⟩ := h; rfl
  | bptr t x off => obtain ⟨ad, c, rfl, _⟩ := h; rfl
  | fn f => obtain rfl : v = _ := h; rfl
  | clo f caps => obtain ⟨us, rfl, _⟩ := h; rfl
  | fnv ps rs G => obtain ⟨g, fs, cap, rfl, _⟩ := h; rfl
  | mp b => obtain ⟨_, _, ⟨ad, rfl⟩, _⟩ := h; rfl
  | un => cases hk
theorem RCs_all_one {loc : Loc} {cs : List CV} {vs : List Value} (h : RCs P C loc cs vs) (hk : cs.all CV.known = true) : ∀ u ∈ vs, u.oneCell' = true := by
  intro u hu
  obtain ⟨j, hj, rfl⟩ := List.getElem_of_mem hu
  have hj' : j < cs.length := by rw [h.1]; exact hj
  exact RC_one (h.2 j _ _ (List.getElem?_eq_getElem hj') (List.getElem?_eq_getElem hj)) (List.all_eq_true.mp hk _ (List.getElem_mem hj'))
theorem tvCells_ok {loc : Loc} {g : Bool} {v : TV} {cs : List CV} (h : tvCells g v = some cs) {u : Value} (hv : RV P C loc v u) : ∃ us, RCs P C loc cs us ∧ Pack g us u := by
  unfold tvCells at h
  split at h
  · split at h
    · rename_i hg
      injection h with h
      subst h
      obtain ⟨us, h1, h2⟩ := hv
      exact ⟨us, h1, by rw [Pack, if_pos hg]; exact h2⟩
    · cases h
  · split at h
    · cases h
    · rename_i hg
      injection h with h
      subst h
      exact ⟨[u], RCs_one hv, by rw [Pack, if_neg hg]⟩
  · cases h
theorem tvOf_ok {loc : Loc} {g : Bool} {cs : List CV} {tv : TV} (h : tvOf g cs = some tv) {vs : List Value} (hv : RCs P C loc cs vs) : ∃ v, Pack g vs v ∧ RV P C loc tv v := by
  unfold tvOf at h
  split at h
  · rename_i hg
    injection h with h
    subst h
    exact ⟨_, by rw [Pack, if_pos hg], vs, hv, rfl⟩
  · rename_i hg
    split at h
    · injection h with h
      subst h
      obtain ⟨v, vs', rfl, h1, h2⟩ := RCs_cons hv
      obtain rfl : vs' = [] := List.length_eq_zero_iff.1 h2.1.symm
      exact ⟨v, by rw [Pack, if_neg hg], h1⟩
    · cases h
theorem Pack_inj {g : Bool} {cs : List Value} {u v : Value} (h : Pack g cs u) (h' : Pack g cs v) : u = v := by
  unfold Pack at h h'
  cases g with
  | true =>
    simp only [if_true] at h h'
    rw [h, h']
  | false =>
    simp only [Bool.false_eq_true, if_false] at h h'
    rw [h] at h'
    injection h'
/-- The cells of data that is only read. -/
theorem flat_ok {loc : Loc} : ∀ {t : Ty} {x : t.den} {cs : List Value}, Rd C.S C.w t x cs → RCs P C loc (flat t x) cs
  | .int k, n, cs, h => by rw [show cs = _ from h]; exact RCs_one rfl
  | .bool, n, cs, h => by rw [show cs = _ from h]; exact RCs_one rfl
  | .str, n, cs, h => by rw [show cs = _ from h]; exact RCs_one rfl
  | .sl e t, xs, cs, h => by
    obtain ⟨A, c, rfl, h1⟩ := h
    exact RCs_one ⟨A, c, rfl, h1⟩
  | .pair p q, x, cs, h => by
    obtain ⟨c0, c1, rfl, h0, h1⟩ := h
    exact RCs_append (flat_ok h0) (flat_ok h1)

/-! ### data that is read -/
/-- What is reached from the local blocks with these names, and what stays. -/
def RdS (C : Cx) (loc : Loc) (ids : List Nat) (k : Nat) : Prop := C.S k ∨ ∃ b, b ∈ ids ∧ Lives loc b ∧ C.φ b k
theorem RdS.mono {loc : Loc} {ids ids' : List Nat} (h : ∀ b ∈ ids, b ∈ ids') {k : Nat} (hk : RdS C loc ids k) : RdS C loc ids' k :=
  hk.imp id fun ⟨b, h1, h2⟩ => ⟨b, h b h1, h2⟩
theorem cast_ok {t t' : Ty} {xs : List t.den} {ys : List t'.den} (h : cast? (t := t) (t' := t') xs = some ys) : ∃ e : t = t', e ▸ xs = ys := by
  unfold cast? at h
  split at h
  · rename_i e
    injection h with h
    exact ⟨e, h⟩
  · cases h
theorem Rd_e {S : Nat → Prop} {w : World} {e e' : Nat} {t : Ty} {xs : List t.den} {cs : List Value} (h : Rd S w (.sl e t) xs cs) : Rd S w (.sl e' t) xs cs := h
theorem OwnSh.rd {S : Nat → Prop} {w : World} {e e' : Nat} {t : Ty} {xs : List t.den} {v : Value} {φ : Nat → Prop} (h : OwnSh S w e t xs v φ) : Rd (fun k => S k ∨ φ k) w (.sl e' t) xs [v] := by
  rcases h with ⟨rfl, rfl⟩ | ⟨g, o, c, cur, rfl, h2, h3, h4, h5, h6, h7⟩
  · exact Rd.nil
  · refine ⟨_, c, rfl, h3, fun _ => ⟨_, rfl, .inr h6, fun i x hx => ⟨_, (h7 i x hx).len, Rd.mono (fun k hk => .inl hk) (fun _ _ => rfl) (h7 i x hx), fun j u hu => ?_⟩⟩⟩
    rw [add_lit, blk_cell h2, ← Nat.add_assoc]
    exact (take_drop_get hu).1
/-- A part of a slice. -/
theorem Rd_sub {S : Nat → Prop} {w : World} {e e' : Nat} {t : Ty} {xs : List t.den} {A A' : Option Addr} {n c c' : Nat} {lo hi : Int} (h : Rd S w (.sl e t) xs [.slice A n c]) (h0 : 0 ≤ lo) (h1 : lo ≤ hi) (h2 : hi ≤ (n : Int)) (h3 : (hi - lo).toNat ≤ c') (hA : 0 < c' → A' = A.map (·.add (lo.toNat * t.sz))) :
    Rd S w (.sl e' t) ((xs.drop lo.toNat).take (hi - lo).toNat) [.slice A' (hi - lo).toNat c'] := by
  obtain ⟨A0, cc, he, hl, hr⟩ := h
  injection he with he _
  injection he with hA0 hn hc
  subst hA0; subst hc
  have hlen : ((xs.drop lo.toNat).take (hi - lo).toNat).length = (hi - lo).toNat := by
    rw [List.length_take, List.length_drop]
    omega
  refine ⟨_, c', by rw [hlen], by rw [hlen]; exact h3, fun hne => ?_⟩
  have hpos : 0 < (hi - lo).toNat := by rw [← hlen]; exact List.length_pos_iff.2 hne
  obtain ⟨ad, h4, h5, h6⟩ := hr (fun hx => by subst hx; simp at hne)
  refine ⟨ad.add (lo.toNat * t.sz), by rw [hA (by omega), h4]; rfl, by rw [add_block]; exact h5, fun i x hx => ?_⟩
  obtain ⟨hx, _⟩ := take_drop_get hx
  obtain ⟨es, h7, h8, h9⟩ := h6 _ x hx
  refine ⟨es, h7, h8, fun j u hu => ?_⟩
  rw [add_add, show lo.toNat * t.sz + (i * t.sz + j) = (lo.toNat + i) * t.sz + j by rw [Nat.add_mul]; omega]
  exact h9 j u hu
theorem row_rd (hI : Inv P M wE C st.loc) {b : Nat} {d : Bool} {ep e e' : Nat} {t : Ty} {xs : List t.den} (hb : lget st.loc b = some (.row d ep e t xs)) : Rd (RdS C st.loc [b]) C.w (.sl e' t) xs [C.ρ b] := by
  have h := hI.ok b _ hb
  have hl : Lives st.loc b := ⟨_, hb, rfl⟩
  cases d with
  | true => exact Rd.mono (fun k hk => .inr ⟨b, by simp, hl, hk⟩) (fun _ _ => rfl) (Rd_e (Own.rd h))
  | false => exact Rd.mono (fun k hk => hk.imp id fun hk => ⟨b, by simp, hl, hk⟩) (fun _ _ => rfl) (OwnSh.rd h)
theorem rdSl_ok (hI : Inv P M wE C st.loc) (hs : Sees T L st) {t : Ty} {c : CV} {ys : List t.den} (h : rdSl L t c = some ys) {v : Value} (hv : RC P C st.loc c v) (e : Nat) : Rd (RdS C st.loc (idsOf [c])) C.w (.sl e t) ys [v] := by
  unfold rdSl at h
  split at h
  · rename_i e' t' xs
    obtain ⟨ht, hxs⟩ := cast_ok h
    subst ht
    simp only at hxs
    subst hxs
    exact Rd.mono (fun k hk => .inl hk) (fun _ _ => rfl) (Rd_e hv)
  · injection h with h
    subst h
    rw [show v = _ from hv]
    exact Rd.nil
  · rename_i b
    obtain ⟨lb, hlb, _, hal⟩ := hv
    split at h
    · rename_i d ep e' t' xs hb
      have hb' := hs.L _ _ hb
      rw [hlb] at hb'
      injection hb' with hb'
      subst hb'
      have hv := hal rfl
      obtain ⟨ht, hxs⟩ := cast_ok h
      subst ht
      simp only at hxs
      subst hxs
      rw [hv]
      exact row_rd hI hlb
    · rename_i e' t' xs hb
      have hb' := hs.L _ _ hb
      rw [hlb] at hb'
      injection hb' with hb'
      subst hb'
      have hv := hal rfl
      obtain ⟨ht, hxs⟩ := cast_ok h
      subst ht
      simp only at hxs
      subst hxs
      rw [hv]
      exact Rd.mono (fun k hk => .inl hk) (fun _ _ => rfl) (Rd_e (hI.ok b _ hlb))
    · cases h
  · rename_i b sz lo hi
    obtain ⟨lb, hlb, _, hal⟩ := hv
    split at h
    · rename_i d ep e' t' xs hb
      have hb' := hs.L _ _ hb
      rw [hlb] at hb'
      injection hb' with hb'
      subst hb'
      obtain ⟨A, n, c, c', A', h1, h2, h3, h4, h5, h6, rfl, h7⟩ := hal rfl
      split at h
      · rename_i hsz
        subst hsz
        obtain ⟨ht, hxs⟩ := cast_ok h
        subst ht
        simp only at hxs
        subst hxs
        have hr := row_rd (e' := e) hI hlb
        rw [h1] at hr
        exact Rd_sub hr h2 h3 h4 h5 h7
      · cases h
    · rename_i e' t' xs hb
      have hb' := hs.L _ _ hb
      rw [hlb] at hb'
      injection hb' with hb'
      subst hb'
      obtain ⟨A, n, c, c', A', h1, h2, h3, h4, h5, h6, rfl, h7⟩ := hal rfl
      split at h
      · rename_i hsz
        subst hsz
        obtain ⟨ht, hxs⟩ := cast_ok h
        subst ht
        simp only at hxs
        subst hxs
        have hr : Rd C.S C.w (.sl e' t') xs [C.ρ b] := hI.ok b _ hlb
        rw [h1] at hr
        exact Rd.mono (fun k hk => .inl hk) (fun _ _ => rfl) (Rd_sub hr h2 h3 h4 h5 h7)
      · cases h
    · cases h
  · rename_i b ep p e' t' xs
    obtain ⟨lb, hlb, _, hal⟩ := hv
    split at h
    · rename_i d ep' e'' t'' zs hb
      have hb' := hs.L _ _ hb
      rw [hlb] at hb'
      injection hb' with hb'
      subst hb'
      split at h
      · rename_i hep
        subst hep
        obtain ⟨_, h1⟩ := hal _ _ _ _ _ rfl
        obtain ⟨h1, _⟩ := h1 rfl
        obtain ⟨ht, hxs⟩ := cast_ok h
        subst ht
        simp only at hxs
        subst hxs
        exact Rd.mono (fun k hk => hk.imp id fun hk => ⟨b, by simp [idsOf], ⟨_, hlb, rfl⟩, hk.1⟩) (fun _ _ => rfl) (Rd_e h1)
      · cases h
    · cases h
  · cases h
theorem idsOf_append : ∀ (cs ds : List CV), idsOf (cs ++ ds) = idsOf cs ++ idsOf ds
  | [], ds => rfl
  | c :: cs, ds => by cases c <;> simp [idsOf, idsOf_append cs ds]
theorem asI_ok {k : IntKind} {c : CV} {n : Int} (h : asI k c = some n) : c = .int k n := by
  cases c <;> simp only [asI] at h <;> first | cases h | skip
  split at h
  · rename_i hk
    injection h with h
    rw [hk, h]
  · cases h
theorem asB_ok {c : CV} {b : Bool} (h : asB c = some b) : c = .bool b := by
  cases c <;> simp only [asB] at h <;> cases h
  rfl
theorem asS_ok {c : CV} {s : ByteArray} (h : asS c = some s) : c = .str s := by
  cases c <;> simp only [asS] at h <;> cases h
  rfl
/-- Cells that make up data; what they read as. -/
theorem unflat_ok (hI : Inv P M wE C st.loc) (hs : Sees T L st) {ids : List Nat} : ∀ {t : Ty} {cs : List CV} {x : t.den} {r : List CV}, unflat L t cs = some (x, r) → ∀ {vs : List Value}, RCs P C st.loc cs vs → (∀ b ∈ idsOf cs, b ∈ ids) →
    ∃ d0 c0 c1, cs = d0 ++ r ∧ vs = c0 ++ c1 ∧ Rd (RdS C st.loc ids) C.w t x c0 ∧ RCs P C st.loc d0 c0 ∧ RCs P C st.loc r c1
  | .int k, cs, x, r, h, vs, hv, hi => by
    cases cs with
    | nil => simp [unflat] at h
    | cons c cs =>
      simp only [unflat] at h
      split at h
      · rename_i n hn
        injection h with h
        injection h with h1 h2
        subst h1; subst h2
        obtain ⟨v, vs', rfl, hc, hr⟩ := RCs_cons hv
        rw [asI_ok hn] at hc
        exact ⟨[c], [v], vs', rfl, rfl, by rw [show v = _ from hc]; rfl, RCs_one (by rw [asI_ok hn]; exact hc), hr⟩
      · cases h
  | .bool, cs, x, r, h, vs, hv, hi => by
    cases cs with
    | nil => simp [unflat] at h
    | cons c cs =>
      simp only [unflat] at h
      split at h
      · rename_i n hn
        injection h with h
        injection h with h1 h2
        subst h1; subst h2
        obtain ⟨v, vs', rfl, hc, hr⟩ := RCs_cons hv
        rw [asB_ok hn] at hc
        exact ⟨[c], [v], vs', rfl, rfl, by rw [show v = _ from hc]; rfl, RCs_one (by rw [asB_ok hn]; exact hc), hr⟩
      · cases h
  | .str, cs, x, r, h, vs, hv, hi => by
    cases cs with
    | nil => simp [unflat] at h
    | cons c cs =>
      simp only [unflat] at h
      split at h
      · rename_i n hn
        injection h with h
        injection h with h1 h2
        subst h1; subst h2
        obtain ⟨v, vs', rfl, hc, hr⟩ := RCs_cons hv
        rw [asS_ok hn] at hc
        exact ⟨[c], [v], vs', rfl, rfl, by rw [show v = _ from hc]; rfl, RCs_one (by rw [asS_ok hn]; exact hc), hr⟩
      · cases h
  | .sl e t, cs, x, r, h, vs, hv, hi => by
    cases cs with
    | nil => simp [unflat] at h
    | cons c cs =>
      simp only [unflat] at h
      split at h
      · rename_i ys hy
        injection h with h
        injection h with h1 h2
        subst h1; subst h2
        obtain ⟨v, vs', rfl, hc, hr⟩ := RCs_cons hv
        refine ⟨[c], [v], vs', rfl, rfl, Rd.mono (fun k hk => RdS.mono (fun b hb => hi b ?_) hk) (fun _ _ => rfl) (rdSl_ok hI hs hy hc e), RCs_one hc, hr⟩
        rw [show c :: cs = [c] ++ cs from rfl, idsOf_append]
        exact List.mem_append.2 (.inl hb)
      · cases h
  | .pair p q, cs, x, r, h, vs, hv, hi => by
    simp only [unflat] at h
    split at h
    · rename_i x0 r0 h0
      split at h
      · rename_i y r1 h1
        injection h with h
        injection h with e1 e2
        subst e1; subst e2
        obtain ⟨d0, c0, c1, rfl, rfl, k0, k1, hr0⟩ := unflat_ok hI hs h0 hv hi
        obtain ⟨d2, c2, c3, rfl, rfl, m0, m1, hr1⟩ := unflat_ok hI hs h1 hr0 (fun b hb => hi b (by rw [idsOf_append]; exact List.mem_append.2 (.inr hb)))
        exact ⟨d0 ++ d2, c0 ++ c2, c3, by rw [List.append_assoc], by rw [List.append_assoc], ⟨c0, c2, rfl, k0, m0⟩, RCs_append k1 m1, hr1⟩
      · cases h
    · cases h
theorem argRd_ok (hI : Inv P M wE C st.loc) (hs : Sees T L st) {g : Bool} {t : Ty} {tv : TV} {x : t.den} (h : argRd L g t tv = some x) {v : Value} (hv : RV P C st.loc tv v) {ids : List Nat} (hi : ∀ cs, tvCells g tv = some cs → ∀ b ∈ idsOf cs, b ∈ ids) :
    ∃ cs us, tvCells g tv = some cs ∧ RCs P C st.loc cs us ∧ Pack g us v ∧ unflat L t cs = some (x, []) ∧ Rd (RdS C st.loc ids) C.w t x us := by
  unfold argRd at h
  split at h
  · rename_i cs hcs
    split at h
    · rename_i y hy
      injection h with h
      subst h
      obtain ⟨us, h1, h2⟩ := tvCells_ok hcs hv
      obtain ⟨d0, c0, c1, e1, rfl, k0, k1, k2⟩ := unflat_ok hI hs hy h1 (hi cs hcs)
      obtain rfl : c1 = [] := List.length_eq_zero_iff.1 k2.1.symm
      rw [List.append_nil] at h1 h2
      exact ⟨cs, c0, hcs, h1, h2, hy, k0⟩
    · cases h
  · cases h

/-! ### numbers and truth values -/
theorem guard_int (op : BinOp) (t : TypeId) (x y : Operand) (k k' : IntKind) (m n : Int) (w : World) : (eqGuard op t x y (.int k m) (.int k' n)).run P w = .ok () w := by
  unfold eqGuard
  cases op <;> simp [Sem.run_bind, Sem.run_pure]
theorem guard_bool (op : BinOp) (t : TypeId) (x y : Operand) (m n : Bool) (w : World) : (eqGuard op t x y (.bool m) (.bool n)).run P w = .ok () w := by
  unfold eqGuard
  cases op <;> simp [Sem.run_bind, Sem.run_pure]
theorem evInt_run {loc : Loc} {op : BinOp} {k : IntKind} {x y : Int} {c : CV} (h : evInt op k x y = some c) (t : TypeId) (w : World) : ∃ v, RC P C loc c v ∧ (binOp op t (.int k x) (.int k y)).run P w = .ok v w := by
  cases op <;> simp only [evInt] at h <;> first | contradiction | cases h | skip
  all_goals first | (exact ⟨_, rfl, by simp [binOp, Op.intArith, Op.intBits, Op.intCmp, Sem.run_pure, Go.bits]⟩)
theorem isBoolT_ok {T : Nat} (h : isBoolT P T = true) : P.underlying T = some .bool := by
  unfold isBoolT at h
  split at h
  · assumption
  · cases h
theorem isStrT_ok {T : Nat} (h : isStrT P T = true) : P.underlying T = some .string := by
  unfold isStrT at h
  split at h
  · assumption
  · cases h
theorem isSliceT_ok {T : Nat} (h : isSliceT P T = true) : ∃ e, P.underlying T = some (.slice e) := by
  unfold isSliceT at h
  split at h
  · exact ⟨_, by assumption⟩
  · cases h
theorem guard_str (op : BinOp) (t : TypeId) (x y : Operand) (m n : ByteArray) (w : World) : (eqGuard op t x y (.string m) (.string n)).run P w = .ok () w := by
  unfold eqGuard
  cases op <;> simp [Sem.run_bind, Sem.run_pure]
theorem evBin_run {loc : Loc} {op : BinOp} {x y c : CV} {t : TypeId} (h : evBin P t op x y = some c) (X Y : Operand) {u v : Value} (hx : RC P C loc x u) (hy : RC P C loc y v) (w : World) :
    ∃ z, RC P C loc c z ∧ (do eqGuard op t X Y u v; binOp op t u v : Sem Value).run P w = .ok z w := by
  unfold evBin at h
  split at h
  · rename_i k a k' b
    split at h
    · rename_i hk
      subst hk
      obtain rfl : u = .int k a := hx
      obtain rfl : v = .int k b := hy
      obtain ⟨z, hz, hrun⟩ := evInt_run (C := C) (P := P) (loc := loc) h t w
      exact ⟨z, hz, by rw [Sem.run_bind, guard_int]; exact hrun⟩
    · cases h
  · rename_i a b
    split at h
    · rename_i hb
      injection h with h
      subst h
      obtain rfl : u = .bool a := hx
      obtain rfl : v = .bool b := hy
      exact ⟨_, rfl, by rw [Sem.run_bind, guard_bool]; simp [binOp, Op.equal, Op.maxDepth, Sem.run_bind, Sem.run_pure, run_equalIn_bool' w 9999 t a b (isBoolT_ok hb)]⟩
    · cases h
  · rename_i a b
    split at h
    · rename_i hb
      injection h with h
      subst h
      obtain rfl : u = .bool a := hx
      obtain rfl : v = .bool b := hy
      exact ⟨_, rfl, by rw [Sem.run_bind, guard_bool]; simp [binOp, Op.equal, Op.maxDepth, Sem.run_bind, Sem.run_pure, run_equalIn_bool' w 9999 t a b (isBoolT_ok hb)]⟩
    · cases h
  · rename_i a b
    split at h
    · rename_i hb
      injection h with h
      subst h
      obtain rfl : u = .string a := hx
      obtain rfl : v = .string b := hy
      exact ⟨_, rfl, by rw [Sem.run_bind, guard_str]; simp [binOp, Op.stringOp, Sem.run_bind, Sem.run_pure]⟩
    · cases h
  · rename_i a b
    split at h
    · rename_i hb
      injection h with h
      subst h
      obtain rfl : u = .string a := hx
      obtain rfl : v = .string b := hy
      exact ⟨_, rfl, by rw [Sem.run_bind, guard_str]; simp [binOp, Op.stringOp, Sem.run_bind, Sem.run_pure]⟩
    · cases h
  · cases h
theorem evUn_run {loc : Loc} {op : UnOp} {x c : CV} (h : evUn op x = some c) {u : Value} (hx : RC P C loc x u) (w : World) : ∃ z, RC P C loc c z ∧ (Op.unary op u).run P w = .ok z w := by
  unfold evUn at h
  split at h
  · rename_i k n
    injection h with h
    subst h
    obtain rfl : u = .int k n := hx
    exact ⟨_, rfl, by simp [Op.unary, Op.intArith, Sem.run_pure]⟩
  · rename_i b
    injection h with h
    subst h
    obtain rfl : u = .bool b := hx
    exact ⟨_, rfl, by simp [Op.unary, Sem.run_pure]⟩
  · cases h
end
end Go.Proofs.Ytceffcfnjjlbkaa.E
