/- The evaluator, 12: append, copy. -/
import Derived.Test.YtceffcfnjjlbkaaE11
namespace Go.Proofs.Ytceffcfnjjlbkaa.E
open Go.RowKit
set_option linter.unusedVariables false
set_option linter.unusedSimpArgs false
section
variable {P : Program} {M : Nat → Prop} {wE : World} {C : Cx} {st : St} {a : Act} {T : Nat → Option TV} {L : Nat → Option LB} {o : Oper}
theorem run_call_builtin {c : Call} {b : Builtin} (hop : o.op = .call c) (hc : c.callee = .builtin b) (w : World) :
    (execOp a.eval o).run P w = (builtin b c.argTypes o.type (c.args.map fun | .const _ => true | _ => false) (c.args.map a.eval)).run P w := by
  unfold execOp
  simp only [hop, resolve, hc, Sem.run_bind, Sem.run_pure, Result.andThen_ok, invoke]
  rfl
/-- The cells that a slice leads to. -/
theorem Rd_news {S : Nat → Prop} {w : World} {e : Nat} {t : Ty} {ys : List t.den} {v : Value} (h : Rd S w (.sl e t) ys [v]) : (∃ c, v = .slice none 0 c ∧ ys = []) ∨ ∃ (ad : Addr) (c : Nat) (news : List Value), v = .slice (some ad) ys.length c ∧ news.length = ys.length * t.sz ∧ (∀ j u, news[j]? = some u → w.cell? (ad.add j) = some u) ∧ (∀ u ∈ news, u.oneCell' = true) ∧ ∀ i y, ys[i]? = some y → Rd S w t y ((news.drop (i * t.sz)).take t.sz) := by
  obtain ⟨A, c, he, hl, hr⟩ := h
  injection he with he _
  subst he
  cases hys : ys with
  | nil =>
    subst hys
    cases A with
    | none => exact .inl ⟨c, rfl, rfl⟩
    | some ad => exact .inr ⟨ad, c, [], rfl, by simp, fun j u hj => by simp at hj, by simp, fun i y hy => by simp at hy⟩
  | cons y0 ys0 =>
    rw [← hys]
    obtain ⟨ad, rfl, hS, h3⟩ := hr (by rw [hys]; simp)
    refine .inr ⟨ad, c, ?_⟩
    have hex : ∀ i : Nat, ∃ es : List Value, ∀ x, ys[i]? = some x → es.length = t.sz ∧ Rd S w t x es ∧ ∀ j u, es[j]? = some u → w.cell? (ad.add (i * t.sz + j)) = some u := fun i => by
      cases hx : ys[i]? with
      | none => exact ⟨[], fun x h => by cases h⟩
      | some x =>
        obtain ⟨es, h4⟩ := h3 i x hx
        exact ⟨es, fun x' h => by injection h with h; subst h; exact h4⟩
    have hb : ∀ n, n ≤ ys.length → ∃ news : List Value, news.length = n * t.sz ∧ (∀ j u, news[j]? = some u → w.cell? (ad.add j) = some u) ∧ (∀ u ∈ news, u.oneCell' = true) ∧ ∀ i y, i < n → ys[i]? = some y → Rd S w t y ((news.drop (i * t.sz)).take t.sz) := by
      intro n
      induction n with
      | zero => exact fun _ => ⟨[], by simp, fun j u hj => by simp at hj, by simp, fun i y hi => by omega⟩
      | succ n ih =>
        intro hn
        obtain ⟨news, q1, q2, q3, q4⟩ := ih (by omega)
        obtain ⟨es, hes⟩ := hex n
        obtain ⟨e1, e2, e3⟩ := hes _ (List.getElem?_eq_getElem (show n < ys.length by omega))
        refine ⟨news ++ es, by rw [List.length_append, q1, e1, Nat.succ_mul], fun j u hj => ?_, fun u hu => ?_, fun i y hi hy => ?_⟩
        · by_cases hjn : j < news.length
          · rw [List.getElem?_append_left hjn] at hj
            exact q2 j u hj
          · rw [List.getElem?_append_right (by omega)] at hj
            have := e3 _ u hj
            rw [q1] at this
            rw [q1] at hjn
            rwa [show n * t.sz + (j - n * t.sz) = j by omega] at this
        · rcases List.mem_append.1 hu with hu | hu
          · exact q3 u hu
          · exact e2.one u hu
        · have hm : i < n → i * t.sz + t.sz ≤ n * t.sz := fun h => by rw [← Nat.succ_mul]; exact Nat.mul_le_mul_right _ h
          by_cases hin : i < n
          · rw [List.drop_append_of_le_length (by have := hm hin; omega), List.take_append_of_le_length (by rw [List.length_drop]; have := hm hin; omega)]
            exact q4 i y hin hy
          · have : i = n := by omega
            subst this
            rw [← q1, List.drop_left, List.take_of_length_le (by omega)]
            rw [List.getElem?_eq_getElem (show i < ys.length by omega)] at hy
            injection hy with hy
            subst hy
            exact e2
    obtain ⟨news, q1, q2, q3, q4⟩ := hb ys.length (Nat.le_refl _)
    exact ⟨news, rfl, q1, q2, q3, fun i y hy => q4 i y (List.getElem?_eq_some_iff.1 hy).1 hy⟩
theorem append_room {t ty e : TypeId} {i : TypeInfo} (ht : P.underlying t = some (.slice e)) (hi : P.info? e = some i) {g o' sLen sCap : Nat} {cur : List Value} {w : World} (hg : blk w g cur e)
    {A : Addr} {m c : Nat} {news : List Value} (hl : news.length = m * i.size) (hnews : ∀ j u, news[j]? = some u → w.cell? (A.add j) = some u) (h1 : ∀ u ∈ news, u.oneCell' = true) (hroom : sLen + m ≤ sCap) (hfit : o' + sLen * i.size + news.length ≤ cur.length) :
    (Builtin.append_ #[t, t] ty #[.slice (some ⟨g, o', none⟩) sLen sCap, .slice (some A) m c]).run P w = .ok (.slice (some ⟨g, o', none⟩) (sLen + m) sCap) (w.setRow g (cur.take (o' + sLen * i.size) ++ news ++ cur.drop (o' + sLen * i.size + news.length)).toArray) := by
  have hf := run_firstCells_some (P := P) w i.size m A m c news hl hnews
  have hst := run_storeCells_at P g (o' + sLen * i.size) e news 0 cur.toArray w hg (by simpa using hfit) h1
  simp only [Nat.add_zero] at hst
  simp [Builtin.append_, run_underlying ht, sizeOf, typeInfo, hi, Builtin.lenOf, hroom, hf, Addr.add_lit, hst]
theorem append_none {t ty e : TypeId} {i : TypeInfo} (ht : P.underlying t = some (.slice e)) (hi : P.info? e = some i) {A : Option Addr} {sLen sCap c : Nat} {w : World} (hroom : sLen ≤ sCap) :
    (Builtin.append_ #[t, t] ty #[.slice A sLen sCap, .slice none 0 c]).run P w = .ok (.slice A sLen sCap) w := by
  cases A <;> simp [Builtin.append_, run_underlying ht, sizeOf, typeInfo, hi, Builtin.lenOf, hroom, Builtin.firstCells, storeCells]
theorem append_empty {t ty e : TypeId} {i : TypeInfo} (ht : P.underlying t = some (.slice e)) (hi : P.info? e = some i) {A : Addr} {c : Nat} {w : World} :
    (Builtin.append_ #[t, t] ty #[.slice none 0 0, .slice (some A) 0 c]).run P w = .ok (.slice none 0 0) w := by
  have hf := run_firstCells_some (P := P) w i.size 0 A 0 c [] (by simp) (by simp)
  simp [Builtin.append_, run_underlying ht, sizeOf, typeInfo, hi, Builtin.lenOf, hf]
/-- A row that is appended to: elements e1 (its own) and e2 (new), each owned in the world behind. -/
theorem append_does (hR : Rel P M wE C st a) {E e bytes : Nat} {t : Ty} {c : Call} (hop : o.op = .call c) (hcal : c.callee = .builtin .append) {sO xO : Operand} (hargs : c.args = #[sO, xO]) (hT : c.argTypes = #[E, E]) (hi : rowInfo P E = some (e, t, bytes))
    {nb : Nat} (hnb : lget st.loc nb = none) {ids : List Nat} {xs ys : List t.den} {v x : Value} (hsv : a.eval sO = v) (hxv : a.eval xO = x) (hl : (xs.length + ys.length) * bytes ≤ 140737488355328) {S : Nat → Prop} {d : Bool}
    (hv : (v = .slice none 0 0 ∧ xs = []) ∨ ∃ (g o' cp : Nat) (cur : List Value), v = .slice (some ⟨g, o', none⟩) xs.length cp ∧ blk C.w g cur e ∧ xs.length ≤ cp ∧ cp ≤ maxLen ∧ o' + cp * t.sz ≤ cur.length ∧ ofIds C st.loc ids g)
    (hx : Rd S C.w (.sl e t) ys [x])
    (hO : ∀ (w' : World) (v' : Value) (g' o' cp' : Nat) (cur' : List Value), v' = .slice (some ⟨g', o', none⟩) (xs.length + ys.length) cp' → blk w' g' cur' e → xs.length + ys.length ≤ cp' → cp' ≤ maxLen → o' + cp' * t.sz ≤ cur'.length →
      (C.w.heap.size = g' ∨ ∃ (cp : Nat) (cur : List Value), v = .slice (some ⟨g', o', none⟩) xs.length cp ∧ blk C.w g' cur e) → (∀ k, k < C.w.heap.size → k ≠ g' → w'.heap[k]? = C.w.heap[k]?) →
      (∀ i, i < xs.length → ∀ (g o1 cp : Nat) (cur : List Value), v = .slice (some ⟨g, o1, none⟩) xs.length cp → blk C.w g cur e → (cur'.drop (o' + i * t.sz)).take t.sz = (cur.drop (o1 + i * t.sz)).take t.sz) →
      (∀ (ad : Addr) (cx : Nat) (news : List Value), x = .slice (some ad) ys.length cx → news.length = ys.length * t.sz → (∀ j u, news[j]? = some u → C.w.cell? (ad.add j) = some u) → ∀ i, i < ys.length → (cur'.drop (o' + (xs.length + i) * t.sz)).take t.sz = (news.drop (i * t.sz)).take t.sz) →
      ∃ φ', (∀ k, φ' k → k < w'.heap.size ∧ (C.w.heap.size ≤ k ∨ ofIds C st.loc ids k)) ∧ if d = true then Own w' (.sl e t) (xs ++ ys) [v'] φ' else OwnSh C.S w' e t (xs ++ ys) v' φ')
    (hO0 : ys = [] → v = .slice none 0 0 ∨ x = .slice none 0 0 ∨ (∃ cx, x = .slice none 0 cx) → ∃ φ', (∀ k, φ' k → k < C.w.heap.size ∧ (C.w.heap.size ≤ k ∨ ofIds C st.loc ids k)) ∧ if d = true then Own C.w (.sl e t) xs [v] φ' else OwnSh C.S C.w e t xs v φ') :
    Does P M wE C st a o ⟨.c (.own nb), (nb, .row d 0 e t (xs ++ ys)) :: kills ids⟩ := by
  obtain ⟨hu, i, z, hie, hzv, hz, hsz, rfl, hb0, hzs⟩ := rowInfo_ok hi
  have hp := sz_pos t
  have hlen : xs.length + ys.length ≤ 140737488355328 := Nat.le_trans (Nat.le_mul_of_pos_right _ hb0) hl
  have hexec : ∀ {v' w'}, (Builtin.append_ #[E, E] o.type #[v, x]).run P C.w = .ok v' w' → (execOp a.eval o).run P C.w = .ok (.value v') w' := by
    intro v' w' h
    rw [run_call_builtin hop hcal, hT, hargs]
    simp only [builtin, List.map_toArray, List.map_cons, List.map_nil, hsv, hxv, Sem.run_bind, h]
    rfl
  rcases Rd_news hx with ⟨cx, rfl, rfl⟩ | ⟨ad, cx, news, rfl, hnl, hnc, hn1, hnr⟩
  · -- nothing is appended
    obtain ⟨φ', h1, h2⟩ := hO0 rfl (.inr (.inr ⟨cx, rfl⟩))
    rw [List.append_nil]
    have hsh : ∃ A n c, v = .slice A n c := by
      rcases hv with ⟨rfl, _⟩ | ⟨g, o', cp, cur, rfl, _⟩ <;> exact ⟨_, _, _, rfl⟩
    obtain ⟨A, n, cp, hsh⟩ := hsh
    have hncp : n ≤ cp := by
      rcases hv with ⟨h, _⟩ | ⟨g, o', cp', cur, h, _, h', _⟩
      · rw [hsh] at h; injection h with _ q1 q2; omega
      · rw [hsh] at h; injection h with _ q1 q2; omega
    refine Does.rowK hR hnb (Nat.le_refl _) rfl rfl rfl (fun _ _ _ => rfl) h1 h2 ⟨A, n, cp, hsh⟩ (hexec ?_)
    rw [hsh]
    exact append_none hu hie hncp
  · by_cases hm : ys.length = 0 ∧ v = .slice none 0 0
    · obtain ⟨hm, rfl⟩ := hm
      obtain rfl : ys = [] := List.length_eq_zero_iff.1 hm
      obtain ⟨φ', h1, h2⟩ := hO0 rfl (.inl rfl)
      rw [List.append_nil]
      exact Does.rowK hR hnb (Nat.le_refl _) rfl rfl rfl (fun _ _ _ => rfl) h1 h2 ⟨_, _, _, rfl⟩ (hexec (append_empty hu hie))
    · -- a new block
      have grow : ∀ (olds : List Value) (cap : Nat), olds.length = xs.length * t.sz → cap < xs.length + ys.length → (Builtin.append_ #[E, E] o.type #[v, .slice (some ad) ys.length cx]).run P C.w = .ok (.slice (some ⟨C.w.heap.size, 0, none⟩) (xs.length + ys.length) (grownCap C.w (xs.length + ys.length) cap e)) (C.w.drew.alloc (.cells (olds.toArray ++ news.toArray ++ Builtin.zeroCells z.cells (grownCap C.w (xs.length + ys.length) cap e - (xs.length + ys.length))) e)) →
          (∀ i, i < xs.length → ∀ (g o1 cp : Nat) (cur : List Value), v = .slice (some ⟨g, o1, none⟩) xs.length cp → blk C.w g cur e → (olds.drop (i * t.sz)).take t.sz = (cur.drop (o1 + i * t.sz)).take t.sz) →
          Does P M wE C st a o ⟨.c (.own nb), (nb, .row d 0 e t (xs ++ ys)) :: kills ids⟩ := by
        intro olds cap hol hcap hrun hold
        have hge := grownCap_ge C.w (xs.length + ys.length) cap e
        have hcm : grownCap C.w (xs.length + ys.length) cap e ≤ maxLen := grownCap_le_maxLen C.w _ cap e (by simp only [maxLen]; omega)
        generalize hcap' : grownCap C.w (xs.length + ys.length) cap e = cap' at *
        have hcur : (olds.toArray ++ news.toArray ++ Builtin.zeroCells z.cells (cap' - (xs.length + ys.length))) = (olds ++ news ++ (Builtin.zeroCells z.cells (cap' - (xs.length + ys.length))).toList).toArray := by
          apply Array.ext'
          simp
        rw [hcur] at hrun
        have hzl : (Builtin.zeroCells z.cells (cap' - (xs.length + ys.length))).toList.length = (cap' - (xs.length + ys.length)) * t.sz := by
          rw [Array.length_toList, size_zeroCells, hzs]
        have hblk : blk (C.w.drew.alloc (.cells (olds ++ news ++ (Builtin.zeroCells z.cells (cap' - (xs.length + ys.length))).toList).toArray e)) C.w.heap.size (olds ++ news ++ (Builtin.zeroCells z.cells (cap' - (xs.length + ys.length))).toList) e := heap_alloc_new C.w.drew _
        have hmul : ∀ {i n : Nat}, i < n → i * t.sz + t.sz ≤ n * t.sz := fun h => by rw [← Nat.succ_mul]; exact Nat.mul_le_mul_right _ h
        have hcl : 0 + cap' * t.sz ≤ (olds ++ news ++ (Builtin.zeroCells z.cells (cap' - (xs.length + ys.length))).toList).length := by
          rw [List.length_append, List.length_append, hzl, hol, hnl, ← Nat.add_mul, ← Nat.add_mul, Nat.zero_add]
          exact Nat.mul_le_mul_right _ (by omega)
        obtain ⟨φ', h1, h2⟩ := hO _ _ _ 0 cap' _ rfl hblk hge hcm hcl (.inl rfl) (fun k hk hne => heap_alloc_old C.w.drew _ hk) (fun i hi g o1 cp cur hve hbe => by
          rw [Nat.zero_add, List.append_assoc, List.drop_append_of_le_length (by have := hmul hi; omega), List.take_append_of_le_length (by rw [List.length_drop]; have := hmul hi; omega)]
          exact hold i hi g o1 cp cur hve hbe) (fun ad' cx' news' hxe hnl' hnc' i hi => by
          injection hxe with q1 _ _
          injection q1 with q1
          subst q1
          have hnn : news' = news := by
            apply List.ext_getElem?
            intro j
            by_cases hj : j < ys.length * t.sz
            · have e1 := hnc' j _ (List.getElem?_eq_getElem (show j < news'.length by omega))
              have e2 := hnc j _ (List.getElem?_eq_getElem (show j < news.length by omega))
              rw [e1] at e2
              rw [List.getElem?_eq_getElem (show j < news'.length by omega), List.getElem?_eq_getElem (show j < news.length by omega)]
              exact e2
            · rw [List.getElem?_eq_none (by omega), List.getElem?_eq_none (by omega)]
          subst hnn
          rw [Nat.zero_add, List.append_assoc, Nat.add_mul, ← hol, ← List.drop_drop, List.drop_left, List.drop_append_of_le_length (by have := hmul hi; omega), List.take_append_of_le_length (by rw [List.length_drop]; have := hmul hi; omega)])
        exact Does.rowK hR hnb (w' := C.w.drew.alloc (.cells (olds ++ news ++ (Builtin.zeroCells z.cells (cap' - (xs.length + ys.length))).toList).toArray e)) (by simp) rfl rfl rfl (fun k hk _ => heap_alloc_old C.w.drew _ hk) h1 h2 ⟨_, _, _, rfl⟩ (hexec hrun)
      have h63 : ((xs.length + ys.length : Nat) : Int) ≤ 9223372036854775807 := by omega
      rcases hv with ⟨rfl, rfl⟩ | ⟨g, o', cp, cur, rfl, hblk, hle, hcm, hcl, hgi⟩
      · have hy : 0 < ys.length := by
          rcases Nat.eq_zero_or_pos ys.length with h | h
          · exact absurd ⟨h, rfl⟩ hm
          · exact h
        have hr := run_append_nil (P := P) C.w E o.type e i z hu hie hz ad ys.length cx news (by rw [hsz]; exact hnl) hnc hy (by omega) (by simp only [List.length_nil, Nat.zero_add] at hl; omega)
        refine grow [] 0 (by simp) (by simpa using hy) ?_ (fun i hi => by simp at hi)
        simpa using hr
      · by_cases hroom : xs.length + ys.length ≤ cp
        · -- in place
          have hmul2 : (xs.length + ys.length) * t.sz ≤ cp * t.sz := Nat.mul_le_mul_right _ hroom
          rw [Nat.add_mul] at hmul2
          have hr := append_room (ty := o.type) hu hie (o' := o') (sLen := xs.length) (sCap := cp) hblk (A := ad) (c := cx) (by rw [hsz]; exact hnl) hnc hn1 hroom (by rw [hsz]; omega)
          rw [hsz] at hr
          have hfit : o' + xs.length * t.sz + news.length ≤ cur.length := by omega
          have hslen := splice_length (cur := cur) (sg := news) (p := o' + xs.length * t.sz) hfit
          have hmul : ∀ {i n : Nat}, i < n → i * t.sz + t.sz ≤ n * t.sz := fun h => by rw [← Nat.succ_mul]; exact Nat.mul_le_mul_right _ h
          have hlt := blk_lt hblk
          obtain ⟨φ', h1, h2⟩ := hO _ _ g o' cp _ rfl (blk_set (cur' := cur.take (o' + xs.length * t.sz) ++ news ++ cur.drop (o' + xs.length * t.sz + news.length)) hblk) hroom hcm (by rw [hslen]; exact hcl) (.inr ⟨cp, cur, rfl, hblk⟩) (fun k hk hne => setRow_other _ _ _ _ hne) (fun i hi g2 o2 cp2 cur2 hve hbe => by
            injection hve with q1 _ _
            injection q1 with q1
            injection q1 with qa qb _
            subst qa; subst qb
            have : cur2 = cur := by
              have := hbe.symm.trans hblk
              injection this with this
              injection this with this
              simpa using this
            subst this
            exact seg_other hfit (.inl (by have := hmul hi; omega))) (fun ad' cx' news' hxe hnl' hnc' i hi => by
            injection hxe with q1 _ _
            injection q1 with q1
            subst q1
            have hnn : news' = news := by
              apply List.ext_getElem?
              intro j
              by_cases hj : j < ys.length * t.sz
              · have e1 := hnc' j _ (List.getElem?_eq_getElem (show j < news'.length by omega))
                have e2 := hnc j _ (List.getElem?_eq_getElem (show j < news.length by omega))
                rw [e1] at e2
                rw [List.getElem?_eq_getElem (show j < news'.length by omega), List.getElem?_eq_getElem (show j < news.length by omega)]
                exact e2
              · rw [List.getElem?_eq_none (by omega), List.getElem?_eq_none (by omega)]
            subst hnn
            have hmi := hmul hi
            rw [Nat.add_mul, ← Nat.add_assoc]
            apply List.ext_getElem?
            intro j
            rw [List.getElem?_take, List.getElem?_take]
            split
            · rw [List.getElem?_drop, List.getElem?_drop, splice_get hfit, if_pos (by omega)]
              congr 1
              omega
            · rfl)
          exact Does.rowK hR hnb (w' := C.w.setRow g (cur.take (o' + xs.length * t.sz) ++ news ++ cur.drop (o' + xs.length * t.sz + news.length)).toArray) (by simp) rfl rfl rfl (fun k hk hn => setRow_other _ _ _ _ (fun he => hn (by rw [he]; exact hgi))) h1 h2 ⟨_, _, _, rfl⟩ (hexec hr)
        · have holds : ∀ j u, ((cur.drop o').take (xs.length * t.sz))[j]? = some u → C.w.cell? ((⟨g, o', none⟩ : Addr).add j) = some u := fun j u hj => by
            rw [add_lit, blk_cell hblk]
            exact (take_drop_get hj).1
          have hmul3 : xs.length * t.sz ≤ cp * t.sz := Nat.mul_le_mul_right _ hle
          have hol : ((cur.drop o').take (xs.length * t.sz)).length = xs.length * t.sz := by rw [List.length_take, List.length_drop]; omega
          have hr := run_append_grow (P := P) C.w E o.type e i z hu hie hz ⟨g, o', none⟩ xs.length cp _ (by rw [hsz]; exact hol) holds ad ys.length cx news (by rw [hsz]; exact hnl) hnc (by omega) h63 (growslice_fits (by omega) hl)
          refine grow _ cp hol (by omega) hr (fun i hi g2 o2 cp2 cur2 hve hbe => ?_)
          injection hve with q1 _ _
          injection q1 with q1
          injection q1 with qa qb _
          subst qa; subst qb
          have : cur2 = cur := by
            have := hbe.symm.trans hblk
            injection this with this
            injection this with this
            simpa using this
          subst this
          have hmul : i * t.sz + t.sz ≤ xs.length * t.sz := by rw [← Nat.succ_mul]; exact Nat.mul_le_mul_right _ hi
          apply List.ext_getElem?
          intro j
          rw [List.getElem?_take, List.getElem?_take]
          split
          · rw [List.getElem?_drop, List.getElem?_drop, List.getElem?_take, if_pos (by omega), List.getElem?_drop, Nat.add_assoc]
          · rfl
theorem news_eq {w : World} {ad : Addr} {n : Nat} {l l' : List Value} (h : l.length = n) (h' : l'.length = n) (hc : ∀ j u, l[j]? = some u → w.cell? (ad.add j) = some u) (hc' : ∀ j u, l'[j]? = some u → w.cell? (ad.add j) = some u) : l = l' := by
  apply List.ext_getElem?
  intro j
  by_cases hj : j < n
  · have e1 := hc j _ (List.getElem?_eq_getElem (show j < l.length by omega))
    have e2 := hc' j _ (List.getElem?_eq_getElem (show j < l'.length by omega))
    rw [e1] at e2
    rw [List.getElem?_eq_getElem (show j < l.length by omega), List.getElem?_eq_getElem (show j < l'.length by omega)]
    exact e2
  · rw [List.getElem?_eq_none (by omega), List.getElem?_eq_none (by omega)]
theorem mem_consO {k : Option Nat} {ids : List Nat} {b : Nat} (h : b ∈ consO k ids) : k = some b ∨ b ∈ ids := by
  cases k with
  | none => exact .inr h
  | some b0 =>
    rcases List.mem_cons.1 h with rfl | h
    · exact .inl rfl
    · exact .inr h
theorem in_consO {k : Option Nat} {ids : List Nat} {b : Nat} (h : b ∈ ids) : b ∈ consO k ids := by
  cases k with
  | none => exact h
  | some b0 => exact List.mem_cons_of_mem _ h
theorem appTo_ok (hR : Rel P M wE C st a) (hs : Sees T L st) {e : Nat} {t : Ty} {tv : TV} {k : Option Nat} {dp : Bool} {xs : List t.den} (h : appTo L e t tv = some (k, dp, xs)) {v : Value} (hv : RV P C st.loc tv v) :
    (k = none ∧ dp = true ∧ v = .slice none 0 0 ∧ xs = []) ∨ ∃ b ep, k = some b ∧ lget st.loc b = some (.row dp ep e t xs) ∧ v = C.ρ b := by
  unfold appTo at h
  split at h
  · rename_i b
    split at h
    · rename_i d ep e' t' zs hb
      split at h
      · rename_i he
        split at h
        · rename_i ys hy
          simp only [Option.some.injEq, Prod.mk.injEq] at h
          obtain ⟨rfl, rfl, rfl⟩ := h
          subst he
          obtain ⟨ht, hz⟩ := cast_ok hy
          subst ht
          simp only at hz
          subst hz
          have hb' := hs.L _ _ hb
          obtain ⟨lb, hlb, _, hal⟩ := hv
          rw [hb'] at hlb
          injection hlb with hlb
          subst hlb
          exact .inr ⟨b, ep, rfl, hb', hal rfl⟩
        · cases h
      · cases h
    · cases h
  · simp only [Option.some.injEq, Prod.mk.injEq] at h
    obtain ⟨rfl, rfl, rfl⟩ := h
    exact .inl ⟨rfl, rfl, hv, rfl⟩
  · cases h
/-- Two families of elements, one behind the other. -/
theorem own_app {w' : World} {e : Nat} {t : Ty} {xs ys : List t.den} {g o' cp : Nat} {cur : List Value} {f1 f2 : Nat → Nat → Prop} {φ' : Nat → Prop} (hb : blk w' g cur e) (hl : xs.length + ys.length ≤ cp) (hm : cp ≤ maxLen) (hc : o' + cp * t.sz ≤ cur.length) (hg : φ' g)
    (a1 : ∀ i k, f1 i k → φ' k ∧ k ≠ g) (a2 : ∀ i k, f2 i k → φ' k ∧ k ≠ g) (b1 : ∀ i j k, f1 i k → f1 j k → i = j) (b2 : ∀ i j k, f2 i k → f2 j k → i = j) (b3 : ∀ i j k, f1 i k → ¬ f2 j k)
    (c1 : ∀ i x, xs[i]? = some x → Own w' t x ((cur.drop (o' + i * t.sz)).take t.sz) (f1 i)) (c2 : ∀ i y, ys[i]? = some y → Own w' t y ((cur.drop (o' + (xs.length + i) * t.sz)).take t.sz) (f2 i)) : Own w' (.sl e t) (xs ++ ys) [.slice (some ⟨g, o', none⟩) (xs.length + ys.length) cp] φ' := by
  refine .inr ⟨g, o', cp, cur, fun i k => if i < xs.length then f1 i k else f2 (i - xs.length) k, by rw [List.length_append], hb, by rw [List.length_append]; exact hl, hm, hc, hg, fun i k hk => ?_, fun i j k hi hj => ?_, fun i x hx => ?_⟩
  · simp only at hk
    split at hk
    · exact a1 i k hk
    · exact a2 _ k hk
  · simp only at hi hj
    split at hi <;> split at hj
    · exact b1 i j k hi hj
    · exact absurd hj (b3 _ _ k hi)
    · exact absurd hi (b3 _ _ k hj)
    · have := b2 _ _ k hi hj
      omega
  · by_cases hi : i < xs.length
    · rw [List.getElem?_append_left hi] at hx
      show Own w' t x _ (fun k => if i < xs.length then f1 i k else f2 (i - xs.length) k)
      simp only [if_pos hi]
      exact c1 i x hx
    · rw [List.getElem?_append_right (by omega)] at hx
      show Own w' t x _ (fun k => if i < xs.length then f1 i k else f2 (i - xs.length) k)
      simp only [if_neg hi]
      have := c2 _ x hx
      rwa [show xs.length + (i - xs.length) = i by omega] at this
theorem sh_app {S : Nat → Prop} {w' : World} {e : Nat} {t : Ty} {xs ys : List t.den} {g o' cp : Nat} {cur : List Value} {φ' : Nat → Prop} (hb : blk w' g cur e) (hl : xs.length + ys.length ≤ cp) (hm : cp ≤ maxLen) (hc : o' + cp * t.sz ≤ cur.length) (hg : φ' g)
    (c1 : ∀ i x, xs[i]? = some x → Rd S w' t x ((cur.drop (o' + i * t.sz)).take t.sz)) (c2 : ∀ i y, ys[i]? = some y → Rd S w' t y ((cur.drop (o' + (xs.length + i) * t.sz)).take t.sz)) : OwnSh S w' e t (xs ++ ys) (.slice (some ⟨g, o', none⟩) (xs.length + ys.length) cp) φ' := by
  refine .inr ⟨g, o', cp, cur, by rw [List.length_append], hb, by rw [List.length_append]; exact hl, hm, hc, hg, fun i x hx => ?_⟩
  by_cases hi : i < xs.length
  · rw [List.getElem?_append_left hi] at hx
    exact c1 i x hx
  · rw [List.getElem?_append_right (by omega)] at hx
    have := c2 _ x hx
    rwa [show xs.length + (i - xs.length) = i by omega] at this
theorem appArgs_ok {c : Call} {E : Nat} (hT : c.argTypes.toList = [E, E]) {s x : TV} (hvs : evOs T c.args.toList = some [s, x]) : ∃ sO xO, c.args = #[sO, xO] ∧ c.argTypes = #[E, E] ∧ evO T sO = some s ∧ evO T xO = some x := by
  have h2 : c.argTypes = #[E, E] := by rw [← Array.toArray_toList (xs := c.argTypes), hT]
  match hm : c.args.toList, hvs with
  | [], hvs => simp [evOs] at hvs
  | [sO], hvs =>
    simp only [evOs] at hvs
    split at hvs
    · injection hvs with hvs
      simp at hvs
    · cases hvs
  | [sO, xO], hvs =>
    simp only [evOs] at hvs
    split at hvs
    · rename_i v1 h1
      split at hvs
      · rename_i r hr
        injection hvs with hvs
        injection hvs with q1 q2
        subst q1; subst q2
        split at hr
        · rename_i v2 h3
          injection hr with hr
          injection hr with q _
          subst q
          exact ⟨sO, xO, by rw [← Array.toArray_toList (xs := c.args), hm], h2, h1, h3⟩
        · cases hr
      · cases hvs
    · cases hvs
  | sO :: xO :: z :: l, hvs =>
    simp only [evOs] at hvs
    split at hvs
    · split at hvs
      · rename_i r hr
        injection hvs with hvs
        injection hvs with q1 q2
        subst q2
        split at hr
        · split at hr
          · rename_i r2 hr2
            injection hr with hr
            injection hr with _ q
            subst q
            split at hr2
            · split at hr2
              · injection hr2 with hr2
                cases hr2
              · cases hr2
            · cases hr2
          · cases hr
        · cases hr
      · cases hvs
    · cases hvs
set_option maxHeartbeats 1000000 in
theorem evAppend_ok {R : Type} {K : Eff → Option R} {r : R} (hR : Rel P M wE C st a) (hs : Sees T L st) {E d : Nat} {c : Call} (hop : o.op = .call c) (hcal : c.callee = .builtin .append) (hT : c.argTypes.toList = [E, E]) {s x : TV} (hvs : evOs T c.args.toList = some [s, x])
    (hnb : lget st.loc (64 * d) = none) (h : evAppend P L d E s x K = some r) : ∃ eff, K eff = some r ∧ Does P M wE C st a o eff := by
  obtain ⟨sO, xO, hargs, hTT, hsO, hxO⟩ := appArgs_ok hT hvs
  have hsv := evO_ok hR hs hsO
  have hxv := evO_ok hR hs hxO
  unfold evAppend at h
  split at h
  · rename_i e t bytes hi
    split at h
    · rename_i k dp xs hto
      split at h
      · rename_i ids dp' ys hed
        split at h
        · rename_i hl
          refine ⟨_, h, ?_⟩
          have hp := sz_pos t
          have hto' := appTo_ok hR hs hto hsv
          -- what is appended
          unfold appEd at hed
          split at hed
          · rename_i cx
            split at hed
            · rename_i ys' hys
              have hrdx := rdSl_ok hR.inv hs hys hxv e
              -- the row that is appended to, as the machine has it
              have hvform : (a.eval sO = .slice none 0 0 ∧ xs = []) ∨ ∃ (g o' cp : Nat) (cur : List Value), a.eval sO = .slice (some ⟨g, o', none⟩) xs.length cp ∧ blk C.w g cur e ∧ xs.length ≤ cp ∧ cp ≤ maxLen ∧ o' + cp * t.sz ≤ cur.length ∧ ∃ b, k = some b ∧ Lives st.loc b ∧ C.φ b g := by
                rcases hto' with ⟨_, _, h1, h2⟩ | ⟨b, ep, rfl, hb, hv⟩
                · exact .inl ⟨h1, h2⟩
                · have hok := hR.inv.ok b _ hb
                  rw [hv]
                  cases dp with
                  | true =>
                    rcases (hok : Own _ _ _ _ _) with ⟨q, q2⟩ | ⟨g, o', cp, cur, f, q, m1, m2, m3, m4, m5, _⟩
                    · injection q with q _
                      exact .inl ⟨q, q2⟩
                    · injection q with q _
                      exact .inr ⟨g, o', cp, cur, q, m1, m2, m3, m4, b, rfl, ⟨_, hb, rfl⟩, m5⟩
                  | false =>
                    rcases (hok : OwnSh _ _ _ _ _ _ _) with ⟨q, q2⟩ | ⟨g, o', cp, cur, q, m1, m2, m3, m4, m5, _⟩
                    · exact .inl ⟨q, q2⟩
                    · exact .inr ⟨g, o', cp, cur, q, m1, m2, m3, m4, b, rfl, ⟨_, hb, rfl⟩, m5⟩
              have hvf : ∀ ids, (a.eval sO = .slice none 0 0 ∧ xs = []) ∨ ∃ (g o' cp : Nat) (cur : List Value), a.eval sO = .slice (some ⟨g, o', none⟩) xs.length cp ∧ blk C.w g cur e ∧ xs.length ≤ cp ∧ cp ≤ maxLen ∧ o' + cp * t.sz ≤ cur.length ∧ ofIds C st.loc (consO k ids) g := fun ids => by
                rcases hvform with hq | ⟨g, o', cp, cur, q1, q2, q3, q4, q5, b, rfl, q6, q7⟩
                · exact .inl hq
                · exact .inr ⟨g, o', cp, cur, q1, q2, q3, q4, q5, b, List.mem_cons_self .., q6, q7⟩
              have idlt : ∀ ids k', ofIds C st.loc ids k' → k' < C.w.heap.size := fun ids k' ⟨b, _, ⟨lb, r1, r2⟩, hk⟩ => (hR.inv.own b lb r1 r2 k' hk).1
              -- the elements that were there, owned
              have oldOwn : dp = true ∨ t.flatB = true → ∃ f1 : Nat → Nat → Prop, (∀ i k', f1 i k' → ∃ b, k = some b ∧ Lives st.loc b ∧ C.φ b k' ∧ (C.ρ b).ownBlock ≠ some k') ∧ (∀ i j k', f1 i k' → f1 j k' → i = j) ∧ ∀ (g o' cp : Nat) (cur : List Value), a.eval sO = .slice (some ⟨g, o', none⟩) xs.length cp → blk C.w g cur e → ∀ i x, xs[i]? = some x → Own C.w t x ((cur.drop (o' + i * t.sz)).take t.sz) (f1 i) := by
                intro hdf
                rcases hto' with ⟨_, _, _, h2⟩ | ⟨b, ep, rfl, hb, hv⟩
                · subst h2
                  exact ⟨fun _ _ => False, fun _ _ h => h.elim, fun _ _ _ h => h.elim, fun g o' cp cur _ _ i x hx => by simp at hx⟩
                · have hok := hR.inv.ok b _ hb
                  by_cases hd : dp = true
                  · subst hd
                    rcases (hok : Own _ _ _ _ _) with ⟨_, q2⟩ | ⟨g, o', cp, cur, f, q, m1, m2, m3, m4, m5, m6, m7, m8⟩
                    · subst q2
                      exact ⟨fun _ _ => False, fun _ _ h => h.elim, fun _ _ _ h => h.elim, fun g o' cp cur _ _ i x hx => by simp at hx⟩
                    · injection q with q _
                      refine ⟨f, fun i k' hk => ⟨b, rfl, ⟨_, hb, rfl⟩, (m6 i k' hk).1, fun he => (m6 i k' hk).2 ?_⟩, m7, fun g2 o2 cp2 cur2 hve hbe i x hx => ?_⟩
                      · rw [q] at he
                        simp [Value.ownBlock] at he
                        exact he.symm
                      · rw [hv, q] at hve
                        injection hve with z1 _ _
                        injection z1 with z1
                        injection z1 with za zb _
                        subst za; subst zb
                        have : cur2 = cur := by
                          have := hbe.symm.trans m1
                          injection this with this
                          injection this with this
                          simpa using this
                        subst this
                        exact m8 i x hx
                  · have hd' : dp = false := by simpa using hd
                    subst hd'
                    have hfl : t.flatB = true := hdf.resolve_left hd
                    rcases (hok : OwnSh _ _ _ _ _ _ _) with ⟨_, q2⟩ | ⟨g, o', cp, cur, q, m1, m2, m3, m4, m5, m6⟩
                    · subst q2
                      exact ⟨fun _ _ => False, fun _ _ h => h.elim, fun _ _ _ h => h.elim, fun g o' cp cur _ _ i x hx => by simp at hx⟩
                    · refine ⟨fun _ _ => False, fun _ _ h => h.elim, fun _ _ _ h => h.elim, fun g2 o2 cp2 cur2 hve hbe i x hx => ?_⟩
                      rw [hv, q] at hve
                      injection hve with z1 _ _
                      injection z1 with z1
                      injection z1 with za zb _
                      subst za; subst zb
                      have : cur2 = cur := by
                        have := hbe.symm.trans m1
                        injection this with this
                        injection this with this
                        simpa using this
                      subst this
                      exact Rd.own hfl (m6 i x hx)
              have nodead : ∀ (ids : List Nat) (v' : Value) (g' : Nat), (C.w.heap.size = g' ∨ ∃ o' cp cur, a.eval sO = .slice (some ⟨g', o', none⟩) xs.length cp ∧ blk C.w g' cur e) → ∀ k' b, k = some b → Lives st.loc b → C.φ b k' → (C.ρ b).ownBlock ≠ some k' → k' ≠ g' := by
                intro ids v' g' hg k' b hkb hlb hk hne he
                subst he
                rcases hg with hg | ⟨o', cp, cur, hve, _⟩
                · obtain ⟨lb, r1, r2⟩ := hlb
                  have := (hR.inv.own b lb r1 r2 k' hk).1
                  omega
                · rcases hto' with ⟨hk0, _, _, _⟩ | ⟨b', ep, hk', hb, hv⟩
                  · rw [hk0] at hkb; cases hkb
                  · rw [hk'] at hkb
                    injection hkb with hkb
                    subst hkb
                    rw [hv] at hve
                    rw [hve] at hne
                    exact hne (by simp [Value.ownBlock])
              -- nothing new: the row as it is
              have same : ∀ (ids : List Nat) (dd : Bool), (dd = dp ∨ t.flatB = true ∧ dd = true ∨ k = none) → ∃ φ', (∀ k', φ' k' → k' < C.w.heap.size ∧ (C.w.heap.size ≤ k' ∨ ofIds C st.loc (consO k ids) k')) ∧ if dd = true then Own C.w (.sl e t) xs [a.eval sO] φ' else OwnSh C.S C.w e t xs (a.eval sO) φ' := by
                intro ids dd hdd
                rcases hto' with ⟨_, _, h1, h2⟩ | ⟨b, ep, rfl, hb, hv⟩
                · subst h2
                  refine ⟨fun _ => False, fun _ h => h.elim, ?_⟩
                  rw [h1]
                  split
                  · exact Own.nil
                  · exact .inl ⟨rfl, rfl⟩
                · refine ⟨C.φ b, fun k' hk => ⟨(hR.inv.own b _ hb rfl k' hk).1, .inr ⟨b, List.mem_cons_self .., ⟨_, hb, rfl⟩, hk⟩⟩, ?_⟩
                  have hok := hR.inv.ok b _ hb
                  rw [hv]
                  rcases hdd with rfl | ⟨hfl, rfl⟩ | hk
                  · cases dd with
                    | true => exact hok
                    | false => exact hok
                  · rw [if_pos rfl]
                    cases dp with
                    | true => exact hok
                    | false =>
                      rcases (hok : OwnSh _ _ _ _ _ _ _) with ⟨q, q2⟩ | ⟨g, o', cp, cur, q, m1, m2, m3, m4, m5, m6⟩
                      · rw [q, q2]
                        exact Own.nil
                      · rw [q]
                        exact .inr ⟨g, o', cp, cur, fun _ _ => False, rfl, m1, m2, m3, m4, m5, fun _ _ h => h.elim, fun _ _ _ h => h.elim, fun i x hx => Rd.own hfl (m6 i x hx)⟩
                  · cases hk
              -- all that the row leads to is its own
              have deep : (xs.length + ys'.length) * bytes ≤ 140737488355328 → ∀ (ids : List Nat) (f2 : Nat → Nat → Prop), (dp = true ∨ t.flatB = true) → (∀ i k', f2 i k' → ofIds C st.loc ids k' ∧ ∀ g' o' cp cur, (C.w.heap.size = g' ∨ (a.eval sO = .slice (some ⟨g', o', none⟩) xs.length cp ∧ blk C.w g' cur e)) → k' ≠ g') → (∀ i j k', f2 i k' → f2 j k' → i = j) → (∀ j k' b, k = some b → f2 j k' → ¬ C.φ b k') →
                  (∀ (ad : Addr) (c1 : Nat) (news : List Value), a.eval xO = .slice (some ad) ys'.length c1 → news.length = ys'.length * t.sz → (∀ j u, news[j]? = some u → C.w.cell? (ad.add j) = some u) → ∀ i y, ys'[i]? = some y → Own C.w t y ((news.drop (i * t.sz)).take t.sz) (f2 i)) →
                  Does P M wE C st a o ⟨.c (.own (64 * d)), (64 * d, .row true 0 e t (xs ++ ys')) :: kills (consO k ids)⟩ := by
                intro hl2 ids f2 hdf hf2 hinj hdis hnewO
                obtain ⟨f1, g1, g2, g3⟩ := oldOwn hdf
                refine append_does hR hop hcal hargs hTT hi hnb rfl rfl hl2 (hvf ids) hrdx (fun w' v' g' o' cp' cur' hv' hb' hl' hm' hc' hgg hkeep hold hnew => ?_) (fun hy0 _ => same ids true (hdf.elim (fun h => .inl h.symm) (fun h => .inr (.inl ⟨h, rfl⟩))))
                subst hv'
                have hgg' : C.w.heap.size = g' ∨ ∃ o' cp cur, a.eval sO = .slice (some ⟨g', o', none⟩) xs.length cp ∧ blk C.w g' cur e := hgg.imp id (fun ⟨cp, cur, q⟩ => ⟨o', cp, cur, q⟩)
                have hf1 : ∀ i k', f1 i k' → k' < C.w.heap.size ∧ k' ≠ g' ∧ ofIds C st.loc (consO k ids) k' := fun i k' hk => by
                  obtain ⟨b, q1, q2, q3, q4⟩ := g1 i k' hk
                  have hin : ofIds C st.loc (consO k ids) k' := ⟨b, by rw [q1]; exact List.mem_cons_self .., q2, q3⟩
                  exact ⟨idlt _ _ hin, nodead [] (.slice none 0 0) g' hgg' k' b q1 q2 q3 q4, hin⟩
                have hf2' : ∀ i k', f2 i k' → k' < C.w.heap.size ∧ k' ≠ g' ∧ ofIds C st.loc (consO k ids) k' := fun i k' hk => by
                  obtain ⟨⟨b, q1, q2, q3⟩, q4⟩ := hf2 i k' hk
                  refine ⟨idlt _ _ ⟨b, q1, q2, q3⟩, ?_, ⟨b, in_consO q1, q2, q3⟩⟩
                  rcases hgg' with h | ⟨o1, cp1, cur1, h⟩
                  · exact q4 g' 0 0 [] (.inl h)
                  · exact q4 g' o1 cp1 cur1 (.inr h)
                have hsz : ∀ k', k' < C.w.heap.size → k' ≠ g' → k' < w'.heap.size := fun k' h1 h2 => by
                  have h3 := hkeep k' h1 h2
                  rw [Array.getElem?_eq_getElem h1] at h3
                  exact (Array.getElem?_eq_some_iff.1 h3).1
                refine ⟨fun k' => k' = g' ∨ (∃ i, f1 i k') ∨ ∃ i, f2 i k', fun k' hk => ?_, ?_⟩
                · rcases hk with rfl | ⟨i, hk⟩ | ⟨i, hk⟩
                  · refine ⟨blk_lt hb', ?_⟩
                    rcases hgg with hg | ⟨cp, cur, hve, hbe⟩
                    · exact .inl (by omega)
                    · rcases hvform with ⟨q, _⟩ | ⟨g, o2, cp2, cur2, q, _, _, _, _, b, rfl, q6, q7⟩
                      · rw [q] at hve; cases hve
                      · rw [q] at hve
                        injection hve with z1 _ _
                        injection z1 with z1
                        injection z1 with za _ _
                        subst za
                        exact .inr ⟨b, List.mem_cons_self .., q6, q7⟩
                  · have h1 := hf1 i k' hk
                    exact ⟨hsz k' h1.1 h1.2.1, .inr h1.2.2⟩
                  · have h1 := hf2' i k' hk
                    exact ⟨hsz k' h1.1 h1.2.1, .inr h1.2.2⟩
                simp only [if_true]
                refine own_app hb' hl' hm' hc' (.inl rfl) (fun i k' hk => ⟨.inr (.inl ⟨i, hk⟩), (hf1 i k' hk).2.1⟩) (fun i k' hk => ⟨.inr (.inr ⟨i, hk⟩), (hf2' i k' hk).2.1⟩) g2 hinj (fun i j k' h1 h2 => ?_) (fun i x hx => ?_) (fun i y hy => ?_)
                · obtain ⟨b, q1, q2, q3, q4⟩ := g1 i k' h1
                  exact hdis j k' b q1 h2 q3
                · have hix : i < xs.length := (List.getElem?_eq_some_iff.1 hx).1
                  rcases hvform with ⟨_, q2⟩ | ⟨g, o2, cp2, cur2, q, q1, _⟩
                  · subst q2; simp at hx
                  · rw [hold i hix g o2 cp2 cur2 q q1]
                    exact Own.move (fun k' hk => hkeep k' (hf1 i k' hk).1 (hf1 i k' hk).2.1) (g3 g o2 cp2 cur2 q q1 i x hx)
                · have hiy : i < ys'.length := (List.getElem?_eq_some_iff.1 hy).1
                  rcases Rd_news hrdx with ⟨_, _, q⟩ | ⟨ad, c1, news, q1, q2, q3, q4, q5⟩
                  · rw [q] at hy; simp at hy
                  · rw [hnew ad c1 news q1 q2 q3 i hiy]
                    exact Own.move (fun k' hk => hkeep k' (hf2' i k' hk).1 (hf2' i k' hk).2.1) (hnewO ad c1 news q1 q2 q3 i y hy)
              -- what its elements lead to stays as it is
              have shal : (xs.length + ys'.length) * bytes ≤ 140737488355328 → dp = false ∨ k = none → (∀ (ad : Addr) (c1 : Nat) (news : List Value), a.eval xO = .slice (some ad) ys'.length c1 → news.length = ys'.length * t.sz → (∀ j u, news[j]? = some u → C.w.cell? (ad.add j) = some u) → ∀ i y, ys'[i]? = some y → Rd C.S C.w t y ((news.drop (i * t.sz)).take t.sz)) →
                  Does P M wE C st a o ⟨.c (.own (64 * d)), (64 * d, .row false 0 e t (xs ++ ys')) :: kills (consO k [])⟩ := by
                intro hl2 hdf hnewR
                refine append_does hR hop hcal hargs hTT hi hnb rfl rfl hl2 (hvf []) hrdx (fun w' v' g' o' cp' cur' hv' hb' hl' hm' hc' hgg hkeep hold hnew => ?_) (fun hy0 _ => same [] false (hdf.elim (fun h => .inl h.symm) (fun h => .inr (.inr h))))
                subst hv'
                have hgS : ¬ C.S g' := fun hS => by
                  rcases hgg with hg | ⟨cp, cur, hve, hbe⟩
                  · have := hR.inv.S_lt _ hS; omega
                  · rcases hvform with ⟨q, _⟩ | ⟨g, o2, cp2, cur2, q, _, _, _, _, b, rfl, ⟨lb, r1, r2⟩, q7⟩
                    · rw [q] at hve; cases hve
                    · rw [q] at hve
                      injection hve with z1 _ _
                      injection z1 with z1
                      injection z1 with za _ _
                      subst za
                      exact (hR.inv.own b lb r1 r2 _ q7).2.1 hS
                have hkS : ∀ k', C.S k' → w'.heap[k']? = C.w.heap[k']? := fun k' hk => hkeep k' (hR.inv.S_lt k' hk) (fun he => hgS (he ▸ hk))
                refine ⟨fun k' => k' = g', fun k' hk => ?_, ?_⟩
                · subst hk
                  refine ⟨blk_lt hb', ?_⟩
                  rcases hgg with hg | ⟨cp, cur, hve, hbe⟩
                  · exact .inl (by omega)
                  · rcases hvform with ⟨q, _⟩ | ⟨g, o2, cp2, cur2, q, _, _, _, _, b, rfl, q6, q7⟩
                    · rw [q] at hve; cases hve
                    · rw [q] at hve
                      injection hve with z1 _ _
                      injection z1 with z1
                      injection z1 with za _ _
                      subst za
                      exact .inr ⟨b, List.mem_cons_self .., q6, q7⟩
                simp only [Bool.false_eq_true, if_false]
                refine sh_app hb' hl' hm' hc' rfl (fun i x hx => ?_) (fun i y hy => ?_)
                · have hix : i < xs.length := (List.getElem?_eq_some_iff.1 hx).1
                  rcases hto' with ⟨_, _, _, h2⟩ | ⟨b, ep, rfl, hb, hv⟩
                  · subst h2; simp at hx
                  · rcases hdf with rfl | hk
                    · have hok := hR.inv.ok b _ hb
                      rcases (hok : OwnSh _ _ _ _ _ _ _) with ⟨_, q2⟩ | ⟨g, o1, cp, cur, q, m1, m2, m3, m4, m5, m6⟩
                      · subst q2; simp at hx
                      · rw [hold i hix g o1 cp cur (hv.trans q) m1]
                        exact Rd.mono (fun _ h => h) hkS (m6 i x hx)
                    · cases hk
                · have hiy : i < ys'.length := (List.getElem?_eq_some_iff.1 hy).1
                  rcases Rd_news hrdx with ⟨_, _, q⟩ | ⟨ad, c1, news, q1, q2, q3, q4, q5⟩
                  · rw [q] at hy; simp at hy
                  · rw [hnew ad c1 news q1 q2 q3 i hiy]
                    exact Rd.mono (fun _ h => h) hkS (hnewR ad c1 news q1 q2 q3 i y hy)
              split at hed
              · -- flat
                rename_i hfl
                simp only [Option.some.injEq, Prod.mk.injEq] at hed
                obtain ⟨rfl, rfl, rfl⟩ := hed
                refine deep hl [] (fun _ _ => False) (.inr hfl) (fun _ _ h => h.elim) (fun _ _ _ h => h.elim) (fun _ _ _ _ h => h.elim) (fun ad c1 news q1 q2 q3 i y hy => ?_)
                rcases Rd_news hrdx with ⟨_, _, q⟩ | ⟨ad', c1', news', p1, p2, p3, p4, p5⟩
                · rw [q] at hy; simp at hy
                · rw [q1] at p1
                  injection p1 with z1 _ _
                  injection z1 with z1
                  subst z1
                  rw [news_eq q2 p2 q3 p3]
                  exact Rd.own hfl (p5 i y hy)
              · rename_i hfl
                split at hed
                · -- nil
                  simp only [Option.some.injEq, Prod.mk.injEq] at hed
                  obtain ⟨rfl, rfl, rfl⟩ := hed
                  simp only [rdSl] at hys
                  injection hys with hys
                  subst hys
                  cases dp with
                  | true => exact deep hl [] (fun _ _ => False) (.inl rfl) (fun _ _ h => h.elim) (fun _ _ _ h => h.elim) (fun _ _ _ _ h => h.elim) (fun ad c1 news q1 q2 q3 i y hy => by simp at hy)
                  | false => exact shal hl (.inl rfl) (fun ad c1 news q1 q2 q3 i y hy => by simp at hy)
                · -- a row of one's own
                  rename_i b
                  split at hed
                  · rename_i hsh
                    split at hed
                    · rename_i hds
                      simp only [Option.some.injEq, Prod.mk.injEq] at hed
                      obtain ⟨rfl, rfl, rfl⟩ := hed
                      refine shal hl hds (fun ad c1 news q1 q2 q3 i y hy => ?_)
                      unfold isShal at hsh
                      split at hsh
                      · rename_i ep' e' t' zs hb
                        have hb' := hs.L _ _ hb
                        simp only [rdSl, hb] at hys
                        obtain ⟨ht, hz⟩ := cast_ok hys
                        subst ht
                        simp only at hz
                        subst hz
                        obtain ⟨lb, hlb, _, hal⟩ := hxv
                        rw [hb'] at hlb
                        injection hlb with hlb
                        subst hlb
                        have hok := hR.inv.ok b _ hb'
                        rcases (hok : OwnSh _ _ _ _ _ _ _) with ⟨_, q⟩ | ⟨g, o1, cp, cur, q, m1, m2, m3, m4, m5, m6⟩
                        · subst q; simp at hy
                        · have hxe := (hal rfl).trans q
                          rw [q1] at hxe
                          injection hxe with z1 _ _
                          injection z1 with z1
                          subst z1
                          have hmul : zs.length * t'.sz ≤ cp * t'.sz := Nat.mul_le_mul_right _ m2
                          have hne : news = (cur.drop o1).take (zs.length * t'.sz) := news_eq (w := C.w) (ad := ⟨g, o1, none⟩) q2 (by rw [List.length_take, List.length_drop]; omega) q3 (fun j u hj => by rw [add_lit, blk_cell m1]; exact (take_drop_get hj).1)
                          have hiy : i < zs.length := (List.getElem?_eq_some_iff.1 hy).1
                          have hmi : i * t'.sz + t'.sz ≤ zs.length * t'.sz := by rw [← Nat.succ_mul]; exact Nat.mul_le_mul_right _ hiy
                          have hch : (news.drop (i * t'.sz)).take t'.sz = (cur.drop (o1 + i * t'.sz)).take t'.sz := by
                            rw [hne]
                            apply List.ext_getElem?
                            intro j
                            rw [List.getElem?_take, List.getElem?_take]
                            split
                            · rw [List.getElem?_drop, List.getElem?_drop, List.getElem?_take, if_pos (by omega), List.getElem?_drop, Nat.add_assoc]
                            · rfl
                          rw [hch]
                          exact m6 i y hy
                      · cases hsh
                    · cases hed
                  · split at hed
                    · rename_i ids0 hids
                      split at hed
                      · rename_i hds
                        obtain ⟨hdt, hsb⟩ := hds
                        simp only [Option.some.injEq, Prod.mk.injEq] at hed
                        obtain ⟨rfl, rfl, rfl⟩ := hed
                        simp only [ownIds] at hids
                        split at hids
                        · rename_i ep' e' t' zs hb
                          split at hids
                          · rename_i hc
                            obtain ⟨rfl, rfl⟩ := hc
                            injection hids with hids
                            injection hids with hids _
                            subst hids
                            have hb' := hs.L _ _ hb
                            simp only [rdSl, hb] at hys
                            obtain ⟨_, hz⟩ := cast_ok hys
                            simp only at hz
                            subst hz
                            obtain ⟨lb, hlb, _, hal⟩ := hxv
                            rw [hb'] at hlb
                            injection hlb with hlb
                            subst hlb
                            have hok := hR.inv.ok b _ hb'
                            have hbl : Lives st.loc b := ⟨_, hb', rfl⟩
                            rcases (hok : Own _ _ _ _ _) with ⟨q0, q⟩ | ⟨g, o1, cp, cur, f, q, m1, m2, m3, m4, m5, m6, m7, m8⟩
                            · subst q
                              refine deep hl [b] (fun _ _ => False) (.inl hdt) (fun _ _ h => h.elim) (fun _ _ _ h => h.elim) (fun _ _ _ _ h => h.elim) (fun ad c1 news q1 q2 q3 i y hy => by simp at hy)
                            · injection q with q _
                              refine deep hl [b] f (.inl hdt) (fun i k' hk => ⟨⟨b, by simp, hbl, (m6 i k' hk).1⟩, fun g' o' cp' cur' hgg he => ?_⟩) m7 (fun j k' b' hkb hk hφ => ?_) (fun ad c1 news q1 q2 q3 i y hy => ?_)
                              · subst he
                                rcases hgg with hg | ⟨hve, hbe⟩
                                · have := (hR.inv.own b _ hb' rfl k' (m6 i k' hk).1).1
                                  omega
                                · rcases hvform with ⟨q', _⟩ | ⟨g2, o2, cp2, cur2, q', _, _, _, _, b2, hkb, ⟨lb2, r1, r2⟩, q7⟩
                                  · rw [q'] at hve; cases hve
                                  · rw [q'] at hve
                                    injection hve with z1 _ _
                                    injection z1 with z1
                                    injection z1 with za _ _
                                    subst za
                                    exact hR.inv.disj b b2 _ lb2 (fun he => hsb (by rw [hkb, he])) hb' r1 rfl r2 _ (m6 i _ hk).1 q7
                              · rcases hto' with ⟨hk0, _⟩ | ⟨b2, ep2, hk2, hb2, _⟩
                                · rw [hk0] at hkb; cases hkb
                                · rw [hk2] at hkb
                                  injection hkb with hkb
                                  subst hkb
                                  exact hR.inv.disj b b2 _ _ (fun he => hsb (by rw [hk2, he])) hb' hb2 rfl rfl _ (m6 j _ hk).1 hφ
                              · have hxe := (hal rfl).trans q
                                rw [q1] at hxe
                                injection hxe with z1 _ _
                                injection z1 with z1
                                subst z1
                                have hmul : zs.length * t'.sz ≤ cp * t'.sz := Nat.mul_le_mul_right _ m2
                                have hne : news = (cur.drop o1).take (zs.length * t'.sz) := news_eq (w := C.w) (ad := ⟨g, o1, none⟩) q2 (by rw [List.length_take, List.length_drop]; omega) q3 (fun j u hj => by rw [add_lit, blk_cell m1]; exact (take_drop_get hj).1)
                                have hiy : i < zs.length := (List.getElem?_eq_some_iff.1 hy).1
                                have hmi : i * t'.sz + t'.sz ≤ zs.length * t'.sz := by rw [← Nat.succ_mul]; exact Nat.mul_le_mul_right _ hiy
                                have hch : (news.drop (i * t'.sz)).take t'.sz = (cur.drop (o1 + i * t'.sz)).take t'.sz := by
                                  rw [hne]
                                  apply List.ext_getElem?
                                  intro j
                                  rw [List.getElem?_take, List.getElem?_take]
                                  split
                                  · rw [List.getElem?_drop, List.getElem?_drop, List.getElem?_take, if_pos (by omega), List.getElem?_drop, Nat.add_assoc]
                                  · rfl
                                rw [hch]
                                exact m8 i y hy
                          · cases hids
                        · cases hids
                      · cases hed
                    · cases hed
                · -- read only
                  rename_i e1 t1 zs
                  split at hed
                  · rename_i hds
                    simp only [Option.some.injEq, Prod.mk.injEq] at hed
                    obtain ⟨rfl, rfl, rfl⟩ := hed
                    refine shal hl hds (fun ad c1 news q1 q2 q3 i y hy => ?_)
                    have hrd : Rd C.S C.w (.sl e t) ys' [a.eval xO] := Rd.mono (fun k' hk => RdS_nil hk) (fun _ _ => rfl) hrdx
                    rcases Rd_news hrd with ⟨_, _, q⟩ | ⟨ad', c1', news', p1, p2, p3, p4, p5⟩
                    · rw [q] at hy; simp at hy
                    · rw [q1] at p1
                      injection p1 with z1 _ _
                      injection z1 with z1
                      subst z1
                      rw [news_eq q2 p2 q3 p3]
                      exact p5 i y hy
                  · cases hed
                · cases hed
            · cases hed
          · cases hed
        · cases h
      · cases h
    · cases h
  · cases h
end
end Go.Proofs.Ytceffcfnjjlbkaa.E
