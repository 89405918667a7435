/- The evaluator, 11: rows that are made, rows that are appended to. -/
import Derived.Test.YtceffcfnjjlbkaaE10
import Derived.Laws.MakeOwn
import Derived.Great.BuildSlice
namespace Go.Proofs.Ytceffcfnjjlbkaa.E
open Go.RowKit
set_option linter.unusedVariables false
set_option linter.unusedSimpArgs false
section
variable {P : Program} {M : Nat → Prop} {wE : World} {C : Cx} {st : St} {a : Act} {T : Nat → Option TV} {L : Nat → Option LB} {o : Oper}
/-- The memory of the blocks with these names. -/
def ofIds (C : Cx) (loc : Loc) (ids : List Nat) (k : Nat) : Prop := ∃ b, b ∈ ids ∧ Lives loc b ∧ C.φ b k
/-- Cells that make up data of one's own. -/
theorem own_cells (hI : Inv P M wE C st.loc) (hs : Sees T L st) {t : Ty} {cs : List CV} {x : t.den} {r r' : List CV} {ids : List Nat} (hx : unflat L t cs = some (x, r)) (hids : ownIds L noStay t cs = some (ids, r')) (hnd : ids.Nodup) {vs : List Value} (hv : RCs P C st.loc cs vs) :
    r' = r ∧ ∃ d0 c0 c1, cs = d0 ++ r ∧ vs = c0 ++ c1 ∧ RCs P C st.loc d0 c0 ∧ RCs P C st.loc r c1 ∧ ∀ w', (∀ k, ofIds C st.loc ids k → w'.heap[k]? = C.w.heap[k]?) → Own w' t x c0 (ofIds C st.loc ids) := by
  obtain ⟨d0, e0, er, l0, f0, g0⟩ := ownIds_ok hids hx
  obtain ⟨d1, e1, l1, g1⟩ := unflat_flat hx
  have hr : r' = r := er
  subst hr
  have hd : d0 = d1 := by
    have := e0.symm.trans e1
    exact List.append_cancel_right this
  subst hd
  have hvl : d0.length ≤ vs.length := by rw [← hv.1, e0, List.length_append]; omega
  have hv0 : RCs P C st.loc d0 (vs.take d0.length) := by
    have := RCs_take hv d0.length
    rwa [e0, List.take_left] at this
  have hv1 : RCs P C st.loc r' (vs.drop d0.length) := by
    have := RCs_drop hv d0.length
    rwa [e0, List.drop_left] at this
  refine ⟨rfl, d0, vs.take d0.length, vs.drop d0.length, e0, (List.take_append_drop _ _).symm, hv0, hv1, fun w' hw => ?_⟩
  refine OCs.own ⟨by rw [← hv0.1, flat_length, l0], fun j k => match d0[j]? with | some (.own b') => b' ∈ ids ∧ Lives st.loc b' ∧ C.φ b' k | _ => False, fun j k hk => ?_, fun i1 j k hi hj => ?_, fun j c' v hc' hv => ?_⟩
  · simp only at hk
    split at hk
    · rename_i b' _
      exact ⟨b', hk⟩
    · exact hk.elim
  · simp only at hi hj
    split at hi
    · rename_i b1 h1
      split at hj
      · rename_i b2 h2
        obtain ⟨hm1, ⟨lb1, q1, q2⟩, q3⟩ := hi
        obtain ⟨hm2, ⟨lb2, r1, r2⟩, r3⟩ := hj
        by_cases hbb : b1 = b2
        · subst hbb
          exact nodup_at (by rw [← f0]; exact hnd) h1 h2
        · exact absurd r3 (hI.disj b1 b2 lb1 lb2 hbb q1 r1 q2 r2 k q3)
      · exact hj.elim
    · exact hi.elim
  · have hjt : j < t.sz := by
      have := (List.getElem?_eq_some_iff.1 hc').1
      rwa [flat_length] at this
    obtain ⟨c, hc⟩ : ∃ c, d0[j]? = some c := ⟨_, List.getElem?_eq_getElem (by rw [l0]; exact hjt)⟩
    have hrc := hv0.2 j c v hc hv
    have hfit := g1 j c c' hc hc'
    have hdat := flat_data (List.mem_of_getElem? hc')
    cases c' <;> first | exact (Bool.false_ne_true hdat).elim | skip
    case int k n => have hfit : c = .int k n := hfit; subst hfit; exact hrc
    case bool n => have hfit : c = .bool n := hfit; subst hfit; exact hrc
    case str n => have hfit : c = .str n := hfit; subst hfit; exact hrc
    case bor e1 t1 ys =>
      show Own w' (.sl e1 t1) ys [v] _
      rcases g0 j c e1 t1 ys hc hc' with ⟨b1, ep1, rfl, hL⟩ | ⟨rfl, rfl⟩ | hst
      · have hL' := hs.L _ _ hL
        obtain ⟨lb, hlb, _, hal⟩ := hrc
        rw [hL'] at hlb
        injection hlb with hlb
        subst hlb
        rw [hal rfl]
        have hm : b1 ∈ ids := by rw [f0]; exact mem_ids hc
        have hl1 : Lives st.loc b1 := ⟨_, hL', rfl⟩
        refine Own.mono (φ := C.φ b1) (fun k hk => ?_) (Own.move (fun k hk => hw k ⟨b1, hm, hl1, hk⟩) (hI.ok b1 _ hL'))
        show (match d0[j]? with | some (.own b') => b' ∈ ids ∧ Lives st.loc b' ∧ C.φ b' k | _ => False)
        rw [hc]
        exact ⟨hm, hl1, hk⟩
      · rw [show v = _ from hrc]
        exact Own.nil
      · cases hst
/-- New name; the blocks with some other names are used up. -/
theorem EntsOk.build (hI : Inv P M wE C st.loc) {nb : Nat} (hnb : lget st.loc nb = none) {ids : List Nat} {lb : LB} {v : Value} {w' : World} (h1 : C.w.heap.size ≤ w'.heap.size) (h2 : w'.os = C.w.os) (h3 : w'.tape = C.w.tape) (h4 : w'.output = C.w.output)
    (h5 : ∀ k, k < C.w.heap.size → ¬ ofIds C st.loc ids k → w'.heap[k]? = C.w.heap[k]?) {φ' : Nat → Prop} (hφ : ∀ k, φ' k → k < w'.heap.size ∧ (C.w.heap.size ≤ k ∨ ofIds C st.loc ids k)) : EntsOk C st.loc w' C.S (⟨nb, lb, v, φ'⟩ :: deadEnts C ids) := by
  refine ⟨h1, h2, h3, h4, fun k hk hn => h5 k hk (fun ⟨b, hb, hl, hk'⟩ => hn ⟨b, .dead, C.ρ b, fun _ => False⟩ (List.mem_cons_of_mem _ (List.mem_map.2 ⟨b, hb, rfl⟩)) hl hk'), fun _ h => h, fun _ h => .inl h, fun e he hal k hk => ?_, fun e he e' he' hne hal hal' => ?_, fun e he lb' hl' => ?_, fun e he hal => ?_⟩
  · rcases List.mem_cons.1 he with rfl | he
    · obtain ⟨q1, q2⟩ := hφ k hk
      refine ⟨q1, fun hs => ?_, q2.imp id (fun ⟨b, hb, hl, hk'⟩ => ⟨⟨b, .dead, C.ρ b, fun _ => False⟩, List.mem_cons_of_mem _ (List.mem_map.2 ⟨b, hb, rfl⟩), hl, hk'⟩)⟩
      rcases q2 with q2 | ⟨b, hb, ⟨lb', r1, r2⟩, hk'⟩
      · have := hI.S_lt k hs; omega
      · exact (hI.own b lb' r1 r2 k hk').2.1 hs
    · rw [(mem_dead he).2.1] at hal
      cases hal
  · rcases List.mem_cons.1 he with rfl | he
    · rcases List.mem_cons.1 he' with rfl | he'
      · exact absurd rfl hne
      · rw [(mem_dead he').2.1] at hal'
        cases hal'
    · rw [(mem_dead he).2.1] at hal
      cases hal
  · rcases List.mem_cons.1 he with rfl | he
    · rw [hnb] at hl'
      cases hl'
    · exact (mem_dead he).2.2
  · rcases List.mem_cons.1 he with rfl | he
    · exact .inl hnb
    · rw [(mem_dead he).2.1] at hal
      cases hal
/-- .. and a row of that name. -/
theorem Does.rowK (hR : Rel P M wE C st a) {nb e : Nat} {t : Ty} {d : Bool} {xs : List t.den} (hnb : lget st.loc nb = none) {ids : List Nat} {v : Value} {w' : World} (h1 : C.w.heap.size ≤ w'.heap.size) (h2 : w'.os = C.w.os) (h3 : w'.tape = C.w.tape) (h4 : w'.output = C.w.output)
    (h5 : ∀ k, k < C.w.heap.size → ¬ ofIds C st.loc ids k → w'.heap[k]? = C.w.heap[k]?) {φ' : Nat → Prop} (hφ : ∀ k, φ' k → k < w'.heap.size ∧ (C.w.heap.size ≤ k ∨ ofIds C st.loc ids k))
    (hO : if d = true then Own w' (.sl e t) xs [v] φ' else OwnSh C.S w' e t xs v φ') (hv : ∃ A n c, v = .slice A n c) (hrun : (execOp a.eval o).run P C.w = .ok (.value v) w') : Does P M wE C st a o ⟨.c (.own nb), (nb, .row d 0 e t xs) :: kills ids⟩ := by
  have hE := EntsOk.build (M := M) (wE := wE) hR.inv hnb (ids := ids) (lb := .row d 0 e t xs) (v := v) h1 h2 h3 h4 h5 hφ
  have := Does.ents (tv := .c (.own nb)) hR hrun hE (fun e' he _ => ?_) ?_
  · rw [show ups (⟨nb, .row d 0 e t xs, v, φ'⟩ :: deadEnts C ids) = (nb, .row d 0 e t xs) :: kills ids by rw [← ups_dead (C := C)]; rfl] at this
    exact this
  · rcases List.mem_cons.1 he with rfl | he
    · cases d with
      | true => exact hO
      | false => exact hO
    · rw [(mem_dead he).2.1]
      trivial
  · refine ⟨_, lget_self (e := ⟨nb, .row d 0 e t xs, v, φ'⟩), hv, fun _ => ?_⟩
    exact (ents_at (C := C) (eget_self (e := ⟨nb, .row d 0 e t xs, v, φ'⟩))).1.symm

/-! ### make -/
theorem rowInfo_ok {E e bytes : Nat} {t : Ty} (h : rowInfo P E = some (e, t, bytes)) : P.underlying E = some (.slice e) ∧ ∃ i z, P.info? e = some i ∧ zeroV P e = some z ∧ i.zero = some z ∧ i.size = t.sz ∧ i.bytes = bytes ∧ 0 < bytes ∧ z.cells.size = t.sz := by
  unfold rowInfo at h
  split at h
  · rename_i e' hu
    split at h
    · rename_i t' i z ht hi hz
      split at h
      · rename_i hc
        simp only [Option.some.injEq, Prod.mk.injEq] at h
        obtain ⟨rfl, rfl, rfl⟩ := h
        obtain ⟨i', q1, q2, q3, q4⟩ := zeroV_ok hz
        rw [hi] at q1
        injection q1 with q1
        subst q1
        exact ⟨hu, i, z, hi, hz, q2, hc.1, rfl, hc.2, q3.trans hc.1⟩
      · cases h
    · cases h
  · cases h
def isZ : CV → Bool
  | .int _ _ => true
  | .bool _ => true
  | .str _ => true
  | .nil => true
  | _ => false
theorem cvsOf_z : ∀ {l : List Value} {cs : List CV}, cvsOf l = some cs → cs.all isZ = true
  | [], cs, h => by
    simp only [cvsOf] at h
    injection h with h
    subst h
    rfl
  | v :: l, cs, h => by
    simp only [cvsOf] at h
    split at h
    · rename_i c hc
      split at h
      · rename_i r hr
        injection h with h
        subst h
        simp only [List.all_cons, Bool.and_eq_true]
        refine ⟨?_, cvsOf_z hr⟩
        unfold cvOf at hc
        split at hc <;> first | (injection hc with hc; subst hc; rfl) | cases hc
      · cases h
    · cases h
/-- A zero element is its own, whatever the memory. -/
theorem zero_own {e : Nat} {t : Ty} {z0 : t.den} (h : zeroD P e t = some z0) {z : Value} (hz : zeroV P e = some z) (w : World) : Own w t z0 z.cells.toList (fun _ => False) := by
  unfold zeroD at h
  split at h
  · rename_i cs hcs
    split at h
    · rename_i z1 hz1
      injection h with h
      subst h
      unfold zeroC at hcs
      rw [hz] at hcs
      obtain ⟨d1, e1, l1, g1⟩ := unflat_flat hz1
      rw [List.append_nil] at e1
      subst e1
      have hrc : RCs P ⟨w, fun _ => False, fun _ => False, fun _ => undef, fun _ _ => False⟩ [] cs z.cells.toList := cvsOf_ok hcs
      have hzz := cvsOf_z hcs
      refine OCs.own ⟨by rw [flat_length, ← l1, hrc.1], fun _ _ => False, fun _ _ h => h, fun _ _ _ h => h.elim, fun j c' v hc' hv => ?_⟩
      have hjt : j < t.sz := by
        have := (List.getElem?_eq_some_iff.1 hc').1
        rwa [flat_length] at this
      obtain ⟨c, hc⟩ : ∃ c, cs[j]? = some c := ⟨_, List.getElem?_eq_getElem (by rw [l1]; exact hjt)⟩
      have hcv := hrc.2 j c v hc hv
      have hfit := g1 j c c' hc hc'
      have hdat := flat_data (List.mem_of_getElem? hc')
      have hzc := List.all_eq_true.1 hzz c (List.mem_of_getElem? hc)
      cases c' <;> first | exact (Bool.false_ne_true hdat).elim | skip
      case int k n => have hfit : c = .int k n := hfit; subst hfit; exact hcv
      case bool n => have hfit : c = .bool n := hfit; subst hfit; exact hcv
      case str n => have hfit : c = .str n := hfit; subst hfit; exact hcv
      case bor e1 t1 ys =>
        have hfit : rdSl (fun _ => none) t1 c = some ys := hfit
        cases c <;> first | exact (Bool.false_ne_true hzc).elim | skip
        all_goals first | (simp only [rdSl] at hfit; cases hfit; done) | skip
        simp only [rdSl] at hfit
        injection hfit with hfit
        subst hfit
        show Own w (.sl e1 t1) [] [v] _
        rw [show v = _ from hcv]
        exact Own.nil
    · cases h
  · cases h
theorem made_chunk {z : Array Value} {n i : Nat} (hz : 0 < z.size) (hi : i < n) : ((madeCells z (n * z.size)).toList.drop (i * z.size)).take z.size = z.toList := by
  have hmul : i * z.size + z.size ≤ n * z.size := by rw [← Nat.succ_mul]; exact Nat.mul_le_mul_right _ hi
  apply List.ext_getElem?
  intro j
  rw [List.getElem?_take, List.getElem?_drop]
  by_cases hj : j < z.size
  · rw [if_pos hj]
    simp only [madeCells, Array.toList_map, Array.toList_range, List.getElem?_map, List.getElem?_range (show i * z.size + j < n * z.size by omega), Option.map_some]
    rw [Nat.mul_add_mod_self_right, Nat.mod_eq_of_lt hj]
    simp [hj]
  · rw [if_neg hj, List.getElem?_eq_none (by simpa using Nat.le_of_not_lt hj)]
theorem make_ok (hR : Rel P M wE C st a) {E e bytes : Nat} {t : Ty} {x y : Operand} (hop : o.op = .makeSlice E x y) (hi : rowInfo P E = some (e, t, bytes)) {nb : Nat} (hnb : lget st.loc nb = none) {n m : Int} (hx : a.eval x = .int .i64 n) (hy : a.eval y = .int .i64 m) {z0 : t.den} (hz0 : zeroD P e t = some z0)
    (h0 : 0 ≤ n) (h1 : n ≤ m) (hl : m.toNat * bytes ≤ 281474976710656) : Does P M wE C st a o ⟨.c (.own nb), [(nb, .row true 0 e t (List.replicate n.toNat z0))]⟩ := by
  obtain ⟨hu, i, z, hie, hzv, hz, hsz, rfl, hb0, hzs⟩ := rowInfo_ok hi
  have hmb : m.toNat ≤ 281474976710656 := Nat.le_trans (Nat.le_mul_of_pos_right _ hb0) hl
  have hrun := run_make (P := P) C.w E e i z hu hie hz .i64 .i64 n m h0 h1 (by
    have : ((i.bytes * m.toNat : Nat) : Int) ≤ 281474976710656 := by rw [Nat.mul_comm]; omega
    rw [Int.natCast_mul, Int.toNat_of_nonneg (by omega)] at this
    exact this) (by omega)
  have hrun' : (execOp a.eval o).run P C.w = .ok (.value (.slice (some ⟨C.w.heap.size, 0, none⟩) n.toNat m.toNat)) (C.w.alloc (.cells (madeCells z.cells (m.toNat * i.size)) e)) := by
    unfold execOp
    simp only [hop, hx, hy]
    rw [Sem.run_bind, hrun]
    rfl
  refine Does.newRow hR hnb (φ := fun k => k = C.w.heap.size) (below_new _ _) (fun k hk => by subst hk; exact ⟨Nat.le_refl _, by simp⟩) (fun C' loc' hw _ => ?_) ⟨_, _, _, rfl⟩ hrun'
  have hp := sz_pos t
  show Own C'.w _ _ _ _
  rw [hw]
  refine .inr ⟨C.w.heap.size, 0, m.toNat, (madeCells z.cells (m.toNat * z.cells.size)).toList, fun _ _ => False, by simp, ?_, by simp; omega, by simp only [maxLen]; omega, by rw [← hzs]; simp [madeCells], rfl, fun _ _ h => h.elim, fun _ _ _ h => h.elim, fun j x hj => ?_⟩
  · have := heap_alloc_new C.w (.cells (madeCells z.cells (m.toNat * i.size)) e)
    rw [hsz, ← hzs] at this
    unfold blk
    rw [hsz, ← hzs, Array.toArray_toList]
    exact this
  · rw [List.getElem?_replicate] at hj
    split at hj
    · rename_i hjn
      injection hj with hj
      subst hj
      rw [Nat.zero_add, ← hzs, made_chunk (by omega) (by omega)]
      exact zero_own hz0 hzv _
    · cases hj

/-! ### literals -/
theorem fold_splice : ∀ (l : List Value) (k off : Nat) (cur : Array Value), off + k + l.length ≤ cur.size → (l.zipIdx k).foldl (fun (cs : Array Value) (x : Value × Nat) => cs.setIfInBounds (off + x.2) x.1) cur = (cur.toList.take (off + k) ++ l ++ cur.toList.drop (off + k + l.length)).toArray
  | [], k, off, cur, h => by simp
  | v :: l, k, off, cur, h => by
    rw [List.zipIdx_cons, List.foldl_cons, fold_splice l (k + 1) off (cur.setIfInBounds (off + k) v) (by simp at h ⊢; omega)]
    apply Array.ext'
    simp only
    simp only [List.length_cons] at h
    apply List.ext_getElem?
    intro j
    rw [show off + (k + 1) = off + k + 1 by omega, splice_get (by simp; omega), splice_get (by simp; omega), Array.toList_setIfInBounds]
    simp only [List.length_cons]
    by_cases h1 : j = off + k
    · subst h1
      rw [if_neg (by omega), if_pos (by omega), List.getElem?_set_self (by simp; omega)]
      simp
    · rw [List.getElem?_set_ne (Ne.symm h1)]
      by_cases h2 : off + k + 1 ≤ j ∧ j < off + k + 1 + l.length
      · rw [if_pos h2, if_pos (by omega), show j - (off + k) = (j - (off + k + 1)) + 1 by omega, List.getElem?_cons_succ]
      · rw [if_neg h2, if_neg (by omega)]
theorem fill_step {place : Nat → Option (Nat × Nat)} {cells : Array Value} {i off size : Nat} {v : Value} {rest : List (Nat × Value)} (hp : place i = some (off, size)) (hs : v.cells.size = size) (hl : off + size ≤ cells.size) :
    Instr.fill place cells ((i, v) :: rest) = Instr.fill place (cells.toList.take off ++ v.cells.toList ++ cells.toList.drop (off + v.cells.toList.length)).toArray rest := by
  simp only [Instr.fill, hp]
  rw [if_neg (by simp [hs]; omega)]
  congr 1
  have := fold_splice v.cells.toList 0 off cells (by simp [hs]; omega)
  simp only [Nat.add_zero] at this
  rw [← this, ← Array.foldl_toList, Array.toList_zipIdx]
theorem RCs_one' {loc : Loc} {tv : TV} {cs : List CV} (h : allCells tv = some cs) {v : Value} (hv : RV P C loc tv v) (hk : cs.all CV.known = true) : RCs P C loc cs v.cells.toList := by
  cases tv with
  | agg cs' =>
    simp only [allCells] at h
    injection h with h
    subst h
    obtain ⟨us, h1, rfl⟩ := hv
    simpa [Value.cells] using h1
  | c x =>
    simp only [allCells] at h
    injection h with h
    subst h
    have h1 := RC_one hv (by simpa using hk)
    have : v.cells.toList = [v] := by cases v <;> first | rfl | cases h1
    rw [this]
    exact RCs_one hv
  | arr k n xs => cases h
  | tup xs => cases h
/-- The parts of a literal, as the machine has them. -/
theorem evParts_ok (hR : Rel P M wE C st a) (hs : Sees T L st) : ∀ {l : List (Nat × Operand)} {ps : List (Nat × List CV)}, evParts T l = some ps → ps.length = l.length ∧ ∀ (j i : Nat) (cs : List CV) (x : Nat × Operand), ps[j]? = some (i, cs) → l[j]? = some x → x.1 = i ∧ ∃ tv, allCells tv = some cs ∧ RV P C st.loc tv (a.eval x.2)
  | [], ps, h => by
    simp only [evParts] at h
    injection h with h
    subst h
    exact ⟨rfl, fun j i cs x hj => by simp at hj⟩
  | (i0, x0) :: l, ps, h => by
    simp only [evParts] at h
    split at h
    · rename_i v hv
      split at h
      · rename_i cs0 hcs0
        split at h
        · rename_i r hr
          injection h with h
          subst h
          obtain ⟨h1, h2⟩ := evParts_ok hR hs hr
          refine ⟨by simp [h1], fun j i cs x hj hx => ?_⟩
          cases j with
          | zero =>
            simp only [List.getElem?_cons_zero, Option.some.injEq, Prod.mk.injEq] at hj hx
            obtain ⟨rfl, rfl⟩ := hj
            subst hx
            exact ⟨rfl, v, hcs0, evO_ok hR hs hv⟩
          | succ j => exact h2 j i cs x (by simpa using hj) (by simpa using hx)
        · cases h
      · cases h
    · cases h
theorem litC_ok (hR : Rel P M wE C st a) (hs : Sees T L st) {sz : Nat} : ∀ {l : List (Nat × Operand)} {ps : List (Nat × List CV)} {cs cs' : List CV} {cur : List Value}, evParts T l = some ps → litC sz ps cs = some cs' → RCs P C st.loc cs cur →
    ∃ cur', Instr.fill (fun i => some (i * sz, sz)) cur.toArray (l.map fun x => (x.1, a.eval x.2)) = some cur'.toArray ∧ RCs P C st.loc cs' cur'
  | [], ps, cs, cs', cur, h, h', hc => by
    simp only [evParts] at h
    injection h with h
    subst h
    simp only [litC] at h'
    injection h' with h'
    subst h'
    exact ⟨cur, rfl, hc⟩
  | (i0, x0) :: l, ps, cs, cs', cur, h, h', hc => by
    simp only [evParts] at h
    split at h
    · rename_i v hv
      split at h
      · rename_i cs0 hcs0
        split at h
        · rename_i r hr
          injection h with h
          subst h
          simp only [litC] at h'
          split at h'
          · rename_i hcc
            obtain ⟨c1, c2, c3⟩ := hcc
            have hsg := RCs_one' hcs0 (evO_ok hR hs hv) c3
            have hsz : (a.eval x0).cells.size = sz := by rw [← c1, hsg.1]; simp
            obtain ⟨cur', q1, q2⟩ := litC_ok hR hs hr h' (RCs_splice (off := i0 * sz) hc hsg)
            refine ⟨cur', ?_, q2⟩
            simp only [List.map_cons]
            rw [fill_step rfl hsz (by have := hc.1; simp; omega)]
            exact q1
          · cases h'
        · cases h
      · cases h
    · cases h
theorem RCs_flatten {loc : Loc} {cs : List CV} {vs : List Value} (h : RCs P C loc cs vs) : ∀ n, RCs P C loc (List.replicate n cs).flatten (List.replicate n vs).flatten
  | 0 => RCs_nil
  | n + 1 => by
    rw [List.replicate_succ, List.replicate_succ, List.flatten_cons, List.flatten_cons]
    exact RCs_append h (RCs_flatten h n)
theorem made_flatten {z : Array Value} (hz : 0 < z.size) : ∀ n, (madeCells z (n * z.size)).toList = (List.replicate n z.toList).flatten := by
  intro n
  apply List.ext_getElem?
  intro j
  have hlen : ∀ n, (List.replicate n z.toList).flatten.length = n * z.size := fun n => by simp
  by_cases hj : j < n * z.size
  · simp only [madeCells, Array.toList_map, Array.toList_range, List.getElem?_map, List.getElem?_range hj, Option.map_some]
    induction n generalizing j with
    | zero => simp at hj
    | succ n ih =>
      rw [List.replicate_succ, List.flatten_cons]
      by_cases h1 : j < z.size
      · rw [List.getElem?_append_left (by simpa using h1), Nat.mod_eq_of_lt h1]
        simp [h1]
      · rw [List.getElem?_append_right (by simp; omega)]
        simp only [Array.length_toList]
        rw [← ih (j - z.size) (by rw [Nat.succ_mul] at hj; omega)]
        rw [Nat.mod_eq_sub_mod (by omega)]
  · rw [List.getElem?_eq_none (by simp [madeCells]; omega), List.getElem?_eq_none (by rw [hlen]; omega)]
/-- Elements one behind the other. -/
theorem unflatN_ok (hI : Inv P M wE C st.loc) (hs : Sees T L st) {t : Ty} {idl : List Nat} : ∀ {n : Nat} {cs : List CV} {xs : List t.den} {r : List CV}, unflatN L t n cs = some (xs, r) → ∀ {vs : List Value}, RCs P C st.loc cs vs → (∀ b ∈ idsOf cs, b ∈ idl) →
    xs.length = n ∧ n * t.sz ≤ vs.length ∧ ∀ i x, xs[i]? = some x → Rd (RdS C st.loc idl) C.w t x ((vs.drop (i * t.sz)).take t.sz)
  | 0, cs, xs, r, h, vs, hv, hi => by
    simp only [unflatN] at h
    injection h with h
    injection h with h1 h2
    subst h1
    exact ⟨rfl, by omega, fun i x hx => by simp at hx⟩
  | n + 1, cs, xs, r, h, vs, hv, hi => by
    simp only [unflatN] at h
    split at h
    · rename_i x0 r0 h0
      split at h
      · rename_i xs0 r1 h1
        injection h with h
        injection h with e1 e2
        subst e1; subst e2
        obtain ⟨d0, c0, c1, rfl, rfl, k0, k1, hr0⟩ := unflat_ok hI hs h0 hv hi
        obtain ⟨q1, q2, q3⟩ := unflatN_ok hI hs h1 hr0 (fun b hb => hi b (by rw [idsOf_append]; exact List.mem_append.2 (.inr hb)))
        have hl := k0.len
        refine ⟨by simp [q1], by rw [Nat.succ_mul, List.length_append]; omega, fun i x hx => ?_⟩
        cases i with
        | zero =>
          simp only [List.getElem?_cons_zero, Option.some.injEq] at hx
          subst hx
          rw [Nat.zero_mul, List.drop_zero, ← hl, List.take_left]
          exact k0
        | succ i =>
          have := q3 i x (by simpa using hx)
          rw [show (i + 1) * t.sz = c0.length + i * t.sz by rw [Nat.succ_mul, hl]; omega, ← List.drop_drop, List.drop_left]
          exact this
      · cases h
    · cases h
theorem ownN_ok (hI : Inv P M wE C st.loc) (hs : Sees T L st) {t : Ty} : ∀ {n : Nat} {cs : List CV} {xs : List t.den} {r r' : List CV} {ids : List Nat}, unflatN L t n cs = some (xs, r) → ownIdsN L t n cs = some (ids, r') → ids.Nodup → ∀ {vs : List Value}, RCs P C st.loc cs vs →
    ∃ f : Nat → Nat → Prop, (∀ i k, f i k → ofIds C st.loc ids k) ∧ (∀ i j k, f i k → f j k → i = j) ∧ ∀ i x, xs[i]? = some x → ∀ w', (∀ k, ofIds C st.loc ids k → w'.heap[k]? = C.w.heap[k]?) → Own w' t x ((vs.drop (i * t.sz)).take t.sz) (f i)
  | 0, cs, xs, r, r', ids, h, h', hnd, vs, hv => by
    simp only [unflatN] at h
    injection h with h
    injection h with h1 h2
    subst h1
    exact ⟨fun _ _ => False, fun _ _ h => h.elim, fun _ _ _ h => h.elim, fun i x hx => by simp at hx⟩
  | n + 1, cs, xs, r, r', ids, h, h', hnd, vs, hv => by
    simp only [unflatN] at h
    split at h
    · rename_i x0 r0 h0
      split at h
      · rename_i xs0 r1 h1
        injection h with h
        injection h with e1 e2
        subst e1; subst e2
        simp only [ownIdsN] at h'
        split at h'
        · rename_i i0 s0 k0
          split at h'
          · rename_i i1 s1 k1
            injection h' with h'
            injection h' with e1 e2
            subst e1; subst e2
            have hnp := List.nodup_append.1 hnd
            obtain ⟨rfl, d0, c0, c1, rfl, rfl, m0, m1, m2⟩ := own_cells hI hs h0 k0 hnp.1 hv
            obtain ⟨f, f1, f2, f3⟩ := ownN_ok hI hs h1 k1 hnp.2.1 m1
            have hl : c0.length = t.sz := (m2 C.w (fun _ _ => rfl)).len
            refine ⟨fun i => match i with | 0 => ofIds C st.loc i0 | i + 1 => f i, fun i k hk => ?_, fun i j k hi hj => ?_, fun i x hx w' hw => ?_⟩
            · cases i with
              | zero =>
                obtain ⟨b, hb, hk⟩ := hk
                exact ⟨b, List.mem_append.2 (.inl hb), hk⟩
              | succ i =>
                obtain ⟨b, hb, hk⟩ := f1 i k hk
                exact ⟨b, List.mem_append.2 (.inr hb), hk⟩
            · have hx : ∀ i, ofIds C st.loc i0 k → f i k → False := fun i h h' => by
                obtain ⟨b, hb, ⟨lb, r1, r2⟩, hk⟩ := h
                obtain ⟨b', hb', ⟨lb', r1', r2'⟩, hk'⟩ := f1 i k h'
                exact hI.disj b b' lb lb' (hnp.2.2 b hb b' hb') r1 r1' r2 r2' k hk hk'
              cases i with
              | zero =>
                cases j with
                | zero => rfl
                | succ j => exact (hx j hi hj).elim
              | succ i =>
                cases j with
                | zero => exact (hx i hj hi).elim
                | succ j => exact congrArg (· + 1) (f2 i j k hi hj)
            · cases i with
              | zero =>
                simp only [List.getElem?_cons_zero, Option.some.injEq] at hx
                subst hx
                rw [Nat.zero_mul, List.drop_zero, ← hl, List.take_left]
                exact m2 w' (fun k ⟨b, hb, hk⟩ => hw k ⟨b, List.mem_append.2 (.inl hb), hk⟩)
              | succ i =>
                rw [show (i + 1) * t.sz = c0.length + i * t.sz by rw [Nat.succ_mul, hl]; omega, ← List.drop_drop, List.drop_left]
                exact f3 i x (by simpa using hx) w' (fun k ⟨b, hb, hk⟩ => hw k ⟨b, List.mem_append.2 (.inr hb), hk⟩)
          · cases h'
        · cases h'
      · cases h
    · cases h
theorem flat_idsN (hs : Sees T L st) {t : Ty} (hf : t.flatB = true) : ∀ {n : Nat} {cs : List CV} {xs : List t.den} {r : List CV}, unflatN L t n cs = some (xs, r) → ∃ d0, cs = d0 ++ r ∧ idsOf d0 = []
  | 0, cs, xs, r, h => by
    simp only [unflatN] at h
    injection h with h
    injection h with h1 h2
    subst h2
    exact ⟨[], rfl, rfl⟩
  | n + 1, cs, xs, r, h => by
    simp only [unflatN] at h
    split at h
    · rename_i x0 r0 h0
      split at h
      · rename_i xs0 r1 h1
        injection h with h
        injection h with e1 e2
        subst e2
        obtain ⟨d0, rfl, k0⟩ := flat_ids hs hf h0
        obtain ⟨d1, rfl, k1⟩ := flat_idsN hs hf h1
        exact ⟨d0 ++ d1, by rw [List.append_assoc], by rw [idsOf_append, k0, k1]; rfl⟩
      · cases h
    · cases h
set_option maxHeartbeats 1000000 in
theorem evLit_ok {R : Type} {K : Eff → Option R} {r : R} (hR : Rel P M wE C st a) (hs : Sees T L st) {E len d : Nat} {parts : Array (Nat × Operand)} (hop : o.op = .buildSlice E len parts) (hnb : lget st.loc (64 * d) = none) (h : evLit P T L d E len parts.toList K = some r) :
    ∃ eff, K eff = some r ∧ Does P M wE C st a o eff := by
  unfold evLit at h
  split at h
  · rename_i e t bytes hi
    obtain ⟨hu, i, z, hie, hzv, hz, hsz, rfl, hb0, hzs⟩ := rowInfo_ok hi
    have hp := sz_pos t
    split at h
    · rename_i zc ps hzc hps
      split at h
      · rename_i hbig
        split at h
        · rename_i cs hcs
          split at h
          · rename_i xs hxs
            obtain ⟨z', hz', hzr⟩ := zeroC_ok hzc
            rw [hzv] at hz'
            injection hz' with hz'
            subst hz'
            obtain ⟨cur, hfill, hcur⟩ := litC_ok hR hs (sz := t.sz) hps hcs (RCs_flatten (hzr C st.loc) len)
            have hfl2 : (madeCells z.cells (len * t.sz)) = ((List.replicate len z.cells.toList).flatten).toArray := by
              apply Array.ext'
              rw [← hzs, made_flatten (by omega)]
            have hlen := unflatN_ok hR.inv hs (idl := idsOf cs) hxs hcur (fun b hb => hb)
            obtain ⟨hxl, hcl, hrd⟩ := hlen
            have hcurl : cur.length = len * t.sz := by
              have : ∀ {n : Nat} {cs : List CV} {xs : List t.den} {r : List CV}, unflatN L t n cs = some (xs, r) → cs.length = n * t.sz + r.length := by
                intro n
                induction n with
                | zero =>
                  intro cs xs r h
                  simp only [unflatN] at h
                  injection h with h
                  injection h with h1 h2
                  subst h2
                  omega
                | succ n ih =>
                  intro cs xs r h
                  simp only [unflatN] at h
                  split at h
                  · rename_i x0 r0 h0
                    split at h
                    · rename_i xs0 r1 h1
                      injection h with h
                      injection h with e1 e2
                      subst e2
                      obtain ⟨d0, e0, l0, _⟩ := unflat_flat h0
                      rw [e0, List.length_append, l0, ih h1, Nat.succ_mul]
                      omega
                    · cases h
                  · cases h
              have := this hxs
              rw [← hcur.1, this]
              simp
            have hrun : (execOp a.eval o).run P C.w = .ok (.value (.slice (some ⟨C.w.heap.size, 0, none⟩) xs.length len)) (C.w.alloc (.cells cur.toArray e)) := by
              rw [hxl]
              unfold execOp
              simp only [hop]
              by_cases h0 : len = 0
              · subst h0
                have hc0 : cur = [] := List.length_eq_zero_iff.1 (by rw [hcurl]; simp)
                subst hc0
                have hcsn : parts.toList = [] := by
                  cases hpl : parts.toList with
                  | nil => rfl
                  | cons x l =>
                    exfalso
                    rw [hpl] at hps
                    obtain ⟨i0, x0⟩ := x
                    simp only [evParts] at hps
                    split at hps
                    · split at hps
                      · split at hps
                        · injection hps with hps
                          subst hps
                          simp only [litC] at hcs
                          split at hcs
                          · rename_i hcc
                            have := hcc.2.1
                            simp at this
                            omega
                          · cases hcs
                        · cases hps
                      · cases hps
                    · cases hps
                have hpa : parts = #[] := by rw [← Array.toArray_toList (xs := parts), hcsn]
                simp [hpa, Instr.buildSlice, run_underlying hu, sizeOf, typeInfo, hie, Instr.fill, newRow]
                rw [show Array.range 0 = #[] from Array.eq_empty_of_size_eq_zero Array.size_range]
                rw [Array.map_empty]
              · have := Go.run_buildSlice (P := P) C.w E e len (parts.map fun (i, x) => (i, a.eval x)) cur.toArray i z hu hie hz (by rw [hsz]; omega) (by rw [hsz]; have : 0 < len * t.sz := Nat.mul_pos (by omega) hp; omega) (by
                  rw [hsz]
                  have h1 : (Array.range (len * t.sz)).map (z.cells[· % z.cells.size]!) = madeCells z.cells (len * t.sz) := rfl
                  rw [h1, hfl2, Array.toList_map]
                  exact hfill)
                rw [Sem.run_bind, this]
                rfl
            have hblk : blk (C.w.alloc (.cells cur.toArray e)) C.w.heap.size cur e := heap_alloc_new C.w _
            have hlm : len ≤ maxLen := by
              have : len ≤ len * t.sz := Nat.le_mul_of_pos_right _ hp
              simp only [maxLen]
              omega
            have hlx : xs.length ≤ len := by omega
            have hcap : 0 + len * t.sz ≤ cur.length := by rw [hcurl]; omega
            split at h
            · rename_i hfl
              refine ⟨_, h, ?_⟩
              obtain ⟨d0, e0, i0⟩ := flat_idsN hs hfl hxs
              rw [List.append_nil] at e0
              have := Does.rowK (o := o) (nb := 64 * d) (e := e) (t := t) (d := true) (xs := xs) hR hnb (ids := []) (v := .slice (some ⟨C.w.heap.size, 0, none⟩) xs.length len) (w' := C.w.alloc (.cells cur.toArray e)) (by simp) rfl rfl rfl (fun k hk _ => heap_alloc_old _ _ hk) (φ' := fun k => k = C.w.heap.size) (fun k hk => by subst hk; exact ⟨by simp, .inl (Nat.le_refl _)⟩) (by
                rw [if_pos rfl]
                refine .inr ⟨_, 0, len, cur, fun _ _ => False, rfl, hblk, hlx, hlm, hcap, rfl, fun _ _ h => h.elim, fun _ _ _ h => h.elim, fun j x hj => ?_⟩
                rw [Nat.zero_add]
                exact Rd.own hfl (hrd j x hj)) ⟨_, _, _, rfl⟩ hrun
              simpa [kills] using this
            · split at h
              · rename_i ids hids
                split at h
                · rename_i hnd
                  refine ⟨_, h, ?_⟩
                  obtain ⟨f, f1, f2, f3⟩ := ownN_ok hR.inv hs hxs hids hnd hcur
                  have hlt : ∀ k, ofIds C st.loc ids k → k < C.w.heap.size := fun k ⟨b, _, ⟨lb, r1, r2⟩, hk⟩ => (hR.inv.own b lb r1 r2 k hk).1
                  refine Does.rowK hR hnb (v := .slice (some ⟨C.w.heap.size, 0, none⟩) xs.length len) (w' := C.w.alloc (.cells cur.toArray e)) (by simp) rfl rfl rfl (fun k hk _ => heap_alloc_old _ _ hk) (φ' := fun k => k = C.w.heap.size ∨ ofIds C st.loc ids k) (fun k hk => ?_) ?_ ⟨_, _, _, rfl⟩ hrun
                  · rcases hk with rfl | hk
                    · exact ⟨by simp, .inl (Nat.le_refl _)⟩
                    · exact ⟨by have := hlt k hk; simp; omega, .inr hk⟩
                  · rw [if_pos rfl]
                    refine .inr ⟨_, 0, len, cur, f, rfl, hblk, hlx, hlm, hcap, .inl rfl, fun i k hk => ⟨.inr (f1 i k hk), by have := hlt k (f1 i k hk); omega⟩, f2, fun j x hj => ?_⟩
                    rw [Nat.zero_add]
                    exact f3 j x hj _ (fun k hk => heap_alloc_old _ _ (hlt k hk))
                · cases h
              · split at h
                · rename_i hst
                  refine ⟨_, h, ?_⟩
                  have hrd' := (unflatN_ok hR.inv hs (idl := []) hxs hcur (by rw [still_ids hst]; simp)).2.2
                  have := Does.rowK (o := o) (nb := 64 * d) (e := e) (t := t) (d := false) (xs := xs) hR hnb (ids := []) (v := .slice (some ⟨C.w.heap.size, 0, none⟩) xs.length len) (w' := C.w.alloc (.cells cur.toArray e)) (by simp) rfl rfl rfl (fun k hk _ => heap_alloc_old _ _ hk) (φ' := fun k => k = C.w.heap.size) (fun k hk => by subst hk; exact ⟨by simp, .inl (Nat.le_refl _)⟩) (by
                    rw [if_neg (by simp)]
                    refine .inr ⟨_, 0, len, cur, rfl, hblk, hlx, hlm, hcap, rfl, fun j x hj => ?_⟩
                    rw [Nat.zero_add]
                    exact Rd.mono (fun k hk => RdS_nil hk) (fun k hk => heap_alloc_old _ _ (hR.inv.S_lt k (RdS_nil hk))) (hrd' j x hj)) ⟨_, _, _, rfl⟩ hrun
                  simpa [kills] using this
                · cases h
          · cases h
        · cases h
      · cases h
    · cases h
  · cases h
end
end Go.Proofs.Ytceffcfnjjlbkaa.E
