/- A typed evaluator for loaded code, 4: an operation that is carried out does what the evaluator says. -/
import Derived.Test.YtceffcfnjjlbkaaV2
import Derived.Deep.MidRow
import Derived.WalkKit
import Derived.Laws.StructEq
namespace Go.Proofs.Ytceffcfnjjlbkaa.V
open Go.RowKit Go.Proofs.YtceffcfnjjlbkaaW.PrintWords Go.Proofs.YtceffcfnjjlbkaaW.PrintLast Go.Proofs.YtceffcfnjjlbkaaW.PrintMore
set_option linter.unusedVariables false
set_option linter.unusedSimpArgs false

section
variable {P : Program} {B : Nat} {wE : World} {C : Cx} {st : St} {a : Act}

theorem put_size (a : Act) (d : Option Tmp) (v : Value) : (a.put d v).tmps.size = a.tmps.size := by
  cases d <;> simp [Act.put]
theorem put_defers (a : Act) (d : Option Tmp) (v : Value) : (a.put d v).defers = a.defers := by
  cases d <;> rfl
theorem stput_len (st : St) (d : Option Nat) (v : TV) : (st.put d v).tm.length = st.tm.length := by
  cases d <;> simp [St.put]
theorem stput_loc (st : St) (d : Option Nat) (v : TV) : (st.put d v).loc = st.loc := by
  cases d <;> rfl
theorem put_at {a : Act} {d i : Nat} {v : Value} (hi : i < a.tmps.size) : (a.put (some d) v).tmps.getD i undef = if d = i then v else a.tmps.getD i undef := by
  simp only [Act.put]
  by_cases h : d = i
  · subst h
    simp [hi]
  · simp [h, Array.getElem?_setIfInBounds_ne h]
/-- The slots, behind a world that has gone on. -/
theorem tm_ext {C' : Cx} (hE : Ext C C') (h : ∀ i tv, st.tm[i]? = some tv → RV C tv (a.tmps.getD i undef)) : ∀ i tv, st.tm[i]? = some tv → RV C' tv (a.tmps.getD i undef) :=
  fun i tv hi => RV_ext hE (h i tv hi)
theorem tm_put (hsz : a.tmps.size = st.tm.length) (h : ∀ i tv, st.tm[i]? = some tv → RV C tv (a.tmps.getD i undef)) {d : Option Nat} {tv : TV} {v : Value} (hv : RV C tv v) :
    ∀ i u, (st.put d tv).tm[i]? = some u → RV C u ((a.put d v).tmps.getD i undef) := by
  intro i u hi
  cases d with
  | none => exact h i u hi
  | some d =>
    have hlt : i < a.tmps.size := by
      have := (List.getElem?_eq_some_iff.1 hi).1
      simp [St.put] at this
      omega
    rw [put_at hlt]
    by_cases hd : d = i
    · subst hd
      rw [if_pos rfl]
      simp only [St.put] at hi
      rw [List.getElem?_set_self (by omega)] at hi
      injection hi with hi
      exact hi ▸ hv
    · rw [if_neg hd]
      simp only [St.put] at hi
      rw [List.getElem?_set_ne hd] at hi
      exact h i u hi
theorem Rel.put (hR : Rel B wE C st a) {d : Option Nat} {tv : TV} {v : Value} (hv : RV C tv v) : Rel B wE C (st.put d tv) (a.put d v) :=
  ⟨by rw [stput_loc]; exact hR.inv, by rw [put_size, stput_len]; exact hR.sz, tm_put hR.sz hR.tm hv, by rw [put_defers]; exact hR.df⟩
theorem Rel.un (hR : Rel B wE C st a) (d : Option Nat) (v : Value) : Rel B wE C (st.put d (.c .un)) (a.put d v) := hR.put (v := v) trivial

/-! ### operands -/
theorem cvOf_ok {v : Value} {c : CV} (h : cvOf v = some c) : RC C c v := by
  unfold cvOf at h
  split at h <;> first | (injection h with h; subst h; rfl) | cases h
theorem evO_ok (hR : Rel B wE C st a) {x : Operand} {tv : TV} (h : evO st x = some tv) : RV C tv (a.eval x) := by
  cases x with
  | tmp t => exact hR.tm t tv h
  | const v =>
    simp only [evO] at h
    obtain ⟨c, hc, rfl⟩ := Option.map_eq_some_iff.1 h
    exact cvOf_ok hc
  | global g => simp [evO] at h
  | func f =>
    simp only [evO] at h
    injection h with h
    subst h
    rfl
theorem evOs_ok (hR : Rel B wE C st a) : ∀ {l : List Operand} {vs : List TV}, evOs st l = some vs → vs.length = l.length ∧ ∀ (j : Nat) (tv : TV) (x : Operand), vs[j]? = some tv → l[j]? = some x → RV C tv (a.eval x)
  | [], vs, h => by
    simp only [evOs] at h
    injection h with h
    subst h
    exact ⟨rfl, fun j tv x hj => by simp at hj⟩
  | x :: l, vs, h => by
    simp only [evOs] at h
    split at h
    · rename_i v hv
      split at h
      · rename_i r hr
        injection h with h
        subst h
        obtain ⟨h1, h2⟩ := evOs_ok hR hr
        refine ⟨by simp [h1], fun j tv y hj hy => ?_⟩
        cases j with
        | zero =>
          simp at hj hy
          subst hj; subst hy
          exact evO_ok hR hv
        | succ j => exact h2 j tv y (by simpa using hj) (by simpa using hy)
      · cases h
    · cases h

theorem wp_val {o : Oper} {w w' : World} {v : Value} {next : Act → World → Prop} {Q : Exit → Act → World → Prop} (hrun : (execOp a.eval o).run P w = .ok (.value v) w') (h : next (a.put o.dst v) w') : o.wp P a w next Q := by
  unfold Oper.wp
  rw [hrun]
  exact h
theorem wp_unit {o : Oper} {w w' : World} {next : Act → World → Prop} {Q : Exit → Act → World → Prop} (hrun : (execOp a.eval o).run P w = .ok .skip w') (h : next (a.put o.dst undef) w') : o.wp P a w next Q := by
  unfold Oper.wp
  rw [hrun]
  exact h

/-! ### numbers and truth values -/
theorem guard_int (op : BinOp) (t : TypeId) (x y : Operand) (k k' : IntKind) (m n : Int) (w : World) : (eqGuard op t x y (.int k m) (.int k' n)).run P w = .ok () w := by
  unfold eqGuard
  cases op <;> simp [Sem.run_bind, Sem.run_pure]
theorem guard_bool (op : BinOp) (t : TypeId) (x y : Operand) (m n : Bool) (w : World) : (eqGuard op t x y (.bool m) (.bool n)).run P w = .ok () w := by
  unfold eqGuard
  cases op <;> simp [Sem.run_bind, Sem.run_pure]
theorem evInt_run {op : BinOp} {k : IntKind} {x y : Int} {c : CV} (h : evInt op k x y = some c) (t : TypeId) (w : World) : ∃ v, RC C c v ∧ (binOp op t (.int k x) (.int k y)).run P w = .ok v w := by
  cases op <;> simp only [evInt] at h <;> first | contradiction | cases h | skip
  all_goals first | (exact ⟨_, rfl, by simp [binOp, Op.intArith, Op.intBits, Op.intCmp, Sem.run_pure, Go.bits]⟩)
theorem isBoolT_ok {T : Nat} (h : isBoolT P T = true) : P.underlying T = some .bool := by
  unfold isBoolT at h
  split at h
  · assumption
  · cases h
theorem isStrT_ok {T : Nat} (h : isStrT P T = true) : P.underlying T = some .string := by
  unfold isStrT at h
  split at h
  · assumption
  · cases h
theorem guard_str (op : BinOp) (t : TypeId) (x y : Operand) (m n : ByteArray) (w : World) : (eqGuard op t x y (.string m) (.string n)).run P w = .ok () w := by
  unfold eqGuard
  cases op <;> simp [Sem.run_bind, Sem.run_pure]
theorem evBin_run {op : BinOp} {x y c : CV} {t : TypeId} (h : evBin P t op x y = some c) (X Y : Operand) {u v : Value} (hx : RC C x u) (hy : RC C y v) (w : World) :
    ∃ z, RC C c z ∧ (do eqGuard op t X Y u v; binOp op t u v : Sem Value).run P w = .ok z w := by
  unfold evBin at h
  split at h
  · rename_i k a k' b
    split at h
    · rename_i hk
      subst hk
      obtain rfl : u = .int k a := hx
      obtain rfl : v = .int k b := hy
      obtain ⟨z, hz, hrun⟩ := evInt_run (C := C) (P := P) h t w
      exact ⟨z, hz, by rw [Sem.run_bind, guard_int]; exact hrun⟩
    · cases h
  · rename_i a b
    split at h
    · rename_i hb
      injection h with h
      subst h
      obtain rfl : u = .bool a := hx
      obtain rfl : v = .bool b := hy
      exact ⟨_, rfl, by rw [Sem.run_bind, guard_bool]; simp [binOp, Op.equal, Op.maxDepth, Sem.run_bind, Sem.run_pure, run_equalIn_bool' w 9999 t a b (isBoolT_ok hb)]⟩
    · cases h
  · rename_i a b
    split at h
    · rename_i hb
      injection h with h
      subst h
      obtain rfl : u = .bool a := hx
      obtain rfl : v = .bool b := hy
      exact ⟨_, rfl, by rw [Sem.run_bind, guard_bool]; simp [binOp, Op.equal, Op.maxDepth, Sem.run_bind, Sem.run_pure, run_equalIn_bool' w 9999 t a b (isBoolT_ok hb)]⟩
    · cases h
  · rename_i a b
    split at h
    · rename_i hb
      injection h with h
      subst h
      obtain rfl : u = .string a := hx
      obtain rfl : v = .string b := hy
      exact ⟨_, rfl, by rw [Sem.run_bind, guard_str]; simp [binOp, Op.stringOp, Sem.run_bind, Sem.run_pure]⟩
    · cases h
  · rename_i a b
    split at h
    · rename_i hb
      injection h with h
      subst h
      obtain rfl : u = .string a := hx
      obtain rfl : v = .string b := hy
      exact ⟨_, rfl, by rw [Sem.run_bind, guard_str]; simp [binOp, Op.stringOp, Sem.run_bind, Sem.run_pure]⟩
    · cases h
  · cases h
theorem evUn_run {op : UnOp} {x c : CV} (h : evUn op x = some c) {u : Value} (hx : RC C x u) (w : World) : ∃ z, RC C c z ∧ (Op.unary op u).run P w = .ok z w := by
  unfold evUn at h
  split at h
  · rename_i k n
    injection h with h
    subst h
    obtain rfl : u = .int k n := hx
    exact ⟨_, rfl, by simp [Op.unary, Op.intArith, Sem.run_pure]⟩
  · rename_i b
    injection h with h
    subst h
    obtain rfl : u = .bool b := hx
    exact ⟨_, rfl, by simp [Op.unary, Sem.run_pure]⟩
  · cases h
end
end Go.Proofs.Ytceffcfnjjlbkaa.V
