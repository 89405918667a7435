/- The evaluator, 20: a region's operations, one behind the other, or in whatever order they come. -/
import Derived.Test.YtceffcfnjjlbkaaE19
import Derived.Orders
namespace Go.Proofs.Ytceffcfnjjlbkaa.E
open Go.RowKit
set_option linter.unusedVariables false
set_option linter.unusedSimpArgs false
def memB (n : Nat) : List Nat → Bool
  | [] => false
  | m :: l => bif Nat.beq n m then true else memB n l
theorem memB_iff {n : Nat} : ∀ {l : List Nat}, memB n l = true ↔ n ∈ l
  | [] => by simp [memB]
  | m :: l => by
    simp only [memB, List.mem_cons]
    cases h : Nat.beq n m with
    | true => simp [Nat.eq_of_beq_eq_true h]
    | false =>
      have hne : n ≠ m := fun he => by rw [he, Nat.beq_refl] at h; cases h
      simp [hne, memB_iff (l := l)]
/-- No name of the block of names 'nid' is in use. -/
def freshB (nid : Nat) : Loc → Bool
  | [] => true
  | x :: l => bif Nat.beq (x.1 / 64) nid then false else freshB nid l
theorem freshB_ok {nid : Nat} : ∀ {loc : Loc}, freshB nid loc = true → ∀ j, j < 64 → lget loc (64 * nid + j) = none
  | [], _, j, hj => rfl
  | x :: l, h, j, hj => by
    simp only [freshB] at h
    cases hb : Nat.beq (x.1 / 64) nid with
    | true => rw [hb] at h; cases h
    | false =>
      rw [hb] at h
      simp only [lget]
      rw [show Nat.beq x.1 (64 * nid + j) = false by
        cases hx : Nat.beq x.1 (64 * nid + j) with
        | false => rfl
        | true =>
          have := Nat.eq_of_beq_eq_true hx
          rw [this, show (64 * nid + j) / 64 = nid by omega, Nat.beq_refl] at hb
          cases hb]
      exact freshB_ok (by simpa using h) j hj
def St.know (st : St) (d : Nat) (b : Bool) : St := { st with tm := st.tm.set d (.c (.bool b)) }
def nidOf (rid i : Nat) (o : Oper) : Nat :=
  match o.dst with
  | some d => d
  | none => 100000 + 256 * rid + i
/-- A slice's length, where it can be told from its data. -/
def lenOf (L : Nat → Option LB) : CV → Option Nat
  | .bor _ _ xs => some xs.length
  | .own b =>
    match L b with
    | some (.row _ _ _ _ xs) => some xs.length
    | some (.sett _ _ xs) => some xs.length
    | _ => none
  | _ => none
def isNilC : CV → Bool
  | .nil => true
  | _ => false
/-- Is a slice nil? What the operation says if so; its length; is it surely nil? -/
def nilTest (P : Program) (L : Nat → Option LB) (T : Nat → Option TV) (o : Oper) : Option (Bool × Nat × Bool) :=
  match o.op with
  | .binOp op E x y _ =>
    match evO T x, evO T y with
    | some (.c c), some (.c .nil) =>
      if isSliceT P E = true then
        match op with
        | .eql => if isNilC c = true then some (true, 0, true) else (match lenOf L c with | some n => some (true, n, false) | none => none)
        | .neq => if isNilC c = true then some (false, 0, true) else (match lenOf L c with | some n => some (false, n, false) | none => none)
        | _ => none
      else none
    | _, _ => none
  | _ => none
open Classical in
/-- An empty slice may be nil or not: then both ways have to come to the same. -/
noncomputable def both {R : Type} (a b : Option R) : Option R := if a = b then a else none
theorem both_some {R : Type} {a b : Option R} {r : R} (h : both a b = some r) : a = some r ∧ b = some r := by
  unfold both at h
  split at h
  · rename_i he
    exact ⟨h, he ▸ h⟩
  · cases h
theorem both_self {R : Type} (a : Option R) : both a a = a := by simp [both]
noncomputable def evOne {R : Type} (P : Program) (Γ : Nat → Option Sig) (T : Nat → Option TV) (L : Nat → Option LB) (nid : Nat) (o : Oper) (K : Eff → Option R) : Option R :=
  match nilTest P L T o with
  | some (pos, n, sure) =>
    if sure = true then K ⟨.c (.bool pos), []⟩
    else if n = 0 then both (K ⟨.c (.bool pos), []⟩) (K ⟨.c (.bool (!pos)), []⟩)
    else K ⟨.c (.bool (!pos)), []⟩
  | none => evEff P Γ T L nid o K
section
variable {R : Type} (P : Program) (Γ : Nat → Option Sig)
/-- In the text's order. -/
noncomputable def evOps (rid : Nat) (ops : Array Oper) : List Nat → St → (St → Option R) → Option R
  | [], st, K => K st
  | i :: l, st, K =>
    match ops[i]? with
    | some o =>
      match o.guard with
      | none => if freshB (nidOf rid i o) st.loc = true then evOne P Γ (tget st.tm) (lget st.loc) (nidOf rid i o) o (fun e => evOps rid ops l (st.apply o.dst e) K) else none
      | some (j, want) =>
        match (ops[j]?).bind (·.dst) with
        | some d =>
          match tget st.tm d with
          | some (.c (.bool b)) =>
            if b = true then
              if want = true then (if freshB (nidOf rid i o) st.loc = true then evOne P Γ (tget (st.know d true).tm) (lget st.loc) (nidOf rid i o) o (fun e => evOps rid ops l ((st.know d true).apply o.dst e) K) else none)
              else evOps rid ops l ((st.know d true).put o.dst (.c .un)) K
            else
              if want = true then evOps rid ops l ((st.know d false).put o.dst (.c .un)) K
              else (if freshB (nidOf rid i o) st.loc = true then evOne P Γ (tget (st.know d false).tm) (lget st.loc) (nidOf rid i o) o (fun e => evOps rid ops l ((st.know d false).apply o.dst e) K) else none)
          | _ => none
        | none => none
    | none => none

/-! ### in whatever order -/
structure Done where
  i : Nat
  dst : Option Nat
  eff : Eff
  tmps : List Nat
  foot : List Nat
  nid : Nat
  anc : List Nat
def refsC : CV → List Nat
  | .own b => [b]
  | .sub b _ _ _ => [b]
  | .inn b _ _ _ _ _ => [b]
  | .ptr b _ => [b]
  | .eptr b _ _ _ => [b]
  | .aptr b _ _ => [b]
  | .mp b => [b]
  | .clo _ caps => caps
  | _ => []
def refsCs : List CV → List Nat
  | [] => []
  | c :: cs => refsC c ++ refsCs cs
def refsR : List (Bool × List CV) → List Nat
  | [] => []
  | x :: l => refsCs x.2 ++ refsR l
def refsT : TV → List Nat
  | .c x => refsC x
  | .agg cs => refsCs cs
  | .arr _ _ _ => []
  | .tup vs => refsR vs
def refsL : LB → List Nat
  | .cells _ cs => refsCs cs
  | _ => []
def refsTs (T : Nat → Option TV) : List Nat → List Nat
  | [] => []
  | t :: l => (match T t with | some v => refsT v | none => []) ++ refsTs T l
def refsLs (L : Nat → Option LB) : List Nat → List Nat
  | [] => []
  | b :: l => (match L b with | some lb => refsL lb | none => []) ++ refsLs L l
/-- The names that an operation may look at. -/
def footOf (st : St) (ts : List Nat) : List Nat :=
  let a := refsTs (tget st.tm) ts
  let b := refsLs (lget st.loc) a
  a ++ (b ++ refsLs (lget st.loc) b)
def ancOf (acc : List Done) (o : Oper) : List Nat := (o.after.toList.filter (Region.binds .any)).flatMap fun e => e.on :: (match acc.find? (fun y => Nat.beq y.i e.on) with | some y => y.anc | none => [])
def noneOf : List Nat → (Nat → Bool) → Bool
  | [], _ => true
  | b :: l, p => bif p b then false else noneOf l p
theorem noneOf_iff {p : Nat → Bool} : ∀ {l : List Nat}, noneOf l p = true ↔ ∀ b ∈ l, p b = false
  | [] => by simp [noneOf]
  | b :: l => by
    simp only [noneOf, List.mem_cons, forall_eq_or_imp]
    cases h : p b with
    | true => simp
    | false => simp [noneOf_iff (l := l)]
def names (u : Loc) : List Nat := u.map (·.1)
/-- What x does is nothing to y, and the other way round. -/
def indepB (x y : Done) : Bool :=
  (match x.dst with | some d => !memB d y.tmps && (match y.dst with | some d' => !Nat.beq d d' | none => true) | none => true) &&
  (match y.dst with | some d => !memB d x.tmps | none => true) &&
  noneOf (names x.eff.upd) (fun b => memB b y.foot || memB b (names y.eff.upd) || Nat.beq (b / 64) y.nid) &&
  noneOf (names y.eff.upd) (fun b => memB b x.foot || Nat.beq (b / 64) x.nid)
def pairsB (x : Done) : List Done → Bool
  | [] => true
  | y :: l => (memB y.i x.anc || indepB x y) && pairsB x l
def restr {α : Type} (l : List Nat) (T : Nat → Option α) (t : Nat) : Option α := bif memB t l then T t else none
def edgesB (i : Nat) (o : Oper) : Bool := o.after.toList.all fun e => !Region.binds .any e || Nat.ble (e.on + 1) i
def mkDone (rid : Nat) (ops : Array Oper) (acc : List Done) (st : St) (i : Nat) (o : Oper) (e : Eff) : Done := ⟨i, o.dst, e, o.looksAt ops, footOf st (o.looksAt ops), nidOf rid i o, ancOf acc o⟩
def evDraw (rid : Nat) (ops : Array Oper) : List Nat → List Done → St → (St → Option R) → Option R
  | [], _, st, K => K st
  | i :: l, acc, st, K =>
    match ops[i]? with
    | some o =>
      if (edgesB i o && freshB (nidOf rid i o) st.loc) = true then
        match o.guard with
        | none => evEff P Γ (restr (o.looksAt ops) (tget st.tm)) (restr (footOf st (o.looksAt ops)) (lget st.loc)) (nidOf rid i o) o
            (fun e => if pairsB (mkDone rid ops acc st i o e) acc = true then evDraw rid ops l (mkDone rid ops acc st i o e :: acc) (st.apply o.dst e) K else none)
        | some (j, want) =>
          match (ops[j]?).bind (·.dst) with
          | some d =>
            match tget st.tm d with
            | some (.c (.bool b)) =>
              if b = want then evEff P Γ (restr (o.looksAt ops) (tget st.tm)) (restr (footOf st (o.looksAt ops)) (lget st.loc)) (nidOf rid i o) o
                (fun e => if pairsB (mkDone rid ops acc st i o e) acc = true then evDraw rid ops l (mkDone rid ops acc st i o e :: acc) (st.apply o.dst e) K else none)
              else if pairsB (mkDone rid ops acc st i o ⟨.c .un, []⟩) acc = true then evDraw rid ops l (mkDone rid ops acc st i o ⟨.c .un, []⟩ :: acc) (st.apply o.dst ⟨.c .un, []⟩) K else none
            | _ => none
          | none => none
      else none
    | none => none
end

/-! ### the evaluator's effect does not hang on what comes behind it -/
section
variable {R : Type} {P : Program} {Γ : Nat → Option Sig} {T : Nat → Option TV} {L : Nat → Option LB} {K : Eff → Option R} {r : R}
theorem evAppend_some {d E : Nat} {s x : TV} (h : evAppend P L d E s x K = some r) : ∃ e, evAppend P L d E s x some = some e ∧ K e = some r := by
  unfold evAppend at h ⊢
  repeat' (split at h)
  all_goals first | (cases h; done) | (simp_all; done)
theorem evLit_some {d E len : Nat} {ps : List (Nat × Operand)} (h : evLit P T L d E len ps K = some r) : ∃ e, evLit P T L d E len ps some = some e ∧ K e = some r := by
  unfold evLit at h ⊢
  repeat' (split at h)
  all_goals first | (cases h; done) | (simp_all; done)
theorem evCopy_some {E : Nat} {s x : TV} (h : evCopy P L E s x K = some r) : ∃ e, evCopy P L E s x some = some e ∧ K e = some r := by
  unfold evCopy at h ⊢
  repeat' (split at h)
  all_goals first | (cases h; done) | (simp_all; done)
theorem evCall_some {d : Nat} {f : CV} {vs : List TV} (h : evCall Γ T L d f vs K = some r) : ∃ e, evCall Γ T L d f vs some = some e ∧ K e = some r := by
  unfold evCall at h ⊢
  repeat' (split at h)
  all_goals first | (cases h; done) | skip
  all_goals
    obtain ⟨q, hq, h⟩ := Option.bind_eq_some_iff.1 h
    simp only [hq, Option.bind_some]
    repeat' (split at h)
    all_goals first | (cases h; done) | (simp_all; done)
end
end Go.Proofs.Ytceffcfnjjlbkaa.E
