/- A typed evaluator for loaded code, 3: a function's results; its run from arguments to results. -/
import Derived.Test.YtceffcfnjjlbkaaV1
namespace Go.Proofs.Ytceffcfnjjlbkaa.V
open Go.RowKit Go.Proofs.YtceffcfnjjlbkaaW.PrintWords Go.Proofs.YtceffcfnjjlbkaaW.PrintLast Go.Proofs.YtceffcfnjjlbkaaW.PrintMore
set_option linter.unusedVariables false
set_option linter.unusedSimpArgs false
/-- The local rows that these cells hand over; none if something else is shared. -/
def owned : List CV → Option (List Nat)
  | [] => some []
  | .int _ _ :: l | .bool _ :: l | .str _ :: l | .nil :: l => owned l
  | .own b :: l => (owned l).map (b :: ·)
  | _ :: _ => none
def resCells (P : Program) (st : St) : ResultVar → PK → Option (List CV)
  | .tmp t, p =>
    match st.tm[t]? with
    | some v => tvCells p.1 v
    | none => none
  | .cell a ty, p =>
    match st.tm[a]? with
    | some (.c (.ptr b 0)) =>
      match st.loc[b]? with
      | some (.cells _ cs) => if p.1 = true ∧ aggT P ty = some true ∧ P.cellsOf ty = cs.length then some cs else none
      | _ => none
    | _ => none
def resAll (P : Program) (st : St) : List ResultVar → List PK → Option (List (List CV))
  | [], [] => some []
  | r :: l, p :: ps =>
    match resCells P st r p with
    | some cs =>
      match resAll P st l ps with
      | some x => some (cs :: x)
      | none => none
    | none => none
  | _, _ => none
def unRes (loc : List LB) : (rs : List PK) → List (List CV) → Option (dens rs)
  | [], [] => some ()
  | p :: rs, cs :: l =>
    match unflat loc p.2 cs with
    | some (x, []) =>
      match unRes loc rs l with
      | some y => some (x, y)
      | none => none
    | _ => none
  | _, _ => none
def fin (P : Program) (fn : Func) (rs : List PK) (st : St) : Option (dens rs) :=
  match resAll P st fn.results.toList rs with
  | some css =>
    match owned css.flatten with
    | some ids => if ids.Nodup then unRes st.loc rs css else none
    | none => none
  | none => none
def argTV : PK → List CV → TV
  | (true, _), cs => .agg cs
  | (false, _), [v] => .c v
  | (false, _), _ => .c .un
def argTVs : (ps : List PK) → dens ps → List TV
  | [], _ => []
  | p :: ps, x => argTV p (flat p.2 x.1) :: argTVs ps x.2
def start (fn : Func) (ps : List PK) (xs : dens ps) : St := { tm := argTVs ps xs ++ List.replicate (fn.ntmps - ps.length) (.c .un), loc := [] }
def bodyOf (fn : Func) : Code := fn.body.getD .skip
/-- The whole function. -/
def whole (P : Program) (Γ : Nat → Option Sig) (fn : Func) (cut : Nat → Bool) (keep : Nat → List Nat) (ps rs : List PK) (j : Nat) (xs : dens ps) : Option (dens rs) :=
  run P Γ (fin P fn rs) cut keep j [.code (bodyOf fn)] (start fn ps xs)
end Go.Proofs.Ytceffcfnjjlbkaa.V
