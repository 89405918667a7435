/- The evaluator, 24: code, a function from its arguments to its results. -/
import Derived.Test.YtceffcfnjjlbkaaE23
import Derived.Control
namespace Go.Proofs.Ytceffcfnjjlbkaa.E
open Go.RowKit
set_option linter.unusedVariables false
set_option linter.unusedSimpArgs false
/-- The first region's number. -/
def key : Code → Nat
  | .region id _ _ => id
  | .seq a _ => key a
  | .block _ c => key c
  | .loop c => key c
  | _ => 0
def reach (loc : Loc) (resv : List Nat) : Nat → List Nat → List Nat → List Nat
  | 0, _, acc => acc
  | _ + 1, [], acc => acc
  | n + 1, b :: l, acc =>
    match lget loc b with
    | some lb => bif memB b acc || memB b resv then reach loc resv n l acc else reach loc resv n (refsL lb ++ l) (acc ++ [b])
    | none => reach loc resv n l acc
def ixOf (b : Nat) : List Nat → Nat → Option Nat
  | [], _ => none
  | c :: l, n => bif Nat.beq b c then some n else ixOf b l (n + 1)
/-- A name's new name. -/
def newName (resv ord : List Nat) (b : Nat) : Option Nat := bif memB b resv then some b else ixOf b ord 19300000
def renIds (f : Nat → Option Nat) : List Nat → Option (List Nat)
  | [] => some []
  | b :: l =>
    match f b, renIds f l with
    | some c, some r => some (c :: r)
    | _, _ => none
def renC (loc : Loc) (f : Nat → Option Nat) : CV → CV
  | .own b => match f b with | some c => .own c | none => .un
  | .sub b sz lo hi => match f b with | some c => .sub c sz lo hi | none => .un
  | .inn b ep p e t xs =>
    match f b, lget loc b with
    | some c, some (.row _ ep' _ _ _) => if ep = ep' then .inn c 0 p e t xs else .un
    | _, _ => .un
  | .ptr b off => match f b with | some c => .ptr c off | none => .un
  | .eptr b sz i off => match f b with | some c => .eptr c sz i off | none => .un
  | .aptr b n i => match f b with | some c => .aptr c n i | none => .un
  | .clo g caps => match renIds f caps with | some cs => .clo g cs | none => .un
  | .mp b => match f b with | some c => .mp c | none => .un
  | v => v
def renCs (loc : Loc) (f : Nat → Option Nat) : List CV → List CV
  | [] => []
  | c :: cs => renC loc f c :: renCs loc f cs
def renT (loc : Loc) (f : Nat → Option Nat) : TV → TV
  | .c v => .c (renC loc f v)
  | .agg cs => .agg (renCs loc f cs)
  | .arr k n xs => .arr k n xs
  | .tup _ => .c .un
def renL (loc : Loc) (f : Nat → Option Nat) : LB → LB
  | .cells T cs => .cells T (renCs loc f cs)
  | .row d _ e t xs => .row d 0 e t xs
  | lb => lb
/-- Slots, told by those that hold something. -/
def sparse : Nat → Nat → List (Nat × TV) → List TV
  | 0, _, _ => []
  | n + 1, i, [] => .c .un :: sparse n (i + 1) []
  | n + 1, i, x :: l => bif Nat.beq x.1 i then x.2 :: sparse n (i + 1) l else .c .un :: sparse n (i + 1) (x :: l)
def keptOf (tm : List TV) : List Nat → List (Nat × TV)
  | [] => []
  | s :: l =>
    match tget tm s with
    | some (.c .un) => keptOf tm l
    | some v => (s, v) :: keptOf tm l
    | none => keptOf tm l
def renKept (loc : Loc) (f : Nat → Option Nat) : List (Nat × TV) → List (Nat × TV)
  | [] => []
  | x :: l => (x.1, renT loc f x.2) :: renKept loc f l
def renLoc (loc : Loc) (f : Nat → Option Nat) : List Nat → Loc
  | [] => []
  | b :: l =>
    match f b, lget loc b with
    | some c, some lb => (c, renL loc f lb) :: renLoc loc f l
    | _, _ => renLoc loc f l
def refsK : List (Nat × TV) → List Nat
  | [] => []
  | x :: l => refsT x.2 ++ refsK l
/-- At a head: only the slots that are kept, only the blocks that they lead to, under new names. -/
def clean (resv keep : List Nat) (st : St) : St :=
  let kept := keptOf st.tm keep
  let ord := reach st.loc resv 2000 (refsLs (lget st.loc) resv ++ refsK kept) []
  { tm := sparse st.tm.length 0 (renKept st.loc (newName resv ord) kept), loc := renLoc st.loc (newName resv ord) (resv ++ ord) }
def knowO (st : St) (x : Operand) (b : Bool) : St :=
  match x with
  | .tmp d => st.know d b
  | _ => st
section
variable {R : Type} (P : Program) (Γ : Nat → Option Sig)
/-- From a list of things to do, till the function's end, or till the head of a loop or a marked region. -/
noncomputable def segr (fin : St → Option R) (cut : Nat → Bool) (lp : List Item → St → Option R) : Nat → Bool → List Item → St → Option R
  | 0, _, _, _ => none
  | _ + 1, _, [], st => fin st
  | n + 1, f, .code c :: k, st =>
    match c with
    | .skip => segr fin cut lp n f k st
    | .seq a b => segr fin cut lp n f (.code a :: .code b :: k) st
    | .cond x a b =>
      match evO (tget st.tm) x with
      | some (.c (.bool t)) => if t = true then segr fin cut lp n false (.code a :: k) (knowO st x true) else segr fin cut lp n false (.code b :: k) (knowO st x false)
      | _ => none
    | .block id c => segr fin cut lp n f (.code c :: .inBlock id :: k) st
    | .loop c => lp (.inLoop c :: k) st
    | .exit id =>
      match exitTo id k with
      | some k' => segr fin cut lp n false k' st
      | none => none
    | .ret => fin st
    | .region id ops draw =>
      if (cut id && !f) = true then lp (.code (.region id ops draw) :: k) st
      else if draw = true then
        if P.follows .mixedOrders = true then evDraw P Γ id ops (List.range ops.size) [] st (fun st' => segr fin cut lp n false k st') else none
      else evOps P Γ id ops (List.range ops.size) st (fun st' => segr fin cut lp n false k st')
    | _ => none
  | n + 1, f, .inBlock _ :: k, st => segr fin cut lp n f k st
  | _ + 1, _, .inLoop c :: k, st => lp (.inLoop c :: k) st
  | _ + 1, _, _, _ => none
end
def arr : List Item → List Item
  | .inLoop c :: k => .code c :: .inLoop c :: k
  | k => k
def keyOf : List Item → Nat
  | .inLoop c :: _ => key c
  | .code c :: _ => key c
  | _ => 0
/-- j: how many heads are come to at the most. -/
noncomputable def run {R : Type} (P : Program) (Γ : Nat → Option Sig) (fin : St → Option R) (cut : Nat → Bool) (resv : List Nat) (keep : Nat → List Nat) : Nat → List Item → St → Option R
  | 0, _, _ => none
  | j + 1, k, st => segr P Γ fin cut (fun k' st' => run P Γ fin cut resv keep j k' (clean resv (keep (keyOf k')) st')) 2000 true (arr k) st
/-- What is left to do at the head of the loop (or at the region) that has this number. -/
def todoAt (n : Nat) : Code → List Item → Option (List Item)
  | .seq a b, k =>
    match todoAt n a (.code b :: k) with
    | some r => some r
    | none => todoAt n b k
  | .cond _ a b, k =>
    match todoAt n a k with
    | some r => some r
    | none => todoAt n b k
  | .block id c, k => todoAt n c (.inBlock id :: k)
  | .loop c, k => if key c = n then some (.inLoop c :: k) else todoAt n c (.inLoop c :: k)
  | .region id ops draw, k => if id = n then some (.code (.region id ops draw) :: k) else none
  | _, _ => none
def headTodo (n : Nat) (c : Code) : List Item := (todoAt n c []).getD []

/-! ### arguments -/
def packTV (g : Bool) (cs : List CV) : TV :=
  if g = true then .agg cs else
    match cs with
    | [v] => .c v
    | _ => .c .un
def startP : (ps : List PK) → dens ps → Nat → List TV × Loc
  | [], _, _ => ([], [])
  | .val g t :: ps, x, m => (packTV g (flat t x.1) :: (startP ps x.2 m).1, (startP ps x.2 m).2)
  | .mu g t :: ps, x, m => (packTV g (thaw t x.1 m).1 :: (startP ps x.2 (m + (thaw t x.1 m).2.length)).1, (thaw t x.1 m).2 ++ (startP ps x.2 (m + (thaw t x.1 m).2.length)).2)
  | .mv g t :: ps, x, m => (packTV g (thaw t x.1 m).1 :: (startP ps x.2 (m + (thaw t x.1 m).2.length)).1, (thaw t x.1 m).2 ++ (startP ps x.2 (m + (thaw t x.1 m).2.length)).2)
  | .ref T true t :: ps, x, m => (.c (.ptr m 0) :: (startP ps x.2 (m + (1 + (thaw t x.1 (m + 1)).2.length))).1, ((m, .cells T (thaw t x.1 (m + 1)).1) :: (thaw t x.1 (m + 1)).2) ++ (startP ps x.2 (m + (1 + (thaw t x.1 (m + 1)).2.length))).2)
  | .ref T false t :: ps, x, m => (.c (.ptr m 0) :: (startP ps x.2 (m + 1)).1, [(m, .cells T (flat t x.1))] ++ (startP ps x.2 (m + 1)).2)
  | .rdp T t :: ps, x, m => (.c (.bptr t x.1 0) :: (startP ps x.2 m).1, (startP ps x.2 m).2)
  | .fn qs rs :: ps, x, m => (.c (.fnv qs rs x.1) :: (startP ps x.2 m).1, (startP ps x.2 m).2)
  | .arr k n :: ps, x, m => (.arr k n x.1 :: (startP ps x.2 m).1, (startP ps x.2 m).2)
/-- The names whose blocks the caller looks at behind the call. -/
def resvP : (ps : List PK) → dens ps → Nat → List Nat
  | [], _, _ => []
  | .mu _ t :: ps, x, m => names (thaw t x.1 m).2 ++ resvP ps x.2 (m + (thaw t x.1 m).2.length)
  | .mv _ t :: ps, x, m => resvP ps x.2 (m + (thaw t x.1 m).2.length)
  | .ref _ true t :: ps, x, m => m :: resvP ps x.2 (m + (1 + (thaw t x.1 (m + 1)).2.length))
  | .ref _ false _ :: ps, x, m => m :: resvP ps x.2 (m + 1)
  | .val _ _ :: ps, x, m => resvP ps x.2 m
  | .rdp _ _ :: ps, x, m => resvP ps x.2 m
  | .fn _ _ :: ps, x, m => resvP ps x.2 m
  | .arr _ _ :: ps, x, m => resvP ps x.2 m
def startN : Nat := 19200000
def start (fn : Func) (ps : List PK) (xs : dens ps) : St := { tm := (startP ps xs startN).1 ++ List.replicate (fn.ntmps - ps.length) (.c .un), loc := (startP ps xs startN).2 }
def bodyOf (fn : Func) : Code := fn.body.getD .skip

/-! ### results -/
/-- Data of one's own in these cells: what it is, its blocks. -/
def takeOwn (L : Nat → Option LB) (t : Ty) (cs : List CV) : Option (t.den × List Nat) :=
  match unflat L t cs, ownIds L noStay t cs with
  | some (x, []), some (ids, []) => some (x, ids)
  | _, _ => none
def takeRd (L : Nat → Option LB) (t : Ty) (cs : List CV) : Option (t.den × List Nat) :=
  match unflat L t cs with
  | some (x, []) => some (x, idsOf cs)
  | _ => none
def finO (L : Nat → Option LB) : (ps : List PK) → dens ps → Nat → Option (outs ps × List Nat × List Nat)
  | [], _, _ => some ((), [], [])
  | .mu g t :: ps, x, m =>
    match takeOwn L t (thaw t x.1 m).1, finO L ps x.2 (m + (thaw t x.1 m).2.length) with
    | some (y, ids), some (o, io, so) => some ((y, o), ids ++ io, so)
    | _, _ => none
  | .ref T true t :: ps, x, m =>
    match L m, finO L ps x.2 (m + (1 + (thaw t x.1 (m + 1)).2.length)) with
    | some (.cells T' cs), some (o, io, so) =>
      if T' = T then
        match takeOwn L t cs with
        | some (y, ids) => some ((y, o), (m :: ids) ++ io, so)
        | none => none
      else none
    | _, _ => none
  | .ref T false t :: ps, x, m =>
    match L m, finO L ps x.2 (m + 1) with
    | some (.cells T' cs), some (o, io, so) =>
      if T' = T then
        match takeRd L t cs with
        | some (y, ids) => some ((y, o), [m] ++ io, ids ++ so)
        | none => none
      else none
    | _, _ => none
  | .mv _ t :: ps, x, m => finO L ps x.2 (m + (thaw t x.1 m).2.length)
  | .val _ _ :: ps, x, m => finO L ps x.2 m
  | .rdp _ _ :: ps, x, m => finO L ps x.2 m
  | .fn _ _ :: ps, x, m => finO L ps x.2 m
  | .arr _ _ :: ps, x, m => finO L ps x.2 m
def finR (L : Nat → Option LB) : (rs : List RK) → List TV → Option (rdens rs × List Nat × List Nat)
  | [], [] => some ((), [], [])
  | .own g t :: rs, v :: vs =>
    match tvCells g v, finR L rs vs with
    | some cs, some (r, ir, sr) =>
      match takeOwn L t cs with
      | some (x, ids) => some ((x, r), ids ++ ir, sr)
      | none => none
    | _, _ => none
  | .shr g t :: rs, v :: vs =>
    match tvCells g v, finR L rs vs with
    | some cs, some (r, ir, sr) =>
      match takeRd L t cs with
      | some (x, ids) => some ((x, r), ir, ids ++ sr)
      | none => none
    | _, _ => none
  | .ptr T d t :: rs, v :: vs =>
    match v, finR L rs vs with
    | .c (.ptr m 0), some (r, ir, sr) =>
      match L m with
      | some (.cells T' cs) =>
        if T' = T then
          if d = true then
            match takeOwn L t cs with
            | some (y, ids) => some ((y, r), (m :: ids) ++ ir, sr)
            | none => none
          else
            match takeRd L t cs with
            | some (y, ids) => some ((y, r), [m] ++ ir, ids ++ sr)
            | none => none
        else none
      | _ => none
    | _, _ => none
  | .arr k n :: rs, v :: vs =>
    match v, finR L rs vs with
    | .arr k' n' xs, some (r, ir, sr) => if k' = k ∧ n' = n then some ((xs, r), ir, sr) else none
    | _, _ => none
  | _, _ => none
def resTvs (P : Program) (st : St) : List ResultVar → Option (List TV)
  | [] => some []
  | .tmp t :: l =>
    match tget st.tm t, resTvs P st l with
    | some v, some r => some (v :: r)
    | _, _ => none
  | .cell a ty :: l =>
    match tget st.tm a, resTvs P st l with
    | some (.c (.ptr b off)), some r =>
      match evLoad P (lget st.loc) ty (.ptr b off) with
      | some v => some (v :: r)
      | none => none
    | _, _ => none
def nodupB : List Nat → Bool
  | [] => true
  | b :: l => bif memB b l then false else nodupB l
def fin (P : Program) (fn : Func) (ps : List PK) (rs : List RK) (xs : dens ps) (st : St) : Option (outs ps × rdens rs) :=
  match resTvs P st fn.results.toList, finO (lget st.loc) ps xs startN with
  | some tvs, some (o, io, so) =>
    match finR (lget st.loc) rs tvs with
    | some (r, ir, sr) => if (nodupB (io ++ ir) && noneOf (so ++ sr) (fun b => memB b (io ++ ir))) = true then some (o, r) else none
    | none => none
  | _, _ => none
/-- The whole function. -/
noncomputable def whole (P : Program) (Γ : Nat → Option Sig) (fn : Func) (cut : Nat → Bool) (keep : Nat → List Nat) (ps : List PK) (rs : List RK) (j : Nat) (xs : dens ps) : Option (outs ps × rdens rs) :=
  if noneOf (resvP ps xs startN) (fun b => Nat.ble 19300000 b) = true then run P Γ (fin P fn ps rs xs) cut (resvP ps xs startN) keep j [.code (bodyOf fn)] (start fn ps xs) else none
open Classical in
/-- What the rounds come to in the end. -/
noncomputable def lim {A : Type} (G : Nat → Option A) : Option A := if h : ∃ j r, G j = some r then G h.choose else none
theorem lim_some {A : Type} {G : Nat → Option A} {r : A} (h : lim G = some r) : ∃ j, G j = some r := by
  unfold lim at h
  split at h
  · exact ⟨_, h⟩
  · cases h
theorem lim_of {A : Type} {G : Nat → Option A} (hm : ∀ j r, G j = some r → G (j + 1) = some r) {j : Nat} {r : A} (h : G j = some r) : lim G = some r := by
  have up : ∀ d j r, G j = some r → G (j + d) = some r := fun d => by
    induction d with
    | zero => exact fun j r h => h
    | succ d ih => exact fun j r h => hm _ _ (ih j r h)
  unfold lim
  have hex : ∃ j r, G j = some r := ⟨j, r, h⟩
  rw [dif_pos hex]
  obtain ⟨r0, h0⟩ := hex.choose_spec
  have h1 := up j _ _ h0
  have h2 := up hex.choose _ _ h
  rw [Nat.add_comm] at h2
  rw [h1] at h2
  rw [h0]
  exact h2
end Go.Proofs.Ytceffcfnjjlbkaa.E
