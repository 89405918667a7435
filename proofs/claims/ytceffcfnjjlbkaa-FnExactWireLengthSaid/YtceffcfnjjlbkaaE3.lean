/- The evaluator, 3: what it does with an operation. -/
import Derived.Test.YtceffcfnjjlbkaaE2
import Derived.Deep.Quiet
namespace Go.Proofs.Ytceffcfnjjlbkaa.E
open Go.RowKit
set_option linter.unusedVariables false
set_option linter.unusedSimpArgs false

/-! ### operands -/
def cvOf : Value → Option CV
  | .int k n => some (.int k n)
  | .bool b => some (.bool b)
  | .string s => some (.str s)
  | .slice none 0 0 => some .nil
  | _ => none
def evO (T : Nat → Option TV) : Operand → Option TV
  | .tmp t => T t
  | .const v =>
    match cvOf v with
    | some c => some (.c c)
    | none => none
  | .func f => some (.c (.fn f))
  | .global _ => none
def evOs (T : Nat → Option TV) : List Operand → Option (List TV)
  | [] => some []
  | x :: l =>
    match evO T x with
    | some v =>
      match evOs T l with
      | some r => some (v :: r)
      | none => none
    | none => none

/-! ### cells -/
def tvCells (g : Bool) : TV → Option (List CV)
  | .agg cs => if g = true then some cs else none
  | .c v => if g = true then none else some [v]
  | _ => none
def allCells : TV → Option (List CV)
  | .agg cs => some cs
  | .c v => some [v]
  | _ => none
def tvOf (g : Bool) (cs : List CV) : Option TV :=
  if g = true then some (.agg cs) else
    match cs with
    | [v] => some (.c v)
    | _ => none
def CV.known : CV → Bool
  | .un => false
  | _ => true
def CV.scalar : CV → Bool
  | .int _ _ => true
  | .bool _ => true
  | .str _ => true
  | _ => false
/-- Scalars, and slices that stay as they are. -/
def CV.still : CV → Bool
  | .int _ _ => true
  | .bool _ => true
  | .str _ => true
  | .nil => true
  | .bor _ _ _ => true
  | _ => false

/-! ### cells to data, data to cells -/
def cast? {t t' : Ty} (xs : List t.den) : Option (List t'.den) := if h : t = t' then some (h ▸ xs) else none
/-- What a slice reads as. -/
def rdSl (L : Nat → Option LB) (t : Ty) : CV → Option (List t.den)
  | .bor _ t' xs => cast? (t := t') (t' := t) xs
  | .nil => some []
  | .own b =>
    match L b with
    | some (.row _ _ _ t' xs) => cast? (t := t') (t' := t) xs
    | some (.sett _ t' xs) => cast? (t := t') (t' := t) xs
    | _ => none
  | .sub b sz lo hi =>
    match L b with
    | some (.row _ _ _ t' xs) => if t'.sz = sz then cast? (t := t') (t' := t) ((xs.drop lo.toNat).take (hi - lo).toNat) else none
    | some (.sett _ t' xs) => if t'.sz = sz then cast? (t := t') (t' := t) ((xs.drop lo.toNat).take (hi - lo).toNat) else none
    | _ => none
  | .inn b ep _ _ t' xs =>
    match L b with
    | some (.row _ ep' _ _ _) => if ep = ep' then cast? (t := t') (t' := t) xs else none
    | _ => none
  | _ => none
def asI (k : IntKind) : CV → Option Int
  | .int k' n => if k' = k then some n else none
  | _ => none
def asB : CV → Option Bool
  | .bool b => some b
  | _ => none
def asS : CV → Option ByteArray
  | .str s => some s
  | _ => none
def unflat (L : Nat → Option LB) : (t : Ty) → List CV → Option (t.den × List CV)
  | .int k, cs =>
    match cs with
    | [] => none
    | c :: r =>
      match asI k c with
      | some n => some (n, r)
      | none => none
  | .bool, cs =>
    match cs with
    | [] => none
    | c :: r =>
      match asB c with
      | some n => some (n, r)
      | none => none
  | .str, cs =>
    match cs with
    | [] => none
    | c :: r =>
      match asS c with
      | some n => some (n, r)
      | none => none
  | .sl _ t, cs =>
    match cs with
    | [] => none
    | c :: r =>
      match rdSl L t c with
      | some ys => some (ys, r)
      | none => none
  | .pair a b, cs =>
    match unflat L a cs with
    | some (x, r) =>
      match unflat L b r with
      | some (y, r') => some ((x, y), r')
      | none => none
    | none => none
def argRd (L : Nat → Option LB) (g : Bool) (t : Ty) (v : TV) : Option t.den :=
  match tvCells g v with
  | some cs =>
    match unflat L t cs with
    | some (x, []) => some x
    | _ => none
  | none => none
/-- New data as blocks of one's own, named from m on. -/
def thaw : (t : Ty) → t.den → Nat → List CV × Loc
  | .int k, n, _ => ([.int k n], [])
  | .bool, b, _ => ([.bool b], [])
  | .str, s, _ => ([.str s], [])
  | .sl e t, xs, m => ([.own m], [(m, .row true 0 e t xs)])
  | .pair a b, x, m => ((thaw a x.1 m).1 ++ (thaw b x.2 (m + (thaw a x.1 m).2.length)).1, (thaw a x.1 m).2 ++ (thaw b x.2 (m + (thaw a x.1 m).2.length)).2)
/-- The rows that make up data of one's own (cells that 'stay' are passed over); none if something else is in them. -/
def ownIds (L : Nat → Option LB) (stay : CV → Bool) : (t : Ty) → List CV → Option (List Nat × List CV)
  | .sl e t, cs =>
    match cs with
    | [] => none
    | .own b :: r =>
      match L b with
      | some (.row true _ e' t' _) => if e' = e ∧ t' = t then some ([b], r) else none
      | _ => none
    | .nil :: r => some ([], r)
    | c :: r => if stay c = true then some ([], r) else none
  | .pair a b, cs =>
    match ownIds L stay a cs with
    | some (ids, r) =>
      match ownIds L stay b r with
      | some (ids', r') => some (ids ++ ids', r')
      | none => none
    | none => none
  | _, cs =>
    match cs with
    | [] => none
    | _ :: r => some ([], r)
def noStay : CV → Bool := fun _ => false
/-- A slice in the row's element itself. -/
def isInn (b : Nat) : CV → Bool
  | .inn b' _ _ _ _ _ => Nat.beq b' b
  | _ => false
def anyInn : CV → Bool
  | .inn _ _ _ _ _ _ => true
  | _ => false
def isDeep (L : Nat → Option LB) (b : Nat) : Bool :=
  match L b with
  | some (.row true _ _ _ _) => true
  | _ => false
def kills (ids : List Nat) : Loc := ids.map fun b => (b, .dead)
/-- A slice inside a row's element, as it lies there. -/
def innAt (b ep sz : Nat) (i : Int) : Nat → List CV → List CV
  | _, [] => []
  | j, .bor e t ys :: l => .inn b ep (some (sz, i, j)) e t ys :: innAt b ep sz i (j + 1) l
  | j, c :: l => c :: innAt b ep sz i (j + 1) l

/-! ### types -/
inductive TK where
  | agg
  | cell
  | arr (k : IntKind) (n : Nat)
def tk (P : Program) (T : Nat) : Option TK :=
  match P.underlying T with
  | some (.struct _) => some .agg
  | some (.array n e) =>
    match P.underlying e with
    | some (.int k) => some (.arr k n)
    | _ => none
  | some .bool => some .cell
  | some (.int _) => some .cell
  | some .string => some .cell
  | some (.slice _) => some .cell
  | some (.pointer _) => some .cell
  | some (.map _ _) => some .cell
  | _ => none
def TK.g : TK → Option Bool
  | .agg => some true
  | .cell => some false
  | .arr _ _ => none
def cvsOf : List Value → Option (List CV)
  | [] => some []
  | v :: l =>
    match cvOf v with
    | some c =>
      match cvsOf l with
      | some r => some (c :: r)
      | none => none
    | none => none
def zeroV (P : Program) (T : Nat) : Option Value :=
  match P.info? T with
  | some i =>
    match i.zero with
    | some z => if z.cells.size = i.size then some z else none
    | none => none
  | none => none
/-- The zero value's cells. -/
def zeroC (P : Program) (T : Nat) : Option (List CV) :=
  match zeroV P T with
  | some z => cvsOf z.cells.toList
  | none => none
def fieldOf (P : Program) (T j : Nat) : Option (Nat × Nat) :=
  match P.underlying T with
  | some (.struct fs) =>
    match fs[j]? with
    | some f => if 0 < P.cellsOf f.type then some (f.offset, f.type) else none
    | none => none
  | _ => none
/-- A struct's parts, one behind the other. -/
def tyFs (P : Program) (rec : TypeId → Option Ty) : Nat → List Field → Option Ty
  | _, [] => none
  | off, [f] =>
    match rec f.type with
    | some t => if f.offset = off ∧ P.cellsOf f.type = t.sz then some t else none
    | none => none
  | off, f :: g :: l =>
    match rec f.type with
    | some t =>
      match tyFs P rec (off + t.sz) (g :: l) with
      | some u => if f.offset = off ∧ P.cellsOf f.type = t.sz then some (.pair t u) else none
      | none => none
    | none => none
/-- A type's data, read off the program's table. -/
def tyOf (P : Program) : Nat → TypeId → Option Ty
  | 0, _ => none
  | n + 1, T =>
    match P.underlying T with
    | some (.int k) => some (.int k)
    | some .bool => some .bool
    | some .string => some .str
    | some (.slice e) =>
      match tyOf P n e with
      | some t => if P.cellsOf e = t.sz then some (.sl e t) else none
      | none => none
    | some (.struct fs) =>
      match tyFs P (tyOf P n) 0 fs.toList with
      | some t => if P.cellsOf T = t.sz then some t else none
      | none => none
    | _ => none
def isSliceT (P : Program) (T : Nat) : Bool :=
  match P.underlying T with
  | some (.slice _) => true
  | _ => false
def isBoolT (P : Program) (T : Nat) : Bool :=
  match P.underlying T with
  | some .bool => true
  | _ => false
def isStrT (P : Program) (T : Nat) : Bool :=
  match P.underlying T with
  | some .string => true
  | _ => false
/-- A slice's type: its elements' type, their data, their bytes. -/
def rowInfo (P : Program) (T : Nat) : Option (Nat × Ty × Nat) :=
  match P.underlying T with
  | some (.slice e) =>
    match tyOf P 20 e, P.info? e, zeroV P e with
    | some t, some i, some z => if i.size = t.sz ∧ 0 < i.bytes then some (e, t, i.bytes) else none
    | _, _, _ => none
  | _ => none
/-- The data of a zero element. -/
def zeroD (P : Program) (e : Nat) (t : Ty) : Option t.den :=
  match zeroC P e with
  | some cs =>
    match unflat (fun _ => none) t cs with
    | some (z, []) => some z
    | _ => none
  | none => none

/-! ### operations on numbers and truth values -/
def evInt (op : BinOp) (k : IntKind) (x y : Int) : Option CV :=
  match op with
  | .add => some (.int k (k.wrap (x + y)))
  | .sub => some (.int k (k.wrap (x - y)))
  | .mul => some (.int k (k.wrap (x * y)))
  | .and => some (.int k (Go.bits .and k x y))
  | .or => some (.int k (Go.bits .or k x y))
  | .xor => some (.int k (Go.bits .xor k x y))
  | .andNot => some (.int k (Go.bits .andNot k x y))
  | .eql => some (.bool (x == y))
  | .neq => some (.bool (x != y))
  | .lss => some (.bool (decide (x < y)))
  | .leq => some (.bool (decide (x ≤ y)))
  | .gtr => some (.bool (decide (x > y)))
  | .geq => some (.bool (decide (x ≥ y)))
  | _ => none
def evBin (P : Program) (T : Nat) (op : BinOp) (x y : CV) : Option CV :=
  match op, x, y with
  | op, .int k a, .int k' b => if k = k' then evInt op k a b else none
  | .eql, .bool a, .bool b => if isBoolT P T = true then some (.bool (a == b)) else none
  | .neq, .bool a, .bool b => if isBoolT P T = true then some (.bool (!(a == b))) else none
  | .eql, .str a, .str b => if isStrT P T = true then some (.bool (a.toList == b.toList)) else none
  | .neq, .str a, .str b => if isStrT P T = true then some (.bool (!(a.toList == b.toList))) else none
  | _, _, _ => none
def evUn (op : UnOp) (x : CV) : Option CV :=
  match op, x with
  | .neg, .int k n => some (.int k (k.wrap (0 - n)))
  | .not, .bool b => some (.bool (!b))
  | _, _ => none

/-! ### places in memory -/
def seg (cs : List CV) (off n : Nat) : List CV := (cs.drop off).take n
/-- The cells of an element of a row, as they are found. -/
def elemCells (d : Bool) (b ep : Nat) (t : Ty) (xs : List t.den) (i : Int) : List CV :=
  if (d && !t.flatB) = true then innAt b ep t.sz i 0 (flat t (xs.getD i.toNat t.z)) else flat t (xs.getD i.toNat t.z)
def evLoad (P : Program) (L : Nat → Option LB) (T : Nat) (p : CV) : Option TV :=
  match tk P T with
  | some (.arr k n) =>
    match p with
    | .ptr b 0 =>
      match L b with
      | some (.arr _ k' n' xs) => if k = k' ∧ n = n' ∧ P.cellsOf T = n then some (.arr k n xs) else none
      | _ => none
    | _ => none
  | some c =>
    match c.g with
    | some g =>
      match p with
      | .ptr b off =>
        match L b with
        | some (.cells _ cs) => if off + P.cellsOf T ≤ cs.length then tvOf g (seg cs off (P.cellsOf T)) else none
        | _ => none
      | .bptr t x off => if off + P.cellsOf T ≤ t.sz then tvOf g (seg (flat t x) off (P.cellsOf T)) else none
      | .eptr b sz i off =>
        match L b with
        | some (.row d ep _ t xs) => if t.sz = sz ∧ off + P.cellsOf T ≤ t.sz then tvOf g (seg (elemCells d b ep t xs i) off (P.cellsOf T)) else none
        | _ => none
      | .aptr b n i =>
        match L b with
        | some (.arr _ k n' xs) => if n = n' ∧ g = false ∧ P.cellsOf T = 1 then some (.c (.int k (xs.getD i.toNat 0))) else none
        | _ => none
      | _ => none
    | none => none
  | none => none
def splice (cs : List CV) (off : Nat) (sg : List CV) : List CV := cs.take off ++ sg ++ cs.drop (off + sg.length)
def evStore (P : Program) (L : Nat → Option LB) (T : Nat) (p : CV) (v : TV) : Option Loc :=
  match tk P T with
  | some (.arr k n) =>
    match p, v with
    | .ptr b 0, .arr k' m xs =>
      match L b with
      | some (.arr T' k'' n' ys) => if k = k' ∧ k = k'' ∧ n = n' ∧ n = m ∧ P.cellsOf T = n then some [(b, .arr T' k n xs)] else none
      | _ => none
    | _, _ => none
  | some c =>
    match c.g with
    | some g =>
      match tvCells g v with
      | some sg =>
        if sg.length = P.cellsOf T ∧ sg.all CV.known = true then
          match p with
          | .ptr b off =>
            match L b with
            | some (.cells T' cs) => if off + sg.length ≤ cs.length then some [(b, .cells T' (splice cs off sg))] else none
            | _ => none
          | .eptr b sz i off =>
            match L b with
            | some (.row d ep e t xs) =>
              if t.sz = sz ∧ off + sg.length ≤ t.sz then
                match unflat L t (splice (elemCells d b ep t xs i) off sg) with
                | some (x, []) =>
                  if t.flatB = true then some [(b, .row d (ep + 1) e t (xs.set i.toNat x))]
                  else if d = true then
                    match ownIds L (isInn b) t (splice (elemCells d b ep t xs i) off sg) with
                    | some (ids, []) => if ids.Nodup ∧ b ∉ ids ∧ sg.any anyInn = false then some ((b, .row true (ep + 1) e t (xs.set i.toNat x)) :: kills ids) else none
                    | _ => none
                  else if sg.all CV.still = true then some [(b, .row false (ep + 1) e t (xs.set i.toNat x))]
                  else none
                | _ => none
              else none
            | _ => none
          | .aptr b n i =>
            match L b, sg with
            | some (.arr T' k n' xs), [.int k' m] => if k = k' ∧ n = n' then some [(b, .arr T' k n' (xs.set i.toNat m))] else none
            | _, _ => none
          | _ => none
        else none
      | none => none
    | none => none
  | none => none
/-- Without the bounds' test (which the evaluator asks in front): the address, the index, the length. -/
def evIndexAddr (P : Program) (L : Nat → Option LB) (T : Nat) (x : TV) (i : TV) : Option (CV × Int × Int) :=
  match P.underlying T, x, i with
  | some (.slice e), .c (.bor _ t xs), .c (.int _ i) => if P.cellsOf e = t.sz then some (.bptr t (xs.getD i.toNat t.z) 0, i, xs.length) else none
  | some (.slice e), .c (.own b), .c (.int _ i) =>
    match L b with
    | some (.row _ _ _ t xs) => if P.cellsOf e = t.sz then some (.eptr b t.sz i 0, i, xs.length) else none
    | some (.sett _ t xs) => if P.cellsOf e = t.sz then some (.bptr t (xs.getD i.toNat t.z) 0, i, xs.length) else none
    | _ => none
  | some (.slice e), .c (.sub b sz lo hi), .c (.int _ i) =>
    match L b with
    | some (.row _ _ _ t xs) => if P.cellsOf e = t.sz ∧ t.sz = sz then some (.eptr b t.sz (lo + i) 0, i, hi - lo) else none
    | _ => none
  | some (.array n e), .c (.ptr b 0), .c (.int _ i) =>
    match L b with
    | some (.arr _ _ n' xs) => if P.cellsOf e = 1 ∧ n = n' then some (.aptr b n i, i, n) else none
    | _ => none
  | _, _, _ => none
def evFieldAddr (P : Program) (T : Nat) (x : CV) (j : Nat) : Option CV :=
  match fieldOf P T j with
  | some (o, _) =>
    match x with
    | .ptr b off => some (.ptr b (off + o))
    | .bptr t x off => some (.bptr t x (off + o))
    | .eptr b sz i off => some (.eptr b sz i (off + o))
    | _ => none
  | none => none
def evField (P : Program) (T : Nat) (x : TV) (j : Nat) : Option TV :=
  match fieldOf P T j, x with
  | some (o, ft), .agg cs =>
    match tk P ft with
    | some c =>
      match c.g with
      | some g => if o + P.cellsOf ft ≤ cs.length then tvOf g (seg cs o (P.cellsOf ft)) else none
      | none => none
    | none => none
  | _, _ => none
def evLen (P : Program) (L : Nat → Option LB) (T : Nat) : CV → Option Int
  | .bor _ _ xs => if isSliceT P T = true then some xs.length else none
  | .own b =>
    match L b with
    | some (.row _ _ _ _ xs) => if isSliceT P T = true then some xs.length else none
    | some (.sett _ _ xs) => if isSliceT P T = true then some xs.length else none
    | _ => none
  | .sub b sz lo hi =>
    match L b with
    | some (.row _ _ _ _ xs) => if isSliceT P T = true then some (hi - lo) else none
    | some (.sett _ _ xs) => if isSliceT P T = true then some (hi - lo) else none
    | _ => none
  | .inn b ep _ _ _ xs =>
    match L b with
    | some (.row _ ep' _ _ _) => if ep = ep' ∧ isSliceT P T = true then some xs.length else none
    | _ => none
  | .nil => if isSliceT P T = true then some 0 else none
  | .str s => if isStrT P T = true then some s.size else none
  | _ => none
/-- A part of a slice: the whole's length, what the part from lo to hi is. -/
def evSlice (P : Program) (L : Nat → Option LB) (T : Nat) (lo hi : Int) : CV → Option CV
  | .bor e t xs => if P.cellsOf T = t.sz then some (.bor e t ((xs.drop lo.toNat).take (hi - lo).toNat)) else none
  | .own b =>
    match L b with
    | some (.row _ _ e t _) => if P.cellsOf T = t.sz then some (.sub b t.sz lo hi) else none
    | some (.sett e t xs) => if P.cellsOf T = t.sz then some (.bor e t ((xs.drop lo.toNat).take (hi - lo).toNat)) else none
    | _ => none
  | .sub b sz l h =>
    match L b with
    | some (.row _ _ e t _) => if P.cellsOf T = t.sz ∧ t.sz = sz then some (.sub b sz (l + lo) (l + hi)) else none
    | _ => none
  | .nil => if 0 < P.cellsOf T then some .nil else none
  | _ => none
def sameOp : Operand → Operand → Bool
  | .tmp p, .tmp q => p == q
  | .const (.int .i64 n), .const (.int .i64 m) => n == m
  | _, _ => false
/-- What is appended to: a row of one's own (it is no more, then), or nil; is what its elements lead to its own? -/
def appTo (L : Nat → Option LB) (e : Nat) (t : Ty) : TV → Option (Option Nat × Bool × List t.den)
  | .c (.own b) =>
    match L b with
    | some (.row d _ e' t' xs) => if e' = e then
        match cast? (t := t') (t' := t) xs with
        | some ys => some (some b, d, ys)
        | none => none
      else none
    | _ => none
  | .c .nil => some (none, true, [])
  | _ => none
def killO : Option Nat → Loc
  | none => []
  | some b => [(b, .dead)]
def isShal (L : Nat → Option LB) (b : Nat) : Bool :=
  match L b with
  | some (.row false _ _ _ _) => true
  | _ => false
/-- What is appended: what else is no more, then; is what the row leads to its own? -/
def appEd (L : Nat → Option LB) (e : Nat) (t : Ty) (s : Option Nat) (d : Bool) : TV → Option (List Nat × Bool × List t.den)
  | .c c =>
    match rdSl L t c with
    | some ys =>
      if t.flatB = true then some ([], true, ys)
      else
        match c with
        | .nil => some ([], d, ys)
        | .own b =>
          if isShal L b = true then (if d = false ∨ s = none then some ([], false, ys) else none)
          else
            match ownIds L noStay (.sl e t) [c] with
            | some (ids, []) => if d = true ∧ s ≠ some b then some (ids, true, ys) else none
            | _ => none
        | .bor _ _ _ => if d = false ∨ s = none then some ([], false, ys) else none
        | _ => none
    | none => none
  | _ => none
def litC (sz : Nat) : List (Nat × List CV) → List CV → Option (List CV)
  | [], cs => some cs
  | (i, sg) :: l, cs => if sg.length = sz ∧ i * sz + sz ≤ cs.length ∧ sg.all CV.known = true then litC sz l (splice cs (i * sz) sg) else none
def unflatN (L : Nat → Option LB) (t : Ty) : Nat → List CV → Option (List t.den × List CV)
  | 0, cs => some ([], cs)
  | n + 1, cs =>
    match unflat L t cs with
    | some (x, r) =>
      match unflatN L t n r with
      | some (xs, r') => some (x :: xs, r')
      | none => none
    | none => none
def ownIdsN (L : Nat → Option LB) (t : Ty) : Nat → List CV → Option (List Nat × List CV)
  | 0, cs => some ([], cs)
  | n + 1, cs =>
    match ownIds L noStay t cs with
    | some (ids, r) =>
      match ownIdsN L t n r with
      | some (ids', r') => some (ids ++ ids', r')
      | none => none
    | none => none
def evParts (T : Nat → Option TV) : List (Nat × Operand) → Option (List (Nat × List CV))
  | [] => some []
  | (i, x) :: l =>
    match evO T x with
    | some v =>
      match allCells v with
      | some cs =>
        match evParts T l with
        | some r => some ((i, cs) :: r)
        | none => none
      | none => none
    | none => none
end Go.Proofs.Ytceffcfnjjlbkaa.E
