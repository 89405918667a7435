/- A typed evaluator for loaded code, 2: what it does with an operation, with code, with a function. -/
import Derived.Test.YtceffcfnjjlbkaaV0
namespace Go.Proofs.Ytceffcfnjjlbkaa.V
open Go.RowKit Go.Proofs.YtceffcfnjjlbkaaW.PrintWords Go.Proofs.YtceffcfnjjlbkaaW.PrintLast Go.Proofs.YtceffcfnjjlbkaaW.PrintMore
set_option linter.unusedVariables false
set_option linter.unusedSimpArgs false

/-! ### functions' signatures: a parameter or result is a struct (true) or one cell (false) -/
abbrev PK := Bool × Ty
@[reducible] def dens : List PK → Type
  | [] => Unit
  | p :: l => p.2.den × dens l
structure Sig where
  ps : List PK
  rs : List PK
  F : dens ps → Option (dens rs)

/-! ### cells to data, data to cells -/
def cvOf : Value → Option CV
  | .int k n => some (.int k n)
  | .bool b => some (.bool b)
  | .string s => some (.str s)
  | .slice none 0 0 => some .nil
  | _ => none
def cast? {t t' : Ty} (xs : List t.den) : Option (List t'.den) := if h : t = t' then some (h ▸ xs) else none
def unflat (loc : List LB) : (t : Ty) → List CV → Option (t.den × List CV)
  | .int k, .int k' n :: r => if k' = k then some (n, r) else none
  | .bool, .bool b :: r => some (b, r)
  | .str, .str s :: r => some (s, r)
  | .sl _ t, .bor _ t' xs :: r => (cast? (t := t') (t' := t) xs).map fun ys => (ys, r)
  | .sl e t, .own b :: r =>
    match loc[b]? with
    | some (.row e' t' xs) => if e' = e then (cast? (t := t') (t' := t) xs).map fun ys => (ys, r) else none
    | _ => none
  | .sl _ _, .nil :: r => some ([], r)
  | .pair a b, cs =>
    match unflat loc a cs with
    | some (x, r) =>
      match unflat loc b r with
      | some (y, r') => some ((x, y), r')
      | none => none
    | none => none
  | _, _ => none
def thaw : (t : Ty) → t.den → Nat → List CV × List LB
  | .int k, n, _ => ([.int k n], [])
  | .bool, b, _ => ([.bool b], [])
  | .str, s, _ => ([.str s], [])
  | .sl e t, xs, m => ([.own m], [.row e t xs])
  | .pair a b, x, m => ((thaw a x.1 m).1 ++ (thaw b x.2 (m + (thaw a x.1 m).2.length)).1, (thaw a x.1 m).2 ++ (thaw b x.2 (m + (thaw a x.1 m).2.length)).2)
def tvCells (g : Bool) : TV → Option (List CV)
  | .agg cs => if g = true then some cs else none
  | .c v => if g = true then none else some [v]
  | .tup _ => none
def allCells : TV → Option (List CV)
  | .agg cs => some cs
  | .c v => some [v]
  | .tup _ => none
def tvOf (g : Bool) (cs : List CV) : Option TV :=
  if g = true then some (.agg cs) else
    match cs with
    | [v] => some (.c v)
    | _ => none
def unArgs (loc : List LB) : (ps : List PK) → List TV → Option (dens ps)
  | [], [] => some ()
  | p :: ps, v :: vs =>
    match tvCells p.1 v with
    | some cs =>
      match unflat loc p.2 cs with
      | some (x, []) =>
        match unArgs loc ps vs with
        | some r => some (x, r)
        | none => none
      | _ => none
    | none => none
  | _, _ => none
def thaws : (rs : List PK) → dens rs → Nat → List (Bool × List CV) × List LB
  | [], _, _ => ([], [])
  | p :: rs, x, m => ((p.1, (thaw p.2 x.1 m).1) :: (thaws rs x.2 (m + (thaw p.2 x.1 m).2.length)).1, (thaw p.2 x.1 m).2 ++ (thaws rs x.2 (m + (thaw p.2 x.1 m).2.length)).2)
def packRes : List (Bool × List CV) → Option TV
  | [(g, cs)] => tvOf g cs
  | l => some (.tup l)

/-! ### operands -/
def evO (st : St) : Operand → Option TV
  | .tmp t => st.tm[t]?
  | .const v => (cvOf v).map .c
  | .func f => some (.c (.fn f))
  | .global _ => none
def evOs (st : St) : List Operand → Option (List TV)
  | [] => some []
  | x :: l =>
    match evO st x with
    | some v =>
      match evOs st l with
      | some r => some (v :: r)
      | none => none
    | none => none

/-! ### operations on numbers and truth values -/
def evInt (op : BinOp) (k : IntKind) (x y : Int) : Option CV :=
  match op with
  | .add => some (.int k (k.wrap (x + y)))
  | .sub => some (.int k (k.wrap (x - y)))
  | .mul => some (.int k (k.wrap (x * y)))
  | .and => some (.int k (Go.bits .and k x y))
  | .or => some (.int k (Go.bits .or k x y))
  | .xor => some (.int k (Go.bits .xor k x y))
  | .andNot => some (.int k (Go.bits .andNot k x y))
  | .eql => some (.bool (x == y))
  | .neq => some (.bool (x != y))
  | .lss => some (.bool (decide (x < y)))
  | .leq => some (.bool (decide (x ≤ y)))
  | .gtr => some (.bool (decide (x > y)))
  | .geq => some (.bool (decide (x ≥ y)))
  | _ => none
def isBoolT (P : Program) (T : Nat) : Bool :=
  match P.underlying T with
  | some .bool => true
  | _ => false
def isStrT (P : Program) (T : Nat) : Bool :=
  match P.underlying T with
  | some .string => true
  | _ => false
def evBin (P : Program) (T : Nat) (op : BinOp) (x y : CV) : Option CV :=
  match op, x, y with
  | op, .int k a, .int k' b => if k = k' then evInt op k a b else none
  | .eql, .bool a, .bool b => if isBoolT P T = true then some (.bool (a == b)) else none
  | .neq, .bool a, .bool b => if isBoolT P T = true then some (.bool (!(a == b))) else none
  | .eql, .str a, .str b => if isStrT P T = true then some (.bool (a.toList == b.toList)) else none
  | .neq, .str a, .str b => if isStrT P T = true then some (.bool (!(a.toList == b.toList))) else none
  | _, _, _ => none
def evUn (op : UnOp) (x : CV) : Option CV :=
  match op, x with
  | .neg, .int k n => some (.int k (k.wrap (0 - n)))
  | .not, .bool b => some (.bool (!b))
  | _, _ => none

/-! ### types -/
def aggT (P : Program) (T : Nat) : Option Bool :=
  match P.underlying T with
  | some (.struct _) => some true
  | some (.array ..) => some true
  | some .bool => some false
  | some (.int _) => some false
  | some .string => some false
  | some (.slice _) => some false
  | some (.pointer _) => some false
  | _ => none
def cvsOf : List Value → Option (List CV)
  | [] => some []
  | v :: l =>
    match cvOf v with
    | some c =>
      match cvsOf l with
      | some r => some (c :: r)
      | none => none
    | none => none
/-- The zero value's cells. -/
def zeroC (P : Program) (T : Nat) : Option (List CV) :=
  match P.info? T with
  | some i =>
    match i.zero with
    | some z => if z.cells.size = i.size then cvsOf z.cells.toList else none
    | none => none
  | none => none
def fieldOf (P : Program) (T j : Nat) : Option (Nat × Nat) :=
  match P.underlying T with
  | some (.struct fs) =>
    match fs[j]? with
    | some f => if 0 < P.cellsOf f.type then some (f.offset, f.type) else none
    | none => none
  | _ => none

/-! ### places in memory -/
def CV.known : CV → Bool
  | .un => false
  | _ => true
def evLoad (P : Program) (st : St) (T : Nat) (p : CV) : Option TV :=
  match aggT P T with
  | some g =>
    match p with
    | .ptr b off =>
      match st.loc[b]? with
      | some (.cells _ cs) => if off + P.cellsOf T ≤ cs.length then tvOf g ((cs.drop off).take (P.cellsOf T)) else none
      | _ => none
    | .bptr t x off => if off + P.cellsOf T ≤ t.sz then tvOf g (((flat t x).drop off).take (P.cellsOf T)) else none
    | .eptr b sz i off =>
      match st.loc[b]? with
      | some (.row _ t xs) => if 0 ≤ i then if i < (xs.length : Int) then if t.sz = sz ∧ off + P.cellsOf T ≤ t.sz then tvOf g (((flat t (xs.getD i.toNat t.z)).drop off).take (P.cellsOf T)) else none else none else none
      | _ => none
    | _ => none
  | none => none
def evStore (P : Program) (st : St) (T : Nat) (p : CV) (v : TV) : Option St :=
  match aggT P T with
  | some g =>
    match tvCells g v with
    | some seg =>
      if seg.length = P.cellsOf T ∧ seg.all CV.known = true then
        match p with
        | .ptr b off =>
          match st.loc[b]? with
          | some (.cells T' cs) => if off + seg.length ≤ cs.length then some { st with loc := st.loc.set b (.cells T' (cs.take off ++ seg ++ cs.drop (off + seg.length))) } else none
          | _ => none
        | _ => none
      else none
    | none => none
  | none => none
def evIndexAddr (P : Program) (st : St) (T : Nat) (x : TV) (i : TV) : Option CV :=
  match P.underlying T, x, i with
  | some (.slice e), .c (.bor _ t xs), .c (.int _ i) => if P.cellsOf e = t.sz then if 0 ≤ i then if i < (xs.length : Int) then some (.bptr t (xs.getD i.toNat t.z) 0) else none else none else none
  | some (.slice e), .c (.own b), .c (.int _ i) =>
    match st.loc[b]? with
    | some (.row _ t xs) => if P.cellsOf e = t.sz then if 0 ≤ i then if i < (xs.length : Int) then some (.eptr b t.sz i 0) else none else none else none
    | _ => none
  | _, _, _ => none
def evFieldAddr (P : Program) (T : Nat) (x : CV) (j : Nat) : Option CV :=
  match fieldOf P T j with
  | some (o, _) =>
    match x with
    | .ptr b off => some (.ptr b (off + o))
    | .bptr t x off => some (.bptr t x (off + o))
    | .eptr b sz i off => some (.eptr b sz i (off + o))
    | _ => none
  | none => none
def evField (P : Program) (T : Nat) (x : TV) (j : Nat) : Option TV :=
  match fieldOf P T j, x with
  | some (o, ft), .agg cs =>
    match aggT P ft with
    | some g => if o + P.cellsOf ft ≤ cs.length then tvOf g ((cs.drop o).take (P.cellsOf ft)) else none
    | none => none
  | _, _ => none
def isSliceT (P : Program) (T : Nat) : Bool :=
  match P.underlying T with
  | some (.slice _) => true
  | _ => false
def evLen (P : Program) (st : St) (T : Nat) : CV → Option Int
  | .bor _ _ xs => if isSliceT P T = true then some xs.length else none
  | .own b =>
    match st.loc[b]? with
    | some (.row _ _ xs) => if isSliceT P T = true then some xs.length else none
    | _ => none
  | .nil => if isSliceT P T = true then some 0 else none
  | .str s => if isStrT P T = true then some s.size else none
  | _ => none
def newBlk (st : St) (lb : LB) : St := { st with loc := st.loc ++ [lb] }

/-! ### one operation; K: what follows -/
def evOp {R : Type} (P : Program) (Γ : Nat → Option Sig) (o : Oper) (st : St) (K : St → Option R) : Option R :=
  match o.op with
  | .move x | .assign x =>
    match evO st x with
    | some v => K (st.put o.dst v)
    | none => none
  | .pick c a b =>
    match evO st c, evO st a, evO st b with
    | some (.c (.bool t)), some va, some vb => if t = true then K (st.put o.dst va) else K (st.put o.dst vb)
    | _, _, _ => none
  | .binOp op T x y _ =>
    match evO st x, evO st y with
    | some (.c x), some (.c y) =>
      match op, x, y with
      | .quo, .int k a, .int k' b => if k = k' then (if b = 0 then none else K (st.put o.dst (.c (.int k (k.wrap (a.tdiv b)))))) else none
      | .rem, .int k a, .int k' b => if k = k' then (if b = 0 then none else K (st.put o.dst (.c (.int k (a.tmod b))))) else none
      | .shl, .int k a, .int _ b => if b < 0 then none else K (st.put o.dst (.c (.int k (k.wrap (a * 2 ^ min b.toNat k.bits)))))
      | .shr, .int k a, .int _ b => if b < 0 then none else K (st.put o.dst (.c (.int k (a.fdiv (2 ^ min b.toNat k.bits)))))
      | op, x, y =>
        match evBin P T op x y with
        | some v => K (st.put o.dst (.c v))
        | none => none
    | _, _ => none
  | .unOp op _ x =>
    match evO st x with
    | some (.c x) =>
      match evUn op x with
      | some v => K (st.put o.dst (.c v))
      | none => none
    | _ => none
  | .extract t j =>
    match evO st t with
    | some (.tup vs) =>
      match vs[j]? with
      | some (g, cs) =>
        match tvOf g cs with
        | some v => K (st.put o.dst v)
        | none => none
      | none => none
    | _ => none
  | .alloc T =>
    match zeroC P T with
    | some cs => K ((newBlk st (.cells T cs)).put o.dst (.c (.ptr st.loc.length 0)))
    | none => none
  | .box T x =>
    match evO st x with
    | some v =>
      match allCells v with
      | some cs => if cs.all CV.known = true then K ((newBlk st (.cells T cs)).put o.dst (.c (.ptr st.loc.length 0))) else none
      | none => none
    | none => none
  | .load T p =>
    match evO st p with
    | some (.c p) =>
      match evLoad P st T p with
      | some v => K (st.put o.dst v)
      | none => none
    | _ => none
  | .store T p x =>
    match evO st p, evO st x with
    | some (.c p), some v =>
      match evStore P st T p v with
      | some st' => K (st'.put o.dst (.c .un))
      | none => none
    | _, _ => none
  | .fieldAddr T x j =>
    match evO st x with
    | some (.c x) =>
      match evFieldAddr P T x j with
      | some v => K (st.put o.dst (.c v))
      | none => none
    | _ => none
  | .field T x j =>
    match evO st x with
    | some x =>
      match evField P T x j with
      | some v => K (st.put o.dst v)
      | none => none
    | none => none
  | .indexAddr T x i =>
    match evO st x, evO st i with
    | some x, some i =>
      match evIndexAddr P st T x i with
      | some v => K (st.put o.dst (.c v))
      | none => none
    | _, _ => none
  | .call c =>
    match c.callee with
    | .builtin .len =>
      match evOs st c.args.toList, c.argTypes.toList with
      | some [.c x], [T] =>
        match evLen P st T x with
        | some n => K (st.put o.dst (.c (.int .i64 n)))
        | none => none
      | _, _ => none
    | .value f =>
      match evO st f with
      | some (.c (.fn f)) =>
        match Γ f with
        | some s =>
          match evOs st c.args.toList with
          | some vs =>
            match unArgs st.loc s.ps vs with
            | some xs => (s.F xs).bind fun r =>
              match packRes (thaws s.rs r st.loc.length).1 with
              | some v => K (({ st with loc := st.loc ++ (thaws s.rs r st.loc.length).2 } : St).put o.dst v)
              | none => none
            | none => none
          | none => none
        | none => none
      | _ => none
    | _ => none
  | _ => none
def St.know (st : St) (d : Nat) (b : Bool) : St := { st with tm := st.tm.set d (.c (.bool b)) }
/-- The operations in the text's order; of a guard that was tested, the answer is known from then on. -/
def evOps {R : Type} (P : Program) (Γ : Nat → Option Sig) (ops : Array Oper) : List Nat → St → (St → Option R) → Option R
  | [], st, K => K st
  | i :: l, st, K =>
    match ops[i]? with
    | some o =>
      match o.guard with
      | none => evOp P Γ o st (fun st' => evOps P Γ ops l st' K)
      | some (j, want) =>
        match (ops[j]?).bind (·.dst) with
        | some d =>
          match st.tm[d]? with
          | some (.c (.bool b)) =>
            if b = true then
              match want with
              | true => evOp P Γ o (st.know d true) (fun st' => evOps P Γ ops l st' K)
              | false => evOps P Γ ops l ((st.know d true).put o.dst (.c .un)) K
            else
              match want with
              | true => evOps P Γ ops l ((st.know d false).put o.dst (.c .un)) K
              | false => evOp P Γ o (st.know d false) (fun st' => evOps P Γ ops l st' K)
          | _ => none
        | none => none
    | none => none
def knowO (st : St) (x : Operand) (b : Bool) : St :=
  match x with
  | .tmp d => st.know d b
  | _ => st

/-! ### code -/
/-- The first region's number. -/
def key : Code → Nat
  | .region id _ _ => id
  | .seq a _ => key a
  | .block _ c => key c
  | .loop c => key c
  | _ => 0
def refsC : CV → List Nat
  | .own b | .ptr b _ | .eptr b _ _ _ => [b]
  | _ => []
def refsT : TV → List Nat
  | .c v => refsC v
  | .agg cs => cs.flatMap refsC
  | .tup vs => vs.flatMap fun x => x.2.flatMap refsC
def refsL : LB → List Nat
  | .cells _ cs => cs.flatMap refsC
  | _ => []
def reach (loc : List LB) : Nat → List Nat → List Nat → List Nat
  | 0, _, acc => acc
  | _ + 1, [], acc => acc
  | n + 1, b :: l, acc => if b ∈ acc then reach loc n l acc else if b < loc.length then reach loc n (refsL (loc.getD b .dead) ++ l) (acc ++ [b]) else reach loc n l acc
def renC (ord : List Nat) : CV → CV
  | .own b => if b ∈ ord then .own (ord.idxOf b) else .un
  | .ptr b off => if b ∈ ord then .ptr (ord.idxOf b) off else .un
  | .eptr b sz i off => if b ∈ ord then .eptr (ord.idxOf b) sz i off else .un
  | v => v
def renT (ord : List Nat) : TV → TV
  | .c v => .c (renC ord v)
  | .agg cs => .agg (cs.map (renC ord))
  | .tup vs => .tup (vs.map fun x => (x.1, x.2.map (renC ord)))
def renL (ord : List Nat) : LB → LB
  | .cells T cs => .cells T (cs.map (renC ord))
  | lb => lb
/-- At the head of a loop: only the slots that are kept, only the blocks that they lead to, in their order. -/
def clean (keep : List Nat) (st : St) : St :=
  let tm := (st.tm.zipIdx).map fun x => if x.2 ∈ keep then x.1 else .c .un
  let ord := reach st.loc 1000 (tm.flatMap refsT) []
  { tm := tm.map (renT ord), loc := ord.map fun b => renL ord (st.loc.getD b .dead) }
/-- From a list of things to do, till the function's end, or till the head of a loop or a marked region. -/
def seg {R : Type} (P : Program) (Γ : Nat → Option Sig) (fin : St → Option R) (cut : Nat → Bool) (lp : List Item → St → Option R) : Nat → Bool → List Item → St → Option R
  | 0, _, _, _ => none
  | _ + 1, _, [], st => fin st
  | n + 1, f, .code c :: k, st =>
    match c with
    | .skip => seg P Γ fin cut lp n f k st
    | .seq a b => seg P Γ fin cut lp n f (.code a :: .code b :: k) st
    | .cond x a b =>
      match evO st x with
      | some (.c (.bool t)) => if t = true then seg P Γ fin cut lp n false (.code a :: k) (knowO st x true) else seg P Γ fin cut lp n false (.code b :: k) (knowO st x false)
      | _ => none
    | .block id c => seg P Γ fin cut lp n f (.code c :: .inBlock id :: k) st
    | .loop c => lp (.inLoop c :: k) st
    | .exit id =>
      match exitTo id k with
      | some k' => seg P Γ fin cut lp n false k' st
      | none => none
    | .ret => fin st
    | .region id ops draw =>
      if cut id = true ∧ f = false then lp (.code (.region id ops draw) :: k) st
      else if draw = true then none
      else evOps P Γ ops (List.range ops.size) st (fun st' => seg P Γ fin cut lp n false k st')
    | _ => none
  | n + 1, f, .inBlock _ :: k, st => seg P Γ fin cut lp n f k st
  | _ + 1, _, .inLoop c :: k, st => lp (.inLoop c :: k) st
  | _ + 1, _, _, _ => none
def arr : List Item → List Item
  | .inLoop c :: k => .code c :: .inLoop c :: k
  | k => k
def keyOf : List Item → Nat
  | .inLoop c :: _ => key c
  | .code c :: _ => key c
  | _ => 0
/-- j: how many heads are come to at the most. -/
def run {R : Type} (P : Program) (Γ : Nat → Option Sig) (fin : St → Option R) (cut : Nat → Bool) (keep : Nat → List Nat) : Nat → List Item → St → Option R
  | 0, _, _ => none
  | j + 1, k, st => seg P Γ fin cut (fun k' st' => run P Γ fin cut keep j k' (clean (keep (keyOf k')) st')) 2000 true (arr k) st
/-- What is left to do at the head of the loop (or at the region) that has this number. -/
def todoAt (n : Nat) : Code → List Item → Option (List Item)
  | .seq a b, k =>
    match todoAt n a (.code b :: k) with
    | some r => some r
    | none => todoAt n b k
  | .cond _ a b, k =>
    match todoAt n a k with
    | some r => some r
    | none => todoAt n b k
  | .block id c, k => todoAt n c (.inBlock id :: k)
  | .loop c, k => if key c = n then some (.inLoop c :: k) else todoAt n c (.inLoop c :: k)
  | .region id ops draw, k => if id = n then some (.code (.region id ops draw) :: k) else none
  | _, _ => none
def headTodo (n : Nat) (c : Code) : List Item := (todoAt n c []).getD []
end Go.Proofs.Ytceffcfnjjlbkaa.V
