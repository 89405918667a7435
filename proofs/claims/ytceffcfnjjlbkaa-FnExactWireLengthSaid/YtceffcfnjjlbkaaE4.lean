/- The evaluator, 4: an operation's effect; code; a function's run. -/
import Derived.Test.YtceffcfnjjlbkaaE3
namespace Go.Proofs.Ytceffcfnjjlbkaa.E
open Go.RowKit
set_option linter.unusedVariables false
set_option linter.unusedSimpArgs false

/-! ### calls -/
def idsOf : List CV → List Nat
  | [] => []
  | .own b :: l => b :: idsOf l
  | .sub b _ _ _ :: l => b :: idsOf l
  | .inn b _ _ _ _ _ :: l => b :: idsOf l
  | _ :: l => idsOf l
/-- The rows that are changed through these cells. -/
def muId : CV → Option (List Nat)
  | .int _ _ => some []
  | .bool _ => some []
  | .str _ => some []
  | .nil => some []
  | .own b => some [b]
  | .inn b _ (some _) _ _ _ => some [b]
  | _ => none
def muIds : List CV → Option (List Nat)
  | [] => some []
  | c :: l =>
    match muId c, muIds l with
    | some a, some r => some (a ++ r)
    | _, _ => none
/-- The local blocks that a call changes, uses up or gives back. -/
def inout (L : Nat → Option LB) : List PK → List TV → Option (List Nat)
  | [], [] => some []
  | .mu g _ :: ps, v :: vs =>
    match tvCells g v with
    | some cs =>
      match muIds cs, inout L ps vs with
      | some a, some b => some (a ++ b)
      | _, _ => none
    | none => none
  | .mv g t :: ps, v :: vs =>
    match tvCells g v with
    | some cs =>
      match ownIds L noStay t cs, inout L ps vs with
      | some (a, []), some b => some (a ++ b)
      | _, _ => none
    | none => none
  | .ref _ d t :: ps, .c (.ptr b 0) :: vs =>
    match L b with
    | some (.cells _ cs) =>
      match (if d = true then ownIds L noStay t cs else some ([], [])), inout L ps vs with
      | some (a, []), some l => some (b :: (a ++ l))
      | _, _ => none
    | _ => none
  | .val _ _ :: ps, _ :: vs => inout L ps vs
  | .rdp _ _ :: ps, _ :: vs => inout L ps vs
  | .fn _ _ :: ps, _ :: vs => inout L ps vs
  | .arr _ _ :: ps, _ :: vs => inout L ps vs
  | _, _ => none
/-- The local blocks that a call reads. -/
def reads (L : Nat → Option LB) : List PK → List TV → List Nat
  | [], _ => []
  | _, [] => []
  | .val g _ :: ps, v :: vs => (match tvCells g v with | some cs => idsOf cs | none => []) ++ reads L ps vs
  | .rdp _ _ :: ps, .c (.ptr b _) :: vs => (match L b with | some (.cells _ cs) => b :: idsOf cs | _ => []) ++ reads L ps vs
  | .ref _ false _ :: ps, .c (.ptr b _) :: vs => (match L b with | some (.cells _ cs) => idsOf cs | _ => []) ++ reads L ps vs
  | .fn _ _ :: ps, .c (.clo _ caps) :: vs => caps ++ (caps.flatMap fun b => match L b with | some (.cells _ cs) => idsOf cs | _ => []) ++ reads L ps vs
  | _ :: ps, _ :: vs => reads L ps vs
def liveId (L : Nat → Option LB) (b : Nat) : Bool :=
  match L b with
  | some (.row true _ _ _ _) => true
  | some (.cells _ _) => true
  | _ => false
/-- A variable's content, for one that is read. -/
def refRd (L : Nat → Option LB) (T : Nat) (t : Ty) : CV → Option t.den
  | .ptr b 0 =>
    match L b with
    | some (.cells T' cs) =>
      if T' = T then
        match unflat L t cs with
        | some (x, []) => some x
        | _ => none
      else none
    | _ => none
  | _ => none
/-- The captured variables' contents, put behind a function value's arguments. -/
def withCaps (L : Nat → Option LB) : (qs : List PK) → (ps : List VK) → List Nat → Option (vdens ps → dens qs)
  | [], [], [] => some fun _ => ()
  | .val g t :: qs, (g', t') :: ps, caps =>
    if h : g' = g ∧ t' = t then
      match withCaps L qs ps caps with
      | some f => some fun x => (h.2 ▸ x.1, f x.2)
      | none => none
    else none
  | .rdp T t :: qs, [], b :: caps =>
    match refRd L T t (.ptr b 0), withCaps L qs [] caps with
    | some y, some f => some fun x => (y, f x)
    | _, _ => none
  | _, _, _ => none
def resV : (rs : List RK) → (qs : List VK) → Option (rdens rs → vdens qs)
  | [], [] => some fun _ => ()
  | .own g t :: rs, (g', t') :: qs =>
    if h : g = g' ∧ t = t' then
      if t.flatB = true then
        match resV rs qs with
        | some f => some fun x => (h.2 ▸ x.1, f x.2)
        | none => none
      else none
    else none
  | _, _ => none
/-- What a function value computes. -/
def fnDen (Γ : Nat → Option Sig) (L : Nat → Option LB) (ps rs : List VK) : CV → Option (vdens ps → Option (vdens rs))
  | .fn g =>
    match Γ g with
    | some s =>
      match withCaps L s.ps ps [], resV s.rs rs with
      | some f, some h => some fun x => (s.F (f x)).map fun r => h r.2
      | _, _ => none
    | none => none
  | .clo g caps =>
    match Γ g with
    | some s =>
      match withCaps L s.ps ps caps, resV s.rs rs with
      | some f, some h => some fun x => (s.F (f x)).map fun r => h r.2
      | _, _ => none
    | none => none
  | .fnv ps' rs' G => if h : ps' = ps ∧ rs' = rs then some (h.1 ▸ h.2 ▸ G) else none
  | _ => none
/-- The data that is handed over. -/
def argsIn (Γ : Nat → Option Sig) (L : Nat → Option LB) : (ps : List PK) → List TV → Option (dens ps)
  | [], [] => some ()
  | .val g t :: ps, v :: vs =>
    match argRd L g t v, argsIn Γ L ps vs with
    | some x, some r => some (x, r)
    | _, _ => none
  | .mu g t :: ps, v :: vs =>
    match argRd L g t v, argsIn Γ L ps vs with
    | some x, some r => some (x, r)
    | _, _ => none
  | .mv g t :: ps, v :: vs =>
    match argRd L g t v, argsIn Γ L ps vs with
    | some x, some r => some (x, r)
    | _, _ => none
  | .ref T _ t :: ps, .c c :: vs =>
    match refRd L T t c, argsIn Γ L ps vs with
    | some x, some r => some (x, r)
    | _, _ => none
  | .rdp T t :: ps, .c c :: vs =>
    match refRd L T t c, argsIn Γ L ps vs with
    | some x, some r => some (x, r)
    | _, _ => none
  | .fn qs rs :: ps, .c c :: vs =>
    match fnDen Γ L qs rs c, argsIn Γ L ps vs with
    | some x, some r => some (x, r)
    | _, _ => none
  | .arr k n :: ps, .arr k' n' xs :: vs =>
    if k = k' ∧ n = n' then
      match argsIn Γ L ps vs with
      | some r => some (xs, r)
      | none => none
    else none
  | _, _ => none
/-- A row's content has been changed through these cells. -/
def muUpd (L : Nat → Option LB) : (t : Ty) → List CV → t.den → Option (Loc × List CV)
  | .sl e t, cs, ys =>
    match cs with
    | [] => none
    | .nil :: r => some ([], r)
    | .own b :: r =>
      match L b with
      | some (.row true ep e' t' _) =>
        if e' = e then
          match cast? (t := t) (t' := t') ys with
          | some zs => some ([(b, .row true (ep + 1) e' t' zs)], r)
          | none => none
        else none
      | _ => none
    | .inn b ep (some (sz, i, off)) e0 t0 _ :: r =>
      match L b with
      | some (.row true ep' e' t' zs) =>
        if ep = ep' ∧ sz = t'.sz ∧ t0 = t then
          match (flat t' (zs.getD i.toNat t'.z))[off]? with
          | some (.bor e1 t1 _) =>
            if e1 = e ∧ t1 = t then
              match unflat (fun _ => none) t' (splice (flat t' (zs.getD i.toNat t'.z)) off [.bor e t ys]) with
              | some (x, []) => some ([(b, .row true (ep + 1) e' t' (zs.set i.toNat x))], r)
              | _ => none
            else none
          | _ => none
        else none
      | _ => none
    | _ => none
  | .pair a b, cs, x =>
    match muUpd L a cs x.1 with
    | some (u, r) =>
      match muUpd L b r x.2 with
      | some (u', r') => some (u ++ u', r')
      | none => none
    | none => none
  | _, cs, _ =>
    match cs with
    | [] => none
    | _ :: r => some ([], r)
/-- What the call has made of the blocks it was handed; m: the first free name. -/
def outUpd (L : Nat → Option LB) : (ps : List PK) → List TV → outs ps → Nat → Option (Loc × Nat)
  | [], [], _, m => some ([], m)
  | .mu g t :: ps, v :: vs, o, m =>
    match tvCells g v with
    | some cs =>
      match muUpd L t cs o.1 with
      | some (u, []) =>
        match outUpd L ps vs o.2 m with
        | some (u', m') => some (u ++ u', m')
        | none => none
      | _ => none
    | none => none
  | .mv g t :: ps, v :: vs, o, m =>
    match tvCells g v with
    | some cs =>
      match ownIds L noStay t cs, outUpd L ps vs o m with
      | some (ids, []), some (u', m') => some (kills ids ++ u', m')
      | _, _ => none
    | none => none
  | .ref T d t :: ps, .c (.ptr b 0) :: vs, o, m =>
    match L b with
    | some (.cells _ cs) =>
      if d = true then
        match ownIds L noStay t cs, outUpd L ps vs o.2 (m + (thaw t o.1 m).2.length) with
        | some (ids, []), some (u', m') => some ((b, .cells T (thaw t o.1 m).1) :: ((thaw t o.1 m).2 ++ kills ids ++ u'), m')
        | _, _ => none
      else
        match outUpd L ps vs o.2 m with
        | some (u', m') => some ((b, .cells T (flat t o.1)) :: u', m')
        | none => none
    | _ => none
  | .val _ _ :: ps, _ :: vs, o, m => outUpd L ps vs o m
  | .rdp _ _ :: ps, _ :: vs, o, m => outUpd L ps vs o m
  | .fn _ _ :: ps, _ :: vs, o, m => outUpd L ps vs o m
  | .arr _ _ :: ps, _ :: vs, o, m => outUpd L ps vs o m
  | _, _, _, _ => none
/-- A call's results, named from m on. -/
def resUpd : (rs : List RK) → rdens rs → Nat → Option (List (Bool × List CV) × Loc)
  | [], _, _ => some ([], [])
  | .own g t :: rs, x, m =>
    match resUpd rs x.2 (m + (thaw t x.1 m).2.length) with
    | some (cs, u) => some ((g, (thaw t x.1 m).1) :: cs, (thaw t x.1 m).2 ++ u)
    | none => none
  | .shr g t :: rs, x, m =>
    match resUpd rs x.2 m with
    | some (cs, u) => some ((g, flat t x.1) :: cs, u)
    | none => none
  | .ptr T d t :: rs, x, m =>
    if d = true then
      match resUpd rs x.2 (m + 1 + (thaw t x.1 (m + 1)).2.length) with
      | some (cs, u) => some ((false, [.ptr m 0]) :: cs, (m, .cells T (thaw t x.1 (m + 1)).1) :: ((thaw t x.1 (m + 1)).2 ++ u))
      | none => none
    else
      match resUpd rs x.2 (m + 1) with
      | some (cs, u) => some ((false, [.ptr m 0]) :: cs, (m, .cells T (flat t x.1)) :: u)
      | none => none
  | .arr _ _ :: _, _, _ => none
def packRes : List (Bool × List CV) → Option TV
  | [(g, cs)] => tvOf g cs
  | l => some (.tup l)
def resTV : (rs : List RK) → rdens rs → Nat → Option (TV × Loc)
  | [.arr k n], x, _ => some (.arr k n x.1, [])
  | rs, x, m =>
    match resUpd rs x m with
    | some (cs, u) =>
      match packRes cs with
      | some v => some (v, u)
      | none => none
    | none => none
def hasShr : List RK → Bool
  | [] => false
  | .shr _ _ :: _ => true
  | .ptr _ false t :: l => !t.flatB || hasShr l
  | _ :: l => hasShr l
def refShr : List PK → Bool
  | [] => false
  | .ref _ false t :: l => !t.flatB || refShr l
  | _ :: l => refShr l
/-- Which names a call may use. -/
def callOk (L : Nat → Option LB) (s : Sig) (vs : List TV) : Bool :=
  match inout L s.ps vs with
  | some ids => ids.Nodup && ids.all (liveId L) && (reads L s.ps vs).all (fun b => b ∉ ids) && (if hasShr s.rs || refShr s.ps then (reads L s.ps vs).isEmpty else true)
  | none => false
def vargs (L : Nat → Option LB) : (ps : List VK) → List TV → Option (vdens ps)
  | [], [] => some ()
  | p :: ps, v :: vs =>
    match argRd L p.1 p.2 v, vargs L ps vs with
    | some x, some r => some (x, r)
    | _, _ => none
  | _, _ => none
def vres : (rs : List VK) → vdens rs → List (Bool × List CV)
  | [], _ => []
  | p :: rs, x => (p.1, flat p.2 x.1) :: vres rs x.2

/-! ### one operation -/
def bt (s : ByteArray) (i : Int) : Int := ((s.data.toList.getD i.toNat 0).toNat : Int)
def intOp (T : Nat → Option TV) : Option Operand → Option (Option Int)
  | none => some none
  | some x =>
    match evO T x with
    | some (.c (.int _ n)) => some (some n)
    | _ => none
def ints : List TV → Option (List Int)
  | [] => some []
  | .c (.int .i64 a) :: l =>
    match ints l with
    | some r => some (a :: r)
    | none => none
  | _ => none
def mx2 (a b : Int) : Int := if b > a then b else a
def mn2 (a b : Int) : Int := if b < a then b else a
def buildC (P : Program) (T : Nat) : List (Nat × List CV) → List CV → Option (List CV)
  | [], cs => some cs
  | (j, sg) :: l, cs =>
    match fieldOf P T j with
    | some (off, ft) => if sg.length = P.cellsOf ft ∧ off + sg.length ≤ cs.length ∧ sg.all CV.known = true then buildC P T l (splice cs off sg) else none
    | none => none
def capIds : List TV → Option (List Nat)
  | [] => some []
  | .c (.ptr b 0) :: l =>
    match capIds l with
    | some r => some (b :: r)
    | none => none
  | _ => none
def evCall {R : Type} (Γ : Nat → Option Sig) (T : Nat → Option TV) (L : Nat → Option LB) (d : Nat) (f : CV) (vs : List TV) (K : Eff → Option R) : Option R :=
  match f with
  | .fn g =>
    match Γ g with
    | some s =>
      if callOk L s vs = true then
        match argsIn Γ L s.ps vs with
        | some xs => (s.F xs).bind fun r =>
          match outUpd L s.ps vs r.1 (64 * d) with
          | some (u, m) =>
            match resTV s.rs r.2 m with
            | some (v, u') => if m + u'.length ≤ 64 * d + 64 then K ⟨v, u ++ u'⟩ else none
            | none => none
          | none => none
        | none => none
      else none
    | none => none
  | .fnv ps rs G =>
    match vargs L ps vs with
    | some xs => (G xs).bind fun r =>
      match packRes (vres rs r) with
      | some v => K ⟨v, []⟩
      | none => none
    | none => none
  | _ => none
def consO : Option Nat → List Nat → List Nat
  | none, l => l
  | some b, l => b :: l
/-- A row's new elements' bytes are bounded. -/
def evAppend {R : Type} (P : Program) (L : Nat → Option LB) (d : Nat) (T : Nat) (s x : TV) (K : Eff → Option R) : Option R :=
  match rowInfo P T with
  | some (e, t, bytes) =>
    match appTo L e t s with
    | some (k, dp, xs) =>
      match appEd L e t k dp x with
      | some (ids, dp', ys) =>
        if (xs.length + ys.length) * bytes ≤ 140737488355328 then K ⟨.c (.own (64 * d)), (64 * d, .row dp' 0 e t (xs ++ ys)) :: kills (consO k ids)⟩ else none
      | none => none
    | none => none
  | none => none
def evLit {R : Type} (P : Program) (T : Nat → Option TV) (L : Nat → Option LB) (d : Nat) (E len : Nat) (parts : List (Nat × Operand)) (K : Eff → Option R) : Option R :=
  match rowInfo P E with
  | some (e, t, _) =>
    match zeroC P e, evParts T parts with
    | some zc, some ps =>
      if len * t.sz ≤ 16777216 then
        match litC t.sz ps (List.replicate len zc).flatten with
        | some cs =>
          match unflatN L t len cs with
          | some (xs, []) =>
            if t.flatB = true then K ⟨.c (.own (64 * d)), [(64 * d, .row true 0 e t xs)]⟩
            else
              match ownIdsN L t len cs with
              | some (ids, []) => if ids.Nodup then K ⟨.c (.own (64 * d)), (64 * d, .row true 0 e t xs) :: kills ids⟩ else none
              | _ => if cs.all CV.still = true then K ⟨.c (.own (64 * d)), [(64 * d, .row false 0 e t xs)]⟩ else none
          | _ => none
        | none => none
      else none
    | _, _ => none
  | none => none
def evCopy {R : Type} (P : Program) (L : Nat → Option LB) (T : Nat) (dst src : TV) (K : Eff → Option R) : Option R :=
  match rowInfo P T with
  | some (e, t, _) =>
    if t.flatB = true ∧ t.sz = 1 then
      match dst, src with
      | .c (.own b), .c s =>
        match L b, rdSl L t s with
        | some (.row dp ep e' t' xs), some ys =>
          if e' = e ∧ b ∉ idsOf [s] then
            match cast? (t := t) (t' := t') ys with
            | some zs => K ⟨.c (.int .i64 (min zs.length xs.length : Nat)), [(b, .row dp (ep + 1) e' t' (zs.take xs.length ++ xs.drop zs.length))]⟩
            | none => none
          else none
        | _, _ => none
      | .c (.sub b sz lo hi), .c s =>
        match L b, rdSl L t s with
        | some (.row dp ep e' t' xs), some ys =>
          if e' = e ∧ t'.sz = sz ∧ b ∉ idsOf [s] then
            match cast? (t := t) (t' := t') ys with
            | some zs => K ⟨.c (.int .i64 (min zs.length (hi - lo).toNat : Nat)), [(b, .row dp (ep + 1) e' t' (xs.take lo.toNat ++ zs.take (hi - lo).toNat ++ xs.drop (lo.toNat + min zs.length (hi - lo).toNat)))]⟩
            | none => none
          else none
        | _, _ => none
      | _, _ => none
    else none
  | none => none
def isCellT (P : Program) (E : Nat) : Bool :=
  match tk P E with
  | some .cell => true
  | _ => false
def placesB (P : Program) (E : Nat) : Bool :=
  match P.underlying E with
  | some (.struct fs) => fs.toList.all fun f => (P.info? f.type).isSome
  | _ => false
def evEff {R : Type} (P : Program) (Γ : Nat → Option Sig) (T : Nat → Option TV) (L : Nat → Option LB) (nid : Nat) (o : Oper) (K : Eff → Option R) : Option R :=
  match o.op with
  | .move x =>
    match evO T x with
    | some v => K ⟨v, []⟩
    | none => none
  | .assign x =>
    match evO T x with
    | some v => K ⟨v, []⟩
    | none => none
  | .pick c a b =>
    match evO T c, evO T a, evO T b with
    | some (.c (.bool t)), some va, some vb => if t = true then K ⟨va, []⟩ else K ⟨vb, []⟩
    | _, _, _ => none
  | .binOp op E x y _ =>
    match evO T x, evO T y with
    | some (.c x), some (.c y) =>
      match op, x, y with
      | .quo, .int k a, .int k' b => if k = k' then (if b = 0 then none else K ⟨.c (.int k (k.wrap (a.tdiv b))), []⟩) else none
      | .rem, .int k a, .int k' b => if k = k' then (if b = 0 then none else K ⟨.c (.int k (a.tmod b)), []⟩) else none
      | .shl, .int k a, .int _ b => if b < 0 then none else K ⟨.c (.int k (k.wrap (a * 2 ^ min b.toNat k.bits))), []⟩
      | .shr, .int k a, .int _ b => if b < 0 then none else K ⟨.c (.int k (a.fdiv (2 ^ min b.toNat k.bits))), []⟩
      | op, x, y =>
        match evBin P E op x y with
        | some v => K ⟨.c v, []⟩
        | none => none
    | _, _ => none
  | .unOp op _ x =>
    match evO T x with
    | some (.c x) =>
      match evUn op x with
      | some v => K ⟨.c v, []⟩
      | none => none
    | _ => none
  | .extract t j =>
    match evO T t with
    | some (.tup vs) =>
      match vs[j]? with
      | some (g, cs) =>
        match tvOf g cs with
        | some v => K ⟨v, []⟩
        | none => none
      | none => none
    | _ => none
  | .alloc E =>
    match tk P E with
    | some (.arr k n) => 
        match zeroC P E with
        | some cs => if (cs.length = n ∧ (cs.all fun c => match c with | .int k' m => decide (k' = k) && decide (m = 0) | _ => false) = true) then K ⟨.c (.ptr (64 * nid) 0), [(64 * nid, .arr E k n (List.replicate n 0))]⟩ else none
        | none => none
    | some _ =>
      match zeroC P E with
      | some cs => K ⟨.c (.ptr (64 * nid) 0), [(64 * nid, .cells E cs)]⟩
      | none => none
    | none => none
  | .box E x =>
    match evO T x with
    | some (.arr k n xs) => K ⟨.c (.ptr (64 * nid) 0), [(64 * nid, .arr E k n xs)]⟩
    | some v =>
      match allCells v with
      | some cs => if cs.all CV.known = true then K ⟨.c (.ptr (64 * nid) 0), [(64 * nid, .cells E cs)]⟩ else none
      | none => none
    | none => none
  | .build E parts =>
    match tk P E, evParts T parts.toList, zeroC P E with
    | some .agg, some ps, some cs =>
      match buildC P E ps cs with
      | some cs' => if placesB P E = true then K ⟨.agg cs', []⟩ else none
      | none => none
    | _, _, _ => none
  | .buildSlice E len parts => evLit P T L nid E len parts.toList K
  | .load E p =>
    match evO T p with
    | some (.c p) =>
      match evLoad P L E p with
      | some v => K ⟨v, []⟩
      | none => none
    | _ => none
  | .store E p x =>
    match evO T p, evO T x with
    | some (.c p), some v =>
      match evStore P L E p v with
      | some u => K ⟨.c .un, u⟩
      | none => none
    | _, _ => none
  | .fieldAddr E x j =>
    match evO T x with
    | some (.c x) =>
      match evFieldAddr P E x j with
      | some v => K ⟨.c v, []⟩
      | none => none
    | _ => none
  | .field E x j =>
    match evO T x with
    | some x =>
      match evField P E x j with
      | some v => K ⟨v, []⟩
      | none => none
    | none => none
  | .indexAddr E x i =>
    match evO T x, evO T i with
    | some x, some i =>
      match evIndexAddr P L E x i with
      | some (v, i, n) => if 0 ≤ i then if i < n then K ⟨.c v, []⟩ else none else none
      | none => none
    | _, _ => none
  | .index E x i =>
    match P.underlying E, evO T x, evO T i with
    | some (.array n e), some (.arr k n' xs), some (.c (.int _ i)) => if n = n' ∧ P.cellsOf e = 1 ∧ isCellT P e = true then (if 0 ≤ i then if i < (n : Int) then K ⟨.c (.int k (xs.getD i.toNat 0)), []⟩ else none else none) else none
    | some .string, some (.c (.str s)), some (.c (.int _ i)) => if 0 ≤ i then if i < (s.size : Int) then K ⟨.c (.int .u8 (bt s i)), []⟩ else none else none
    | _, _, _ => none
  | .makeSlice E x y =>
    match rowInfo P E with
    | some (e, t, bytes) =>
      match evO T x, evO T y, zeroD P e t with
      | some (.c (.int .i64 n)), some (.c (.int .i64 m)), some z =>
        if sameOp x y = true then
          if 0 ≤ n then
            if n.toNat * bytes ≤ 281474976710656 then K ⟨.c (.own (64 * nid)), [(64 * nid, .row true 0 e t (List.replicate n.toNat z))]⟩ else none
          else none
        else if 0 ≤ n then
          if n ≤ m then
            if m.toNat * bytes ≤ 281474976710656 then K ⟨.c (.own (64 * nid)), [(64 * nid, .row true 0 e t (List.replicate n.toNat z))]⟩ else none
          else none
        else none
      | _, _, _ => none
    | none => none
  | .slice E x lo hi mx =>
    match P.underlying E, evO T x, intOp T lo, intOp T hi, intOp T mx with
    | some (.slice e), some (.c c), some lo, some hi, some mx =>
      match evLen P L E c with
      | some n =>
        match evSlice P L e (lo.getD 0) (hi.getD n) c with
        | some r =>
          match lo, hi, mx with
          | none, none, none => K ⟨.c r, []⟩
          | some l, none, none => if 0 ≤ l then if l ≤ n then K ⟨.c r, []⟩ else none else none
          | none, some h, none => if 0 ≤ h then if h ≤ n then K ⟨.c r, []⟩ else none else none
          | some l, some h, none => if 0 ≤ l then if l ≤ h then if h ≤ n then K ⟨.c r, []⟩ else none else none else none
          | none, some h, some m => if 0 ≤ h then if h ≤ m then if m ≤ n then K ⟨.c r, []⟩ else none else none else none
          | some l, some h, some m => if 0 ≤ l then if l ≤ h then if h ≤ m then if m ≤ n then K ⟨.c r, []⟩ else none else none else none else none
          | _, _, _ => none
        | none => none
      | none => none
    | some .string, some (.c (.str s)), some lo, some hi, some none =>
      if 0 ≤ lo.getD 0 then if lo.getD 0 ≤ hi.getD s.size then if hi.getD s.size ≤ s.size then K ⟨.c (.str (s.extract (lo.getD 0).toNat (hi.getD s.size).toNat)), []⟩ else none else none else none
    | _, _, _, _, _ => none
  | .convert src dst x =>
    match P.underlying src, P.underlying dst, evO T x with
    | some _, some (.int k), some (.c (.int _ n)) => K ⟨.c (.int k (k.wrap n)), []⟩
    | _, _, _ => none
  | .makeFunc (.func f) fs cap =>
    match fs.toList, evOs T cap.toList with
    | [], some [] => K ⟨.c (.fn f), []⟩
    | [], some vs =>
      match capIds vs with
      | some ids => K ⟨.c (.clo f ids), []⟩
      | none => none
    | _, _ => none
  | .call c =>
    match c.callee with
    | .builtin .append =>
      match c.argTypes.toList, evOs T c.args.toList with
      | [E, E'], some [s, x] => if E' = E then evAppend P L nid E s x K else none
      | _, _ => none
    | .builtin .copy =>
      match c.argTypes.toList, evOs T c.args.toList with
      | [E, E'], some [s, x] => if E' = E then evCopy P L E s x K else none
      | _, _ => none
    | .builtin .len =>
      match c.argTypes.toList, evOs T c.args.toList with
      | [E], some [.c x] =>
        match evLen P L E x with
        | some n => K ⟨.c (.int .i64 n), []⟩
        | none => none
      | _, _ => none
    | .builtin .max =>
      match evOs T c.args.toList with
      | some vs =>
        match ints vs with
        | some (n :: l) => K ⟨.c (.int .i64 (l.foldl mx2 n)), []⟩
        | _ => none
      | none => none
    | .builtin .min =>
      match evOs T c.args.toList with
      | some vs =>
        match ints vs with
        | some (n :: l) => K ⟨.c (.int .i64 (l.foldl mn2 n)), []⟩
        | _ => none
      | none => none
    | .value f =>
      match evO T f, evOs T c.args.toList with
      | some (.c f), some vs => evCall Γ T L nid f vs K
      | _, _ => none
    | _ => none
  | _ => none
end Go.Proofs.Ytceffcfnjjlbkaa.E
