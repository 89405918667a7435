/- The evaluator, 1: the values it computes with, and what they say of the machine's values and of its memory. -/
import Derived.Test.YtceffcfnjjlbkaaE0
namespace Go.Proofs.Ytceffcfnjjlbkaa.E
open Go.RowKit
set_option linter.unusedVariables false
set_option linter.unusedSimpArgs false

/-! ### parameters and results -/
abbrev VK := Bool × Ty
@[reducible] def vdens : List VK → Type
  | [] => Unit
  | p :: l => p.2.den × vdens l
/-- A parameter: a value that is read; one whose rows are changed where they lie; one that is handed over for good; a variable by its address (its type; is what it leads to its own?); such a variable that is only read; a function value; an array of whole numbers. -/
inductive PK where
  | val (g : Bool) (t : Ty)
  | mu (g : Bool) (t : Ty)
  | mv (g : Bool) (t : Ty)
  | ref (T : Nat) (d : Bool) (t : Ty)
  | rdp (T : Nat) (t : Ty)
  | fn (ps rs : List VK)
  | arr (k : IntKind) (n : Nat)
@[reducible] def PK.den : PK → Type
  | .val _ t => t.den
  | .mu _ t => t.den
  | .mv _ t => t.den
  | .ref _ _ t => t.den
  | .rdp _ t => t.den
  | .fn ps rs => vdens ps → Option (vdens rs)
  | .arr _ _ => List Int
/-- A result: new data; data that is shared; the address of a new variable; an array. -/
inductive RK where
  | own (g : Bool) (t : Ty)
  | shr (g : Bool) (t : Ty)
  | ptr (T : Nat) (d : Bool) (t : Ty)
  | arr (k : IntKind) (n : Nat)
@[reducible] def RK.den : RK → Type
  | .own _ t => t.den
  | .shr _ t => t.den
  | .ptr _ _ t => t.den
  | .arr _ _ => List Int
@[reducible] def dens : List PK → Type
  | [] => Unit
  | p :: l => p.den × dens l
@[reducible] def rdens : List RK → Type
  | [] => Unit
  | p :: l => p.den × rdens l
/-- What the parameters hold in the end, of those that are changed. -/
@[reducible] def outs : List PK → Type
  | [] => Unit
  | .mu _ t :: l => t.den × outs l
  | .ref _ _ t :: l => t.den × outs l
  | .val _ _ :: l => outs l
  | .mv _ _ :: l => outs l
  | .rdp _ _ :: l => outs l
  | .fn _ _ :: l => outs l
  | .arr _ _ :: l => outs l
structure Sig where
  ps : List PK
  rs : List RK
  F : dens ps → Option (outs ps × rdens rs)

/-! ### the evaluator's values -/
/-- What one cell holds: a scalar; nil; a slice that is only read and stays as it is; the slice that is the local row b; elements lo to hi of it; a slice inside the local row b (its state, and where it lies: the elements' size, element, cell); a pointer to cell 'off' of the local variable b; to cell 'off' of element i of the local row b; to element i of the local array b; to cell 'off' of an element that is only read; a function; a closure over local variables; a function value that came in; nothing known. -/
inductive CV where
  | int (k : IntKind) (n : Int)
  | bool (b : Bool)
  | str (s : ByteArray)
  | nil
  | bor (e : Nat) (t : Ty) (xs : List t.den)
  | own (b : Nat)
  | sub (b sz : Nat) (lo hi : Int)
  | inn (b ep : Nat) (p : Option (Nat × Int × Nat)) (e : Nat) (t : Ty) (xs : List t.den)
  | ptr (b : Nat) (off : Nat)
  | eptr (b sz : Nat) (i : Int) (off : Nat)
  | aptr (b n : Nat) (i : Int)
  | bptr (t : Ty) (x : t.den) (off : Nat)
  | fn (f : Nat)
  | clo (f : Nat) (caps : List Nat)
  | fnv (ps rs : List VK) (G : vdens ps → Option (vdens rs))
  | mp (b : Nat)
  | un
inductive TV where
  | c (v : CV)
  | agg (cs : List CV)
  | arr (k : IntKind) (n : Nat) (xs : List Int)
  | tup (vs : List (Bool × List CV))
/-- A block of the call's own: a variable; a row (is what its elements lead to its own? its state); a row that stays as it is from now on; an array; a map from numbers to true; one that is gone. -/
inductive LB where
  | cells (T : Nat) (cs : List CV)
  | row (d : Bool) (ep : Nat) (e : Nat) (t : Ty) (xs : List t.den)
  | sett (e : Nat) (t : Ty) (xs : List t.den)
  | arr (T : Nat) (k : IntKind) (n : Nat) (xs : List Int)
  | mp (T : Nat) (ks : List Int)
  | dead
def LB.alive : LB → Bool
  | .dead => false
  | _ => true
abbrev Loc := List (Nat × LB)
def lget : Loc → Nat → Option LB
  | [], _ => none
  | x :: l, b => bif Nat.beq x.1 b then some x.2 else lget l b
structure St where
  tm : List TV
  loc : Loc
def tget : List TV → Nat → Option TV
  | [], _ => none
  | v :: l, n => match n with
    | 0 => some v
    | n + 1 => tget l n
theorem tget_eq : ∀ (l : List TV) (n : Nat), tget l n = l[n]?
  | [], n => by simp [tget]
  | v :: l, 0 => rfl
  | v :: l, n + 1 => by simp [tget, tget_eq l n]
theorem lget_append : ∀ (u l : Loc) (b : Nat), lget (u ++ l) b = (lget u b).or (lget l b)
  | [], l, b => by simp [lget]
  | x :: u, l, b => by
    simp only [List.cons_append, lget]
    cases h : Nat.beq x.1 b with
    | true => rfl
    | false => exact lget_append u l b
theorem lget_none_of {l : Loc} {b : Nat} (h : b ∉ l.map (·.1)) : lget l b = none := by
  induction l with
  | nil => rfl
  | cons x l ih =>
    simp only [List.map_cons, List.mem_cons, not_or] at h
    simp only [lget]
    rw [show Nat.beq x.1 b = false by
      cases hb : Nat.beq x.1 b with
      | false => rfl
      | true => exact absurd (Nat.eq_of_beq_eq_true hb).symm h.1]
    exact ih h.2
theorem lget_mem {l : Loc} {b : Nat} {lb : LB} (h : lget l b = some lb) : b ∈ l.map (·.1) := by
  cases hb : decide (b ∈ l.map (·.1)) with
  | true => exact of_decide_eq_true hb
  | false =>
    rw [lget_none_of (of_decide_eq_false hb)] at h
    cases h
theorem lget_isSome {l : Loc} {b : Nat} (h : b ∈ l.map (·.1)) : ∃ lb, lget l b = some lb := by
  induction l with
  | nil => cases h
  | cons x l ih =>
    simp only [lget]
    cases hb : Nat.beq x.1 b with
    | true => exact ⟨_, rfl⟩
    | false =>
      rcases List.mem_cons.1 h with rfl | h
      · rw [Nat.beq_refl] at hb
        cases hb
      · exact ih h
/-- The cells of plain data that is only read. -/
def flat : (t : Ty) → t.den → List CV
  | .int k, n => [.int k n]
  | .bool, b => [.bool b]
  | .str, s => [.str s]
  | .sl e t, xs => [.bor e t xs]
  | .pair a b, x => flat a x.1 ++ flat b x.2
theorem flat_length : ∀ (t : Ty) (x : t.den), (flat t x).length = t.sz
  | .int _, _ => rfl
  | .bool, _ => rfl
  | .str, _ => rfl
  | .sl _ _, _ => rfl
  | .pair a b, x => by show (flat a x.1 ++ flat b x.2).length = a.sz + b.sz; rw [List.length_append, flat_length a, flat_length b]

/-! ### what they say of the machine -/
structure Cx where
  w : World
  S : Nat → Prop
  S0 : Nat → Prop
  ρ : Nat → Value
  φ : Nat → Nat → Prop
def Pack (g : Bool) (cs : List Value) (v : Value) : Prop := if g = true then v = .agg cs.toArray else cs = [v]
/-- Values that are handed to a function value and come back from it. -/
def VVals (S : Nat → Prop) (w : World) : (ps : List VK) → vdens ps → List Value → Prop
  | [], _, vs => vs = []
  | p :: ps, x, vs => ∃ v vs' cs, vs = v :: vs' ∧ Pack p.1 cs v ∧ Rd S w p.2 x.1 cs ∧ VVals S w ps x.2 vs'
def Ret (us : List Value) (e : Ending) : Prop := (∃ v, us = [v] ∧ e = .returned v) ∨ (us.length ≠ 1 ∧ e = .returned (.tuple us.toArray))
/-- A function value computes G in whatever world in which S is as it was. -/
def FnVal (P : Program) (S : Nat → Prop) (w : World) (ps rs : List VK) (G : vdens ps → Option (vdens rs)) (v : Value) : Prop :=
  ∃ (g : Nat) (fs cap : Array Value), v = .func (.func g) fs cap ∧ (∀ args w, (callFunc g args).run P w = .ok (.enter g args) w) ∧
    ∀ xs r, G xs = some r → ∀ (w' : World), w.heap.size ≤ w'.heap.size → (∀ k, S k → w'.heap[k]? = w.heap[k]?) → ∀ (S' : Nat → Prop) (vs : List Value), VVals S' w' ps xs vs →
      Calls P g (fs ++ vs.toArray ++ cap) w' (fun e w'' => ∃ us, VVals (fun _ => False) w'' rs r us ∧ Ret us e ∧ Below w'.heap.size w' w'')
section
variable (P : Program) (M : Nat → Prop) (wE : World)
/-- The blocks that the elements of row b lead to. -/
def inner (C : Cx) (b k : Nat) : Prop := C.S k ∨ (C.φ b k ∧ (C.ρ b).ownBlock ≠ some k)
/-- Cell (size, element, cell) of row b holds v. -/
def AtCell (C : Cx) (b : Nat) (q : Nat × Int × Nat) (v : Value) : Prop :=
  ∃ g o n c, C.ρ b = .slice (some ⟨g, o, none⟩) n c ∧ C.φ b g ∧ 0 ≤ q.2.1 ∧ q.2.1.toNat < n ∧ C.w.cell? ⟨g, o + q.2.1.toNat * q.1 + q.2.2, none⟩ = some v
/-- What one cell holds, said of the machine's value. -/
def RC (C : Cx) (loc : Loc) : CV → Value → Prop
  | .int k n, v => v = .int k n
  | .bool b, v => v = .bool b
  | .str s, v => v = .string s
  | .nil, v => v = .slice none 0 0
  | .bor e t xs, v => Rd C.S C.w (.sl e t) xs [v]
  | .own b, v => ∃ lb, lget loc b = some lb ∧ (∃ A n c, v = .slice A n c) ∧ (lb.alive = true → v = C.ρ b)
  | .sub b sz lo hi, v => ∃ lb, lget loc b = some lb ∧ (∃ A n c, v = .slice A n c) ∧ (lb.alive = true → ∃ A n c c' A', C.ρ b = .slice A n c ∧ 0 ≤ lo ∧ lo ≤ hi ∧ hi ≤ (n : Int) ∧ (hi - lo).toNat ≤ c' ∧ lo.toNat + c' ≤ c ∧
      v = .slice A' (hi - lo).toNat c' ∧ (0 < c' → A' = A.map (·.add (lo.toNat * sz))))
  | .inn b ep p e t xs, v => ∃ lb, lget loc b = some lb ∧ (∃ A n c, v = .slice A n c) ∧ ∀ d ep' e' t' (ys : List t'.den), lb = .row d ep' e' t' ys → ep ≤ ep' ∧ (ep = ep' → Rd (inner C b) C.w (.sl e t) xs [v] ∧ ∀ q, p = some q → AtCell C b q v)
  | .ptr b off, v => ∃ lb, lget loc b = some lb ∧ (∃ ad : Addr, v = .pointer (some ad)) ∧ (lb.alive = true → ∃ g, C.ρ b = .pointer (some ⟨g, 0, none⟩) ∧ v = .pointer (some ⟨g, off, none⟩))
  | .eptr b sz i off, v => ∃ lb, lget loc b = some lb ∧ (∃ ad : Addr, v = .pointer (some ad)) ∧ (lb.alive = true → ∃ g o n c, C.ρ b = .slice (some ⟨g, o, none⟩) n c ∧ 0 ≤ i ∧ i.toNat < n ∧ v = .pointer (some ⟨g, o + i.toNat * sz + off, none⟩))
  | .aptr b n i, v => ∃ lb, lget loc b = some lb ∧ (∃ ad : Addr, v = .pointer (some ad)) ∧ (lb.alive = true → ∃ g, C.ρ b = .pointer (some ⟨g, 0, none⟩) ∧ 0 ≤ i ∧ i.toNat < n ∧ v = .pointer (some ⟨g, i.toNat, none⟩))
  | .bptr t x off, v => ∃ (ad : Addr) (c : List Value), v = .pointer (some (ad.add off)) ∧ Rd C.S C.w t x c ∧ (∀ j u, c[j]? = some u → C.w.cell? (ad.add j) = some u) ∧ C.S ad.block
  | .fn f, v => v = .func (.func f) #[] #[]
  | .clo f caps, v => ∃ us : List Value, v = .func (.func f) #[] us.toArray ∧ us.length = caps.length ∧ ∀ (j b : Nat) (u : Value), caps[j]? = some b → us[j]? = some u → ∃ lb, lget loc b = some lb ∧ (∃ ad : Addr, u = .pointer (some ad)) ∧ (lb.alive = true → ∃ g, C.ρ b = .pointer (some ⟨g, 0, none⟩) ∧ u = .pointer (some ⟨g, 0, none⟩))
  | .fnv ps rs G, v => FnVal P C.S C.w ps rs G v
  | .mp b, v => ∃ lb, lget loc b = some lb ∧ (∃ r : Option Nat, v = .map r) ∧ (lb.alive = true → v = C.ρ b)
  | .un, _ => True
def RCs (C : Cx) (loc : Loc) (cs : List CV) (vs : List Value) : Prop := cs.length = vs.length ∧ ∀ (j : Nat) (c : CV) (v : Value), cs[j]? = some c → vs[j]? = some v → RC P C loc c v
/-- One component: a single cell, or a struct. -/
def R1 (C : Cx) (loc : Loc) (x : Bool × List CV) (v : Value) : Prop := ∃ vs, RCs P C loc x.2 vs ∧ Pack x.1 vs v
def RV (C : Cx) (loc : Loc) : TV → Value → Prop
  | .c x, v => RC P C loc x v
  | .agg cs, v => ∃ vs, RCs P C loc cs vs ∧ v = .agg vs.toArray
  | .arr k n xs, v => xs.length = n ∧ v = .agg (xs.map (Value.int k)).toArray
  | .tup xs, v => ∃ us : List Value, v = .tuple us.toArray ∧ xs.length = us.length ∧ ∀ (j : Nat) x u, xs[j]? = some x → us[j]? = some u → R1 P C loc x u
/-- A row of one's own whose elements lead to blocks that stay. -/
def OwnSh (S : Nat → Prop) (w : World) (e : Nat) (t : Ty) (xs : List t.den) (v : Value) (φ : Nat → Prop) : Prop :=
  (v = .slice none 0 0 ∧ xs = []) ∨ ∃ (g o c : Nat) (cur : List Value), v = .slice (some ⟨g, o, none⟩) xs.length c ∧ blk w g cur e ∧ xs.length ≤ c ∧ c ≤ maxLen ∧ o + c * t.sz ≤ cur.length ∧ φ g ∧
      ∀ i x, xs[i]? = some x → Rd S w t x ((cur.drop (o + i * t.sz)).take t.sz)
def mapEntries (ks : List Int) (bs : List Nat) : List MapEntry := (ks.zip bs).map fun x => { key := .int .i64 x.1, val := .bool true, born := x.2 }
def RLv (C : Cx) (loc : Loc) (v : Value) (φ : Nat → Prop) : LB → Prop
  | .dead => True
  | .cells T cs => ∃ g vs, v = .pointer (some ⟨g, 0, none⟩) ∧ blk C.w g vs T ∧ φ g ∧ RCs P C loc cs vs
  | .row true _ e t xs => Own C.w (.sl e t) xs [v] φ
  | .row false _ e t xs => OwnSh C.S C.w e t xs v φ
  | .sett e t xs => Rd C.S C.w (.sl e t) xs [v]
  | .arr T k n xs => xs.length = n ∧ ∃ g, v = .pointer (some ⟨g, 0, none⟩) ∧ blk C.w g (xs.map (Value.int k)) T ∧ φ g
  | .mp T ks => ∃ g bs cl, v = .map (some g) ∧ bs.length = ks.length ∧ C.w.heap[g]? = some (.map (mapEntries ks bs).toArray cl) ∧ φ g
abbrev RL (C : Cx) (loc : Loc) (b : Nat) (lb : LB) : Prop := RLv P C loc (C.ρ b) (C.φ b) lb
structure Inv (C : Cx) (loc : Loc) : Prop where
  os : C.w.os = wE.os
  tape : C.w.tape = wE.tape
  output : C.w.output = wE.output
  size : wE.heap.size ≤ C.w.heap.size
  kept : ∀ k, k < wE.heap.size → ¬ M k → C.w.heap[k]? = wE.heap[k]?
  S_lt : ∀ k, C.S k → k < C.w.heap.size
  old : ∀ k, C.S k → C.S0 k ∨ wE.heap.size ≤ k ∨ M k
  own : ∀ b lb, lget loc b = some lb → lb.alive = true → ∀ k, C.φ b k → k < C.w.heap.size ∧ ¬ C.S k ∧ (wE.heap.size ≤ k ∨ M k)
  ok : ∀ b lb, lget loc b = some lb → RL P C loc b lb
  disj : ∀ b b' lb lb', b ≠ b' → lget loc b = some lb → lget loc b' = some lb' → lb.alive = true → lb'.alive = true → ∀ k, C.φ b k → ¬ C.φ b' k
structure Rel (C : Cx) (st : St) (a : Act) : Prop where
  inv : Inv P M wE C st.loc
  sz : a.tmps.size = st.tm.length
  tm : ∀ i tv, st.tm[i]? = some tv → RV P C st.loc tv (a.tmps.getD i undef)
  df : a.defers = []
end
/-- The state of row b has gone on, or nothing about it has changed. -/
def Newer (C C' : Cx) (b : Nat) (lb lb' : LB) : Prop :=
  ∀ d' ep' e' t' (ys' : List (Ty.den t')), lb' = .row d' ep' e' t' ys' → ∃ d ep e t, ∃ ys : List (Ty.den t), lb = .row d ep e t ys ∧ (ep < ep' ∨ (ep = ep' ∧ (∀ k, C.φ b k → C'.w.heap[k]? = C.w.heap[k]?) ∧ C'.φ b = C.φ b))
/-- Memory has gone on: what stays is as it was, and no name has changed its meaning. -/
structure Ext (C C' : Cx) (loc loc' : Loc) : Prop where
  size : C.w.heap.size ≤ C'.w.heap.size
  keep : ∀ k, C.S k → C'.w.heap[k]? = C.w.heap[k]?
  S : ∀ k, C.S k → C'.S k
  S0 : C'.S0 = C.S0
  ids : ∀ b lb, lget loc b = some lb → ∃ lb', lget loc' b = some lb' ∧ (lb'.alive = true → lb.alive = true ∧ C'.ρ b = C.ρ b ∧ Newer C C' b lb lb')
theorem Ext.refl (C : Cx) (loc : Loc) : Ext C C loc loc := ⟨Nat.le_refl _, fun _ _ => rfl, fun _ h => h, rfl, fun b lb h => ⟨lb, h, fun ha => ⟨ha, rfl, fun d ep e t ys he => ⟨d, ep, e, t, ys, he, .inr ⟨rfl, fun _ _ => rfl, rfl⟩⟩⟩⟩⟩
theorem Ext.trans {C C1 C2 : Cx} {l l1 l2 : Loc} (h : Ext C C1 l l1) (k : Ext C1 C2 l1 l2) : Ext C C2 l l2 := by
  refine ⟨Nat.le_trans h.size k.size, fun i hi => (k.keep i (h.S i hi)).trans (h.keep i hi), fun i hi => k.S i (h.S i hi), k.S0.trans h.S0, fun b lb hb => ?_⟩
  obtain ⟨lb1, h1, h2⟩ := h.ids b lb hb
  obtain ⟨lb2, k1, k2⟩ := k.ids b lb1 h1
  refine ⟨lb2, k1, fun ha => ?_⟩
  obtain ⟨k3, k4, k5⟩ := k2 ha
  obtain ⟨h3, h4, h5⟩ := h2 k3
  refine ⟨h3, k4.trans h4, fun d2 ep2 e2 t2 ys2 he => ?_⟩
  obtain ⟨d1, ep1, e1, t1, ys1, he1, hc1⟩ := k5 d2 ep2 e2 t2 ys2 he
  obtain ⟨d, ep, e, t, ys, he0, hc0⟩ := h5 d1 ep1 e1 t1 ys1 he1
  refine ⟨d, ep, e, t, ys, he0, ?_⟩
  rcases hc0 with hc0 | ⟨q1, q2, q3⟩
  · rcases hc1 with hc1 | ⟨r1, _, _⟩
    · exact .inl (by omega)
    · exact .inl (by omega)
  · rcases hc1 with hc1 | ⟨r1, r2, r3⟩
    · exact .inl (by omega)
    · exact .inr ⟨q1.trans r1, fun i hi => (r2 i (by rw [q3]; exact hi)).trans (q2 i hi), r3.trans q3⟩
section
variable {P : Program} {C C' : Cx} {loc loc' : Loc} (hE : Ext C C' loc loc')
include hE
theorem RC_ext {x : CV} {v : Value} (h : RC P C loc x v) : RC P C' loc' x v := by
  cases x with
  | bor e t xs => exact Rd.mono hE.S hE.keep h
  | own b =>
    obtain ⟨lb, h1, h0, h2⟩ := h
    obtain ⟨lb', h3, h4⟩ := hE.ids b lb h1
    exact ⟨lb', h3, h0, fun ha => by obtain ⟨q1, q2, _⟩ := h4 ha; rw [q2]; exact h2 q1⟩
  | sub b sz lo hi =>
    obtain ⟨lb, h1, h0, h2⟩ := h
    obtain ⟨lb', h3, h4⟩ := hE.ids b lb h1
    exact ⟨lb', h3, h0, fun ha => by obtain ⟨q1, q2, _⟩ := h4 ha; rw [q2]; exact h2 q1⟩
  | inn b ep p e t xs =>
    obtain ⟨lb, h1, h0, h2⟩ := h
    obtain ⟨lb', h3, h4⟩ := hE.ids b lb h1
    refine ⟨lb', h3, h0, fun d' ep' e' t' ys' he => ?_⟩
    obtain ⟨q1, q2, q3⟩ := h4 (by rw [he]; rfl)
    obtain ⟨d0, ep0, e0, t0, ys0, he0, hc⟩ := q3 d' ep' e' t' ys' he
    obtain ⟨r1, r2⟩ := h2 d0 ep0 e0 t0 ys0 he0
    rcases hc with hc | ⟨c1, c2, c3⟩
    · exact ⟨by omega, fun hh => by omega⟩
    · refine ⟨by omega, fun hh => ?_⟩
      obtain ⟨s1, s2⟩ := r2 (by omega)
      refine ⟨Rd.mono (fun k hk => ?_) (fun k hk => ?_) s1, fun q hq => ?_⟩
      · rcases hk with hk | hk
        · exact .inl (hE.S k hk)
        · exact .inr ⟨by rw [c3]; exact hk.1, by rw [q2]; exact hk.2⟩
      · rcases hk with hk | hk
        · exact hE.keep k hk
        · exact c2 k hk.1
      · obtain ⟨g, o, n, c, a1, a2, a3, a4, a5⟩ := s2 q hq
        exact ⟨g, o, n, c, q2.trans a1, by rw [c3]; exact a2, a3, a4, cell_keep (c2 g a2) a5⟩
  | ptr b off =>
    obtain ⟨lb, h1, h0, h2⟩ := h
    obtain ⟨lb', h3, h4⟩ := hE.ids b lb h1
    exact ⟨lb', h3, h0, fun ha => by obtain ⟨q1, q2, _⟩ := h4 ha; rw [q2]; exact h2 q1⟩
  | eptr b sz i off =>
    obtain ⟨lb, h1, h0, h2⟩ := h
    obtain ⟨lb', h3, h4⟩ := hE.ids b lb h1
    exact ⟨lb', h3, h0, fun ha => by obtain ⟨q1, q2, _⟩ := h4 ha; rw [q2]; exact h2 q1⟩
  | aptr b n i =>
    obtain ⟨lb, h1, h0, h2⟩ := h
    obtain ⟨lb', h3, h4⟩ := hE.ids b lb h1
    exact ⟨lb', h3, h0, fun ha => by obtain ⟨q1, q2, _⟩ := h4 ha; rw [q2]; exact h2 q1⟩
  | mp b =>
    obtain ⟨lb, h1, h0, h2⟩ := h
    obtain ⟨lb', h3, h4⟩ := hE.ids b lb h1
    exact ⟨lb', h3, h0, fun ha => by obtain ⟨q1, q2, _⟩ := h4 ha; rw [q2]; exact h2 q1⟩
  | bptr t x off =>
    obtain ⟨ad, c, rfl, hF, hc, hS⟩ := h
    exact ⟨ad, c, rfl, Rd.mono hE.S hE.keep hF, fun j u hj => cell_keep (by rw [add_block]; exact hE.keep _ hS) (hc j u hj), hE.S _ hS⟩
  | clo f caps =>
    obtain ⟨us, h1, h2, h3⟩ := h
    refine ⟨us, h1, h2, fun j b u hb hu => ?_⟩
    obtain ⟨lb, k1, k0, k2⟩ := h3 j b u hb hu
    obtain ⟨lb', k3, k4⟩ := hE.ids b lb k1
    exact ⟨lb', k3, k0, fun ha => by obtain ⟨q1, q2, _⟩ := k4 ha; rw [q2]; exact k2 q1⟩
  | fnv ps rs G =>
    obtain ⟨g, fs, cap, h1, h2, h3⟩ := h
    exact ⟨g, fs, cap, h1, h2, fun xs r hr w' hw hk S' vs hv => h3 xs r hr w' (Nat.le_trans hE.size hw) (fun k hS => (hk k (hE.S k hS)).trans (hE.keep k hS)) S' vs hv⟩
  | _ => exact h
theorem RCs_ext {cs : List CV} {vs : List Value} (h : RCs P C loc cs vs) : RCs P C' loc' cs vs := ⟨h.1, fun j c v hc hv => RC_ext hE (h.2 j c v hc hv)⟩
theorem R1_ext {x : Bool × List CV} {v : Value} (h : R1 P C loc x v) : R1 P C' loc' x v := by
  obtain ⟨vs, h1, h2⟩ := h
  exact ⟨vs, RCs_ext hE h1, h2⟩
theorem RV_ext {x : TV} {v : Value} (h : RV P C loc x v) : RV P C' loc' x v := by
  cases x with
  | c x => exact RC_ext hE h
  | agg cs =>
    obtain ⟨vs, h1, h2⟩ := h
    exact ⟨vs, RCs_ext hE h1, h2⟩
  | arr k n xs => exact h
  | tup xs =>
    obtain ⟨us, h1, h2, h3⟩ := h
    exact ⟨us, h1, h2, fun j x u hx hu => R1_ext hE (h3 j x u hx hu)⟩
end
end Go.Proofs.Ytceffcfnjjlbkaa.E
