/- A typed evaluator for loaded code, 1: the values it computes with, and what they say of the machine's values and of its memory. -/
import Derived.Test.YtceffcfnjjlbkaaWMore
import Derived.Test.YtceffcfnjjlbkaaWAt
import Derived.Test.YtceffcfnjjlbkaaWFootNe
namespace Go.Proofs.Ytceffcfnjjlbkaa.V
open Go.RowKit Go.Proofs.YtceffcfnjjlbkaaW.PrintWords Go.Proofs.YtceffcfnjjlbkaaW.PrintLast Go.Proofs.YtceffcfnjjlbkaaW.PrintMore
set_option linter.unusedVariables false
set_option linter.unusedSimpArgs false

/-! ### types of plain data -/
inductive Ty where
  | int (k : IntKind)
  | bool
  | str
  | sl (e : Nat) (t : Ty)
  | pair (a b : Ty)
  deriving DecidableEq
@[reducible] def Ty.den : Ty → Type
  | .int _ => Int
  | .bool => Bool
  | .str => ByteArray
  | .sl _ t => List t.den
  | .pair a b => a.den × b.den
def Ty.kd : (t : Ty) → Kd t.den
  | .int k => Kd.int k
  | .bool => Kd.bool
  | .str => Kd.string
  | .sl e t => Kd.slice e t.kd
  | .pair a b => Kd.pair a.kd b.kd
def Ty.sz : Ty → Nat
  | .pair a b => a.sz + b.sz
  | _ => 1
theorem kd_sz : ∀ t : Ty, t.kd.sz = t.sz
  | .int _ => rfl
  | .bool => rfl
  | .str => rfl
  | .sl _ _ => rfl
  | .pair a b => by show a.kd.sz + b.kd.sz = a.sz + b.sz; rw [kd_sz a, kd_sz b]
theorem sz_pos : ∀ t : Ty, 0 < t.sz
  | .int _ => Nat.one_pos
  | .bool => Nat.one_pos
  | .str => Nat.one_pos
  | .sl _ _ => Nat.one_pos
  | .pair a b => by show 0 < a.sz + b.sz; have := sz_pos a; omega
/-- The zero value. -/
def Ty.z : (t : Ty) → t.den
  | .int _ => (0 : Int)
  | .bool => false
  | .str => (⟨#[]⟩ : ByteArray)
  | .sl _ _ => []
  | .pair a b => (a.z, b.z)

/-! ### the evaluator's values -/
/-- What one cell holds: a scalar; a slice that is only read (its elements' machine type, their kind, the elements); the slice that is the local row b; nil; a pointer to cell 'off' of the local block b; to cell 'off' of element i of the local row b; to cell 'off' of an element that is only read; a function; nothing known. -/
inductive CV where
  | int (k : IntKind) (n : Int)
  | bool (b : Bool)
  | str (s : ByteArray)
  | bor (e : Nat) (t : Ty) (xs : List t.den)
  | own (b : Nat)
  | nil
  | ptr (b : Nat) (off : Nat)
  | eptr (b : Nat) (sz : Nat) (i : Int) (off : Nat)
  | bptr (t : Ty) (x : t.den) (off : Nat)
  | fn (f : Nat)
  | un
inductive TV where
  | c (v : CV)
  | agg (cs : List CV)
  | tup (vs : List (Bool × List CV))
/-- A block of the call's own: a variable in memory (type, cells); a row of elements; one that is gone. -/
inductive LB where
  | cells (T : Nat) (cs : List CV)
  | row (e : Nat) (t : Ty) (xs : List t.den)
  | dead
def LB.alive : LB → Bool
  | .dead => false
  | _ => true
structure St where
  tm : List TV
  loc : List LB
def St.put (st : St) (d : Option Nat) (v : TV) : St :=
  match d with
  | some d => { st with tm := st.tm.set d v }
  | none => st
/-- The cells of plain data that is only read. -/
def flat : (t : Ty) → t.den → List CV
  | .int k, n => [.int k n]
  | .bool, b => [.bool b]
  | .str, s => [.str s]
  | .sl e t, xs => [.bor e t xs]
  | .pair a b, x => flat a x.1 ++ flat b x.2
theorem flat_length : ∀ (t : Ty) (x : t.den), (flat t x).length = t.sz
  | .int _, _ => rfl
  | .bool, _ => rfl
  | .str, _ => rfl
  | .sl _ _, _ => rfl
  | .pair a b, x => by show (flat a x.1 ++ flat b x.2).length = a.sz + b.sz; rw [List.length_append, flat_length a, flat_length b]

/-! ### what they say of the machine -/
structure Cx where
  w : World
  N : Nat
  S : Nat → Prop
  ρ : Nat → Value
  φ : Nat → Nat → Prop
section
variable (P : Program) (B : Nat) (wE : World)
/-- What one cell holds, said of the machine's value. -/
def RC (C : Cx) : CV → Value → Prop
  | .int k n, v => v = .int k n
  | .bool b, v => v = .bool b
  | .str s, v => v = .string s
  | .bor _ t xs, v => ∃ A c, v = .slice A xs.length c ∧ xs.length ≤ c ∧ Kd.F t.kd C.w C.S A xs.length xs
  | .own b, v => b < C.N ∧ v = C.ρ b ∧ ∃ A n c, v = .slice A n c
  | .nil, v => v = .slice none 0 0
  | .ptr b off, v => b < C.N ∧ ∃ g, C.ρ b = .pointer (some ⟨g, 0, none⟩) ∧ v = .pointer (some ⟨g, off, none⟩)
  | .eptr b sz i off, v => b < C.N ∧ ∃ g n c, C.ρ b = .slice (some ⟨g, 0, none⟩) n c ∧ v = .pointer (some ⟨g, i.toNat * sz + off, none⟩)
  | .bptr t x off, v => ∃ (ad : Addr) (c : List Value), v = .pointer (some (ad.add off)) ∧ c.length = t.sz ∧ Kd.FK t.kd C.w C.S x c ∧ (∀ j u, c[j]? = some u → C.w.cell? (ad.add j) = some u) ∧ C.S ad.block
  | .fn f, v => v = .func (.func f) #[] #[]
  | .un, _ => True
def RCs (C : Cx) (cs : List CV) (vs : List Value) : Prop := cs.length = vs.length ∧ ∀ (j : Nat) (c : CV) (v : Value), cs[j]? = some c → vs[j]? = some v → RC C c v
/-- One component: a single cell, or a struct. -/
def R1 (C : Cx) (x : Bool × List CV) (v : Value) : Prop := ∃ vs, RCs C x.2 vs ∧ if x.1 = true then v = .agg vs.toArray else vs = [v]
def RV (C : Cx) : TV → Value → Prop
  | .c x, v => RC C x v
  | .agg cs, v => ∃ vs, RCs C cs vs ∧ v = .agg vs.toArray
  | .tup xs, v => ∃ us : List Value, v = .tuple us.toArray ∧ xs.length = us.length ∧ ∀ (j : Nat) x u, xs[j]? = some x → us[j]? = some u → R1 C x u
def RL (C : Cx) (b : Nat) : LB → Prop
  | .dead => True
  | .cells T cs => ∃ g vs, C.ρ b = .pointer (some ⟨g, 0, none⟩) ∧ B ≤ g ∧ ¬ C.S g ∧ (∀ k, C.φ b k ↔ k = g) ∧ C.w.heap[g]? = some (.cells vs.toArray T (0, 0)) ∧ RCs C cs vs
  | .row e t xs => Kd.S t.kd e C.w B (C.φ b) (C.ρ b) xs ∧ (∀ k, C.φ b k → k < C.w.heap.size) ∧ (∀ k, (C.ρ b).ownBlock = some k → ¬ C.S k) ∧ (∀ k, C.φ b k → (C.ρ b).ownBlock ≠ some k → C.S k)
structure Inv (C : Cx) (loc : List LB) : Prop where
  len : loc.length = C.N
  below : Below B wE C.w
  base : B ≤ C.w.heap.size
  S_base : ∀ k, k < B → C.S k
  S_lt : ∀ k, C.S k → k < C.w.heap.size
  ok : ∀ b lb, loc[b]? = some lb → RL B C b lb
  disj : ∀ b b' lb lb', b ≠ b' → loc[b]? = some lb → loc[b']? = some lb' → lb.alive = true → lb'.alive = true → ∀ k, C.φ b k → ¬ C.φ b' k
structure Rel (C : Cx) (st : St) (a : Act) : Prop where
  inv : Inv B wE C st.loc
  sz : a.tmps.size = st.tm.length
  tm : ∀ i tv, st.tm[i]? = some tv → RV C tv (a.tmps.getD i undef)
  df : a.defers = []
end
/-- Memory has gone on: what is settled is as it was, and no name has changed its meaning. -/
structure Ext (C C' : Cx) : Prop where
  keep : ∀ k, C.S k → C'.w.heap[k]? = C.w.heap[k]?
  S : ∀ k, C.S k → C'.S k
  N : C.N ≤ C'.N
  ρ : ∀ b, b < C.N → C'.ρ b = C.ρ b
theorem Ext.refl (C : Cx) : Ext C C := ⟨fun _ _ => rfl, fun _ h => h, Nat.le_refl _, fun _ _ => rfl⟩
theorem Ext.trans {C C' C'' : Cx} (h : Ext C C') (k : Ext C' C'') : Ext C C'' :=
  ⟨fun i hi => (k.keep i (h.S i hi)).trans (h.keep i hi), fun i hi => k.S i (h.S i hi), Nat.le_trans h.N k.N, fun b hb => (k.ρ b (Nat.lt_of_lt_of_le hb h.N)).trans (h.ρ b hb)⟩
theorem cell_keep {w w' : World} {ad : Addr} {u : Value} (hk : w'.heap[ad.block]? = w.heap[ad.block]?) (h : w.cell? ad = some u) : w'.cell? ad = some u := by
  simpa [World.cell?, hk] using h
section
variable {C C' : Cx} (hE : Ext C C')
include hE
theorem RC_ext {x : CV} {v : Value} (h : RC C x v) : RC C' x v := by
  cases x with
  | bor e t xs =>
    obtain ⟨A, c, rfl, hl, hF⟩ := h
    exact ⟨A, c, rfl, hl, Kd.F_mono (Kd.F_step hF (fun k hk _ => hE.keep k hk)) (fun k hk => hE.S k hk)⟩
  | own b => exact ⟨Nat.lt_of_lt_of_le h.1 hE.N, h.2.1.trans (hE.ρ b h.1).symm, h.2.2⟩
  | ptr b off =>
    obtain ⟨hb, g, h1, h2⟩ := h
    exact ⟨Nat.lt_of_lt_of_le hb hE.N, g, (hE.ρ b hb).trans h1, h2⟩
  | eptr b sz i off =>
    obtain ⟨hb, g, n, c, h1, h2⟩ := h
    exact ⟨Nat.lt_of_lt_of_le hb hE.N, g, n, c, (hE.ρ b hb).trans h1, h2⟩
  | bptr t x off =>
    obtain ⟨ad, c, rfl, hl, hF, hc, hS⟩ := h
    exact ⟨ad, c, rfl, hl, Kd.FK_mono (Kd.FK_step hF (fun k hk _ => hE.keep k hk)) (fun k hk => hE.S k hk), fun j u hj => cell_keep (hE.keep _ (by rw [add_block]; exact hS)) (hc j u hj), hE.S _ hS⟩
  | _ => exact h
theorem RCs_ext {cs : List CV} {vs : List Value} (h : RCs C cs vs) : RCs C' cs vs := ⟨h.1, fun j c v hc hv => RC_ext hE (h.2 j c v hc hv)⟩
theorem R1_ext {x : Bool × List CV} {v : Value} (h : R1 C x v) : R1 C' x v := by
  obtain ⟨vs, h1, h2⟩ := h
  exact ⟨vs, RCs_ext hE h1, h2⟩
theorem RV_ext {x : TV} {v : Value} (h : RV C x v) : RV C' x v := by
  cases x with
  | c x => exact RC_ext hE h
  | agg cs =>
    obtain ⟨vs, h1, h2⟩ := h
    exact ⟨vs, RCs_ext hE h1, h2⟩
  | tup xs =>
    obtain ⟨us, h1, h2, h3⟩ := h
    exact ⟨us, h1, h2, fun j x u hx hu => R1_ext hE (h3 j x u hx hu)⟩
/-- A local block that nothing has touched. -/
theorem RL_ext {B b : Nat} {lb : LB} (hb : b < C.N) (hφ : C'.φ b = C.φ b) (hsz : C.w.heap.size ≤ C'.w.heap.size) (hk : ∀ k, C.φ b k → C'.w.heap[k]? = C.w.heap[k]?) (hS : ∀ k, C.φ b k → C'.S k → C.S k) (h : RL B C b lb) : RL B C' b lb := by
  cases lb with
  | dead => trivial
  | cells T cs =>
    obtain ⟨g, vs, h1, h2, h3, h4, h5, h6⟩ := h
    exact ⟨g, vs, (hE.ρ b hb).trans h1, h2, fun hs => h3 (hS g ((h4 g).2 rfl) hs), by rw [hφ]; exact h4, (hk g ((h4 g).2 rfl)).trans h5, RCs_ext hE h6⟩
  | row e t xs =>
    obtain ⟨h1, h2, h3, h4⟩ := h
    have h1' := Kd.S_move h1 hk
    show _ ∧ _ ∧ _ ∧ _
    rw [hφ, hE.ρ b hb]
    refine ⟨h1', fun k hk' => Nat.lt_of_lt_of_le (h2 k hk') hsz, fun k ho hs => ?_, fun k hk' hne => hE.S k (h4 k hk' hne)⟩
    obtain ⟨f, hR, _⟩ := h1
    exact h3 k ho (hS k (hR k ho) hs)
end
end Go.Proofs.Ytceffcfnjjlbkaa.V
