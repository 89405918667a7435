/- The evaluator, 14: functions' contracts; what is handed over, what comes back. -/
import Derived.Test.YtceffcfnjjlbkaaE13
namespace Go.Proofs.Ytceffcfnjjlbkaa.E
open Go.RowKit
set_option linter.unusedVariables false
set_option linter.unusedSimpArgs false

/-! ### contracts -/
def DataOk (S : Nat → Prop) (w : World) (d : Bool) (t : Ty) (x : t.den) (cs : List Value) (φ : Nat → Prop) : Prop := if d = true then Own w t x cs φ else Rd S w t x cs
def ArgOk (P : Program) (S : Nat → Prop) (w : World) : (p : PK) → p.den → Value → (Nat → Prop) → Prop
  | .val g t, x, v, _ => ∃ cs, Pack g cs v ∧ Rd S w t x cs
  | .mu g t, x, v, φ => ∃ cs, Pack g cs v ∧ Own w t x cs φ
  | .mv g t, x, v, φ => ∃ cs, Pack g cs v ∧ Own w t x cs φ
  | .ref T d t, x, v, φ => ∃ g cs φ0, v = .pointer (some ⟨g, 0, none⟩) ∧ blk w g cs T ∧ φ g ∧ DataOk S w d t x cs φ0 ∧ ∀ k, φ0 k → φ k ∧ k ≠ g
  | .rdp T t, x, v, _ => ∃ g cs, v = .pointer (some ⟨g, 0, none⟩) ∧ S g ∧ blk w g cs T ∧ Rd S w t x cs
  | .fn ps rs, G, v, _ => FnVal P S w ps rs G v
  | .arr k n, xs, v, _ => xs.length = n ∧ v = .agg (xs.map (Value.int k)).toArray
def ArgsOk (P : Program) (S : Nat → Prop) (w : World) : (ps : List PK) → dens ps → List Value → (Nat → Prop) → Prop
  | [], _, vs, _ => vs = []
  | p :: ps, x, vs, φ => ∃ v vs' φ0 φ1, vs = v :: vs' ∧ ArgOk P S w p x.1 v φ0 ∧ ArgsOk P S w ps x.2 vs' φ1 ∧ (∀ k, φ0 k → φ k) ∧ (∀ k, φ1 k → φ k) ∧ ∀ k, φ0 k → ¬ φ1 k
def OutsOk (S : Nat → Prop) (w : World) : (ps : List PK) → List Value → outs ps → (Nat → Prop) → Prop
  | [], _, _, _ => True
  | .mu g t :: ps, vs, o, φ => ∃ v vs' φ0 φ1, vs = v :: vs' ∧ (∃ cs, Pack g cs v ∧ Own w t o.1 cs φ0) ∧ OutsOk S w ps vs' o.2 φ1 ∧ (∀ k, φ0 k → φ k) ∧ (∀ k, φ1 k → φ k) ∧ ∀ k, φ0 k → ¬ φ1 k
  | .ref T d t :: ps, vs, o, φ => ∃ (v : Value) (vs' : List Value) (φ0 φ1 : Nat → Prop), vs = v :: vs' ∧ (∃ (g : Nat) (cs : List Value) (φ2 : Nat → Prop), v = .pointer (some ⟨g, 0, none⟩) ∧ blk w g cs T ∧ φ0 g ∧ DataOk S w d t o.1 cs φ2 ∧ ∀ k, φ2 k → φ0 k ∧ k ≠ g) ∧ OutsOk S w ps vs' o.2 φ1 ∧ (∀ k, φ0 k → φ k) ∧ (∀ k, φ1 k → φ k) ∧ ∀ k, φ0 k → ¬ φ1 k
  | .val _ _ :: ps, vs, o, φ => ∃ v vs', vs = v :: vs' ∧ OutsOk S w ps vs' o φ
  | .mv _ _ :: ps, vs, o, φ => ∃ v vs', vs = v :: vs' ∧ OutsOk S w ps vs' o φ
  | .rdp _ _ :: ps, vs, o, φ => ∃ v vs', vs = v :: vs' ∧ OutsOk S w ps vs' o φ
  | .fn _ _ :: ps, vs, o, φ => ∃ v vs', vs = v :: vs' ∧ OutsOk S w ps vs' o φ
  | .arr _ _ :: ps, vs, o, φ => ∃ v vs', vs = v :: vs' ∧ OutsOk S w ps vs' o φ
def R1Ok (S : Nat → Prop) (w : World) : (r : RK) → r.den → Value → (Nat → Prop) → Prop
  | .own g t, x, v, φ => ∃ cs, Pack g cs v ∧ Own w t x cs φ
  | .shr g t, x, v, _ => ∃ cs, Pack g cs v ∧ Rd S w t x cs
  | .ptr T d t, x, v, φ => ∃ g cs φ0, v = .pointer (some ⟨g, 0, none⟩) ∧ blk w g cs T ∧ φ g ∧ DataOk S w d t x cs φ0 ∧ ∀ k, φ0 k → φ k ∧ k ≠ g
  | .arr k n, xs, v, _ => xs.length = n ∧ v = .agg (xs.map (Value.int k)).toArray
def ResOk (S : Nat → Prop) (w : World) : (rs : List RK) → rdens rs → List Value → (Nat → Prop) → Prop
  | [], _, vs, _ => vs = []
  | p :: rs, x, vs, φ => ∃ v vs' φ0 φ1, vs = v :: vs' ∧ R1Ok S w p x.1 v φ0 ∧ ResOk S w rs x.2 vs' φ1 ∧ (∀ k, φ0 k → φ k) ∧ (∀ k, φ1 k → φ k) ∧ ∀ k, φ0 k → ¬ φ1 k
/-- Only M has changed of what was there. -/
structure Frame' (M : Nat → Prop) (w w' : World) : Prop where
  os : w'.os = w.os
  tape : w'.tape = w.tape
  output : w'.output = w.output
  size : w.heap.size ≤ w'.heap.size
  kept : ∀ k, k < w.heap.size → ¬ M k → w'.heap[k]? = w.heap[k]?
/-- What a call leaves. -/
def Post (S M : Nat → Prop) (w : World) (ps : List PK) (rs : List RK) (vs : List Value) (o : outs ps) (r : rdens rs) (e : Ending) (w' : World) : Prop :=
  ∃ us φo φr S', OutsOk S' w' ps vs o φo ∧ ResOk S' w' rs r us φr ∧ Ret us e ∧ Frame' M w w' ∧ (∀ k, φo k ∨ φr k → k < w'.heap.size ∧ ¬ S' k ∧ (w.heap.size ≤ k ∨ M k)) ∧ (∀ k, φo k → ¬ φr k) ∧ (∀ k, S k → S' k) ∧ ∀ k, S' k → S k ∨ (k < w'.heap.size ∧ (w.heap.size ≤ k ∨ M k))
/-- What a function is proved to do. -/
structure FnOk (P : Program) (g : Nat) (s : Sig) : Prop where
  enter : ∀ args w, (callFunc g args).run P w = .ok (.enter g args) w
  calls : ∀ (xs : dens s.ps) (o : outs s.ps) (r : rdens s.rs), s.F xs = some (o, r) → ∀ (w : World) (S M : Nat → Prop) (vs : List Value), (∀ k, S k → k < w.heap.size ∧ ¬ M k) → (∀ k, M k → k < w.heap.size) → ArgsOk P S w s.ps xs vs M →
    Calls P g vs.toArray w (Post S M w s.ps s.rs vs o r)

section
variable {P : Program} {M : Nat → Prop} {wE : World} {C : Cx} {st : St} {a : Act} {T : Nat → Option TV} {L : Nat → Option LB} {Γ : Nat → Option Sig}

/-! ### new data as blocks of one's own -/
/-- These entries hold, in whatever state they are part of. -/
def Holds (P : Program) (w' : World) (S' : Nat → Prop) (Es : List Ent) : Prop :=
  ∀ C' loc', C'.w = w' → (∀ k, S' k → C'.S k) → (∀ e ∈ Es, lget loc' e.b = some e.lb ∧ C'.ρ e.b = e.v) → ∀ e ∈ Es, RLv P C' loc' e.v e.φ e.lb
theorem thaw_ok {w' : World} {S' : Nat → Prop} : ∀ {t : Ty} {x : t.den} {cs : List Value} {φ : Nat → Prop} (m : Nat), Own w' t x cs φ →
    ∃ Es : List Ent, ups Es = (thaw t x m).2 ∧ Es.map (·.b) = (List.range (thaw t x m).2.length).map (m + ·) ∧ (∀ e ∈ Es, (∃ e' t' xs, e.lb = .row true 0 e' t' xs) ∧ ∀ k, e.φ k → φ k) ∧ Es.Pairwise (fun e e' => ∀ k, e.φ k → ¬ e'.φ k) ∧ Holds P w' S' Es ∧
      ∀ C' loc', C'.w = w' → (∀ e ∈ Es, lget loc' e.b = some e.lb ∧ C'.ρ e.b = e.v) → RCs P C' loc' (thaw t x m).1 cs
  | .int k, n, cs, φ, m, h => ⟨[], rfl, rfl, by simp, .nil, fun _ _ _ _ _ e he => by simp at he, fun C' loc' _ _ => by rw [show cs = _ from h]; exact RCs_one rfl⟩
  | .bool, n, cs, φ, m, h => ⟨[], rfl, rfl, by simp, .nil, fun _ _ _ _ _ e he => by simp at he, fun C' loc' _ _ => by rw [show cs = _ from h]; exact RCs_one rfl⟩
  | .str, n, cs, φ, m, h => ⟨[], rfl, rfl, by simp, .nil, fun _ _ _ _ _ e he => by simp at he, fun C' loc' _ _ => by rw [show cs = _ from h]; exact RCs_one rfl⟩
  | .sl e t, xs, cs, φ, m, h => by
    obtain ⟨A, c, rfl, _⟩ := Own.form h
    refine ⟨[⟨m, .row true 0 e t xs, .slice A xs.length c, φ⟩], rfl, by simp [thaw], fun e' he => ?_, by simp, fun C' loc' hw _ hl e' he => ?_, fun C' loc' hw hl => ?_⟩
    · simp only [List.mem_singleton] at he
      subst he
      exact ⟨⟨e, t, xs, rfl⟩, fun k hk => hk⟩
    · simp only [List.mem_singleton] at he
      subst he
      show Own C'.w _ _ _ _
      rw [hw]
      exact h
    · obtain ⟨h1, h2⟩ := hl _ (List.mem_singleton.2 rfl)
      exact RCs_one ⟨_, h1, ⟨_, _, _, rfl⟩, fun _ => h2.symm⟩
  | .pair p q, x, cs, φ, m, h => by
    obtain ⟨c0, c1, φ0, φ1, rfl, h0, h1, s0, s1, hd⟩ := h
    obtain ⟨E0, a1, a2, a3, a4, a5, a6⟩ := thaw_ok m h0
    obtain ⟨E1, b1, b2, b3, b4, b5, b6⟩ := thaw_ok (m + (thaw p x.1 m).2.length) h1
    refine ⟨E0 ++ E1, by simp only [ups, List.map_append, thaw] at a1 b1 ⊢; rw [a1, b1], ?_, fun e he => ?_, ?_, fun C' loc' hw hS hl e he => ?_, fun C' loc' hw hl => ?_⟩
    · rw [List.map_append, a2, b2]
      simp only [thaw, List.length_append, List.range_add, List.map_append, List.map_map]
      congr 1
      apply List.map_congr_left
      intro i _
      simp only [Function.comp]
      omega
    · rcases List.mem_append.1 he with he | he
      · exact ⟨(a3 e he).1, fun k hk => s0 k ((a3 e he).2 k hk)⟩
      · exact ⟨(b3 e he).1, fun k hk => s1 k ((b3 e he).2 k hk)⟩
    · exact List.pairwise_append.2 ⟨a4, b4, fun e he e' he' k hk hk' => hd k ((a3 e he).2 k hk) ((b3 e' he').2 k hk')⟩
    · rcases List.mem_append.1 he with he' | he'
      · exact a5 C' loc' hw hS (fun e he => hl e (List.mem_append.2 (.inl he))) e he'
      · exact b5 C' loc' hw hS (fun e he => hl e (List.mem_append.2 (.inr he))) e he'
    · exact RCs_append (a6 C' loc' hw (fun e he => hl e (List.mem_append.2 (.inl he)))) (b6 C' loc' hw (fun e he => hl e (List.mem_append.2 (.inr he))))
end
end Go.Proofs.Ytceffcfnjjlbkaa.E
