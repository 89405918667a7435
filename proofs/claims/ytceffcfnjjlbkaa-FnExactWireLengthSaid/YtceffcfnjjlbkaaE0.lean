/- The evaluator, 0: kinds of plain data; data that is read where it lies, data that is owned. -/
import Derived.Below
import Derived.WalkKit
import Derived.KernelRfl
import Derived.Laws.AppendOwn
import Derived.Laws.CopyRow
namespace Go.Proofs.Ytceffcfnjjlbkaa.E
open Go.RowKit
set_option linter.unusedVariables false
set_option linter.unusedSimpArgs false

/-! ### kinds of plain data -/
inductive Ty where
  | int (k : IntKind)
  | bool
  | str
  | sl (e : Nat) (t : Ty)
  | pair (a b : Ty)
  deriving DecidableEq
@[reducible] def Ty.den : Ty → Type
  | .int _ => Int
  | .bool => Bool
  | .str => ByteArray
  | .sl _ t => List t.den
  | .pair a b => a.den × b.den
def Ty.sz : Ty → Nat
  | .pair a b => a.sz + b.sz
  | _ => 1
theorem sz_pos : ∀ t : Ty, 0 < t.sz
  | .int _ => Nat.one_pos
  | .bool => Nat.one_pos
  | .str => Nat.one_pos
  | .sl _ _ => Nat.one_pos
  | .pair a b => by show 0 < a.sz + b.sz; have := sz_pos a; omega
def Ty.z : (t : Ty) → t.den
  | .int _ => (0 : Int)
  | .bool => false
  | .str => (⟨#[]⟩ : ByteArray)
  | .sl _ _ => []
  | .pair a b => (a.z, b.z)
/-- No slice in it. -/
def Ty.flatB : Ty → Bool
  | .sl _ _ => false
  | .pair a b => a.flatB && b.flatB
  | _ => true

/-! ### blocks -/
def blk (w : World) (g : Nat) (cur : List Value) (e : Nat) : Prop := w.heap[g]? = some (.cells cur.toArray e (0, 0))
theorem add_lit (g o j : Nat) : (⟨g, o, none⟩ : Addr).add j = ⟨g, o + j, none⟩ := by unfold Addr.add; split <;> simp_all
theorem add_block (a : Addr) (j : Nat) : (a.add j).block = a.block := by unfold Addr.add; split <;> rfl
theorem add_add (a : Addr) (i j : Nat) : (a.add i).add j = a.add (i + j) := by
  unfold Addr.add
  by_cases hi : i = 0
  · subst hi; simp
  · by_cases hj : j = 0
    · subst hj; simp
    · simp [hi, hj, Nat.add_assoc]
theorem add_zero (a : Addr) : a.add 0 = a := by simp [Addr.add]
theorem blk_cell {w : World} {g : Nat} {cur : List Value} {e : Nat} (h : blk w g cur e) (j : Nat) : w.cell? ⟨g, j, none⟩ = cur[j]? := by
  rw [cell_of_row w g j cur.toArray e (0, 0) h]
  simp
theorem blk_lt {w : World} {g : Nat} {cur : List Value} {e : Nat} (h : blk w g cur e) : g < w.heap.size := (Array.getElem?_eq_some_iff.1 h).1
theorem blk_same {w w' : World} {g : Nat} {cur : List Value} {e : Nat} (h : blk w g cur e) (hk : w'.heap[g]? = w.heap[g]?) : blk w' g cur e := hk.trans h
theorem cell_keep {w w' : World} {ad : Addr} {u : Value} (hk : w'.heap[ad.block]? = w.heap[ad.block]?) (h : w.cell? ad = some u) : w'.cell? ad = some u := by
  simpa [World.cell?, hk] using h

/-! ### data that is read where it lies: all of it in blocks of S -/
def Rd (S : Nat → Prop) (w : World) : (t : Ty) → t.den → List Value → Prop
  | .int k, n, cs => cs = [.int k n]
  | .bool, b, cs => cs = [.bool b]
  | .str, s, cs => cs = [.string s]
  | .sl e t, xs, cs => ∃ A c, cs = [.slice A xs.length c] ∧ xs.length ≤ c ∧ (xs ≠ [] → ∃ ad, A = some ad ∧ S ad.block ∧ ∀ i x, xs[i]? = some x → ∃ es, es.length = t.sz ∧ Rd S w t x es ∧ ∀ j u, es[j]? = some u → w.cell? (ad.add (i * t.sz + j)) = some u)
  | .pair a b, x, cs => ∃ c0 c1, cs = c0 ++ c1 ∧ Rd S w a x.1 c0 ∧ Rd S w b x.2 c1
theorem Rd.len {S : Nat → Prop} {w : World} : ∀ {t : Ty} {x : t.den} {cs : List Value}, Rd S w t x cs → cs.length = t.sz
  | .int _, _, _, h => by rw [show _ = _ from h]; rfl
  | .bool, _, _, h => by rw [show _ = _ from h]; rfl
  | .str, _, _, h => by rw [show _ = _ from h]; rfl
  | .sl _ _, _, _, h => by obtain ⟨A, c, rfl, _⟩ := h; rfl
  | .pair a b, _, _, h => by
    obtain ⟨c0, c1, rfl, h0, h1⟩ := h
    rw [List.length_append, h0.len, h1.len]
    rfl
theorem Rd.mono {S S' : Nat → Prop} {w w' : World} (hS : ∀ k, S k → S' k) (hk : ∀ k, S k → w'.heap[k]? = w.heap[k]?) : ∀ {t : Ty} {x : t.den} {cs : List Value}, Rd S w t x cs → Rd S' w' t x cs
  | .int _, _, _, h => h
  | .bool, _, _, h => h
  | .str, _, _, h => h
  | .sl e t, xs, cs, h => by
    obtain ⟨A, c, h1, h2, h3⟩ := h
    refine ⟨A, c, h1, h2, fun hne => ?_⟩
    obtain ⟨ad, h4, h5, h6⟩ := h3 hne
    refine ⟨ad, h4, hS _ h5, fun i x hx => ?_⟩
    obtain ⟨es, h7, h8, h9⟩ := h6 i x hx
    exact ⟨es, h7, Rd.mono hS hk h8, fun j u hu => cell_keep (by rw [add_block]; exact hk _ h5) (h9 j u hu)⟩
  | .pair a b, _, _, h => by
    obtain ⟨c0, c1, h1, h2, h3⟩ := h
    exact ⟨c0, c1, h1, Rd.mono hS hk h2, Rd.mono hS hk h3⟩
theorem Rd.one {S : Nat → Prop} {w : World} : ∀ {t : Ty} {x : t.den} {cs : List Value}, Rd S w t x cs → ∀ u ∈ cs, u.oneCell' = true
  | .int _, _, _, h => by rw [show _ = _ from h]; intro u hu; simp at hu; subst hu; rfl
  | .bool, _, _, h => by rw [show _ = _ from h]; intro u hu; simp at hu; subst hu; rfl
  | .str, _, _, h => by rw [show _ = _ from h]; intro u hu; simp at hu; subst hu; rfl
  | .sl _ _, _, _, h => by obtain ⟨A, c, rfl, _⟩ := h; intro u hu; simp at hu; subst hu; rfl
  | .pair a b, _, _, h => by
    obtain ⟨c0, c1, rfl, h0, h1⟩ := h
    intro u hu
    rcases List.mem_append.1 hu with hu | hu
    · exact h0.one u hu
    · exact h1.one u hu
theorem Rd.nil {S : Nat → Prop} {w : World} {e : Nat} {t : Ty} : Rd S w (.sl e t) [] [.slice none 0 0] := ⟨none, 0, rfl, Nat.le_refl _, fun h => absurd rfl h⟩

/-! ### data that is owned: its blocks are all of φ, and no two parts share one -/
def Own (w : World) : (t : Ty) → t.den → List Value → (Nat → Prop) → Prop
  | .int k, n, cs, _ => cs = [.int k n]
  | .bool, b, cs, _ => cs = [.bool b]
  | .str, s, cs, _ => cs = [.string s]
  | .sl e t, xs, cs, φ => (cs = [.slice none 0 0] ∧ xs = []) ∨
    ∃ (g o c : Nat) (cur : List Value) (f : Nat → Nat → Prop), cs = [.slice (some ⟨g, o, none⟩) xs.length c] ∧ blk w g cur e ∧ xs.length ≤ c ∧ c ≤ maxLen ∧ o + c * t.sz ≤ cur.length ∧ φ g ∧ (∀ i k, f i k → φ k ∧ k ≠ g) ∧ (∀ i j k, f i k → f j k → i = j) ∧
      ∀ i x, xs[i]? = some x → Own w t x ((cur.drop (o + i * t.sz)).take t.sz) (f i)
  | .pair a b, x, cs, φ => ∃ c0 c1 φ0 φ1, cs = c0 ++ c1 ∧ Own w a x.1 c0 φ0 ∧ Own w b x.2 c1 φ1 ∧ (∀ k, φ0 k → φ k) ∧ (∀ k, φ1 k → φ k) ∧ ∀ k, φ0 k → ¬ φ1 k
theorem Own.len {w : World} : ∀ {t : Ty} {x : t.den} {cs : List Value} {φ : Nat → Prop}, Own w t x cs φ → cs.length = t.sz
  | .int _, _, _, _, h => by rw [show _ = _ from h]; rfl
  | .bool, _, _, _, h => by rw [show _ = _ from h]; rfl
  | .str, _, _, _, h => by rw [show _ = _ from h]; rfl
  | .sl _ _, _, _, _, h => by rcases h with ⟨rfl, _⟩ | ⟨g, o, c, cur, f, rfl, _⟩ <;> rfl
  | .pair a b, _, _, _, h => by
    obtain ⟨c0, c1, φ0, φ1, rfl, h0, h1, _⟩ := h
    rw [List.length_append, h0.len, h1.len]
    rfl
theorem Own.mono {w : World} {φ φ' : Nat → Prop} (hφ : ∀ k, φ k → φ' k) : ∀ {t : Ty} {x : t.den} {cs : List Value}, Own w t x cs φ → Own w t x cs φ'
  | .int _, _, _, h => h
  | .bool, _, _, h => h
  | .str, _, _, h => h
  | .sl _ _, _, _, h => by
    rcases h with h | ⟨g, o, c, cur, f, h1, h2, h3, h4, h5, h6, h7, h8, h9⟩
    · exact .inl h
    · exact .inr ⟨g, o, c, cur, f, h1, h2, h3, h4, h5, hφ _ h6, fun i k hk => ⟨hφ _ (h7 i k hk).1, (h7 i k hk).2⟩, h8, h9⟩
  | .pair a b, _, _, h => by
    obtain ⟨c0, c1, φ0, φ1, h1, h2, h3, h4, h5, h6⟩ := h
    exact ⟨c0, c1, φ0, φ1, h1, h2, h3, fun k hk => hφ _ (h4 k hk), fun k hk => hφ _ (h5 k hk), h6⟩
/-- Only its own blocks matter. -/
theorem Own.move {w w' : World} : ∀ {t : Ty} {x : t.den} {cs : List Value} {φ : Nat → Prop}, (∀ k, φ k → w'.heap[k]? = w.heap[k]?) → Own w t x cs φ → Own w' t x cs φ
  | .int _, _, _, _, _, h => h
  | .bool, _, _, _, _, h => h
  | .str, _, _, _, _, h => h
  | .sl _ _, _, _, _, hk, h => by
    rcases h with h | ⟨g, o, c, cur, f, h1, h2, h3, h4, h5, h6, h7, h8, h9⟩
    · exact .inl h
    · exact .inr ⟨g, o, c, cur, f, h1, blk_same h2 (hk g h6), h3, h4, h5, h6, h7, h8, fun i x hx => Own.move (fun k hf => hk k (h7 i k hf).1) (h9 i x hx)⟩
  | .pair a b, _, _, _, hk, h => by
    obtain ⟨c0, c1, φ0, φ1, h1, h2, h3, h4, h5, h6⟩ := h
    exact ⟨c0, c1, φ0, φ1, h1, Own.move (fun k hf => hk k (h4 k hf)) h2, Own.move (fun k hf => hk k (h5 k hf)) h3, h4, h5, h6⟩
theorem Own.lt {w : World} : ∀ {t : Ty} {x : t.den} {cs : List Value} {φ : Nat → Prop}, Own w t x cs φ → ∃ φ', Own w t x cs φ' ∧ (∀ k, φ' k → φ k) ∧ ∀ k, φ' k → k < w.heap.size
  | .int _, _, _, _, h => ⟨fun _ => False, h, fun _ h => h.elim, fun _ h => h.elim⟩
  | .bool, _, _, _, h => ⟨fun _ => False, h, fun _ h => h.elim, fun _ h => h.elim⟩
  | .str, _, _, _, h => ⟨fun _ => False, h, fun _ h => h.elim, fun _ h => h.elim⟩
  | .sl e t, xs, cs, φ, h => by
    rcases h with h | ⟨g, o, c, cur, f, h1, h2, h3, h4, h5, h6, h7, h8, h9⟩
    · exact ⟨fun _ => False, .inl h, fun _ h => h.elim, fun _ h => h.elim⟩
    · have hc : ∀ i, ∃ φ', (∀ x, xs[i]? = some x → Own w t x ((cur.drop (o + i * t.sz)).take t.sz) φ') ∧ (∀ k, φ' k → f i k) ∧ ∀ k, φ' k → k < w.heap.size := fun i => by
        cases hx : xs[i]? with
        | none => exact ⟨fun _ => False, (fun x h => by cases h), (fun _ h => h.elim), (fun _ h => h.elim)⟩
        | some x =>
          obtain ⟨φ', k1, k2, k3⟩ := (h9 i x hx).lt
          exact ⟨φ', fun y hy => by injection hy with hy; subst hy; exact k1, k2, k3⟩
      refine ⟨fun k => k = g ∨ ∃ i, (hc i).choose k, .inr ⟨g, o, c, cur, fun i => (hc i).choose, h1, h2, h3, h4, h5, .inl rfl, fun i k hk => ⟨.inr ⟨i, hk⟩, (h7 i k ((hc i).choose_spec.2.1 k hk)).2⟩, fun i j k hi hj => h8 i j k ((hc i).choose_spec.2.1 k hi) ((hc j).choose_spec.2.1 k hj), fun i x hx => (hc i).choose_spec.1 x hx⟩, fun k hk => ?_, fun k hk => ?_⟩
      · rcases hk with rfl | ⟨i, hk⟩
        · exact h6
        · exact (h7 i k ((hc i).choose_spec.2.1 k hk)).1
      · rcases hk with rfl | ⟨i, hk⟩
        · exact blk_lt h2
        · exact (hc i).choose_spec.2.2 k hk
  | .pair a b, _, _, _, h => by
    obtain ⟨c0, c1, φ0, φ1, h1, h2, h3, h4, h5, h6⟩ := h
    obtain ⟨ψ0, a1, a2, a3⟩ := h2.lt
    obtain ⟨ψ1, b1, b2, b3⟩ := h3.lt
    exact ⟨fun k => ψ0 k ∨ ψ1 k, ⟨c0, c1, ψ0, ψ1, h1, a1, b1, fun k h => .inl h, fun k h => .inr h, fun k hk hk' => h6 k (a2 k hk) (b2 k hk')⟩, fun k hk => hk.elim (fun h => h4 k (a2 k h)) (fun h => h5 k (b2 k h)), fun k hk => hk.elim (a3 k) (b3 k)⟩
theorem take_drop_get {α : Type} {cur : List α} {p n j : Nat} {u : α} (h : ((cur.drop p).take n)[j]? = some u) : cur[p + j]? = some u ∧ j < n := by
  rw [List.getElem?_take] at h
  split at h
  · rw [List.getElem?_drop] at h
    exact ⟨h, by assumption⟩
  · cases h
/-- What is owned can be read. -/
theorem Own.rd {w : World} : ∀ {t : Ty} {x : t.den} {cs : List Value} {φ : Nat → Prop}, Own w t x cs φ → Rd φ w t x cs
  | .int _, _, _, _, h => h
  | .bool, _, _, _, h => h
  | .str, _, _, _, h => h
  | .sl e t, xs, cs, φ, h => by
    rcases h with ⟨rfl, rfl⟩ | ⟨g, o, c, cur, f, h1, h2, h3, h4, h5, h6, h7, h8, h9⟩
    · exact Rd.nil
    · refine ⟨_, c, h1, h3, fun _ => ⟨_, rfl, h6, fun i x hx => ⟨_, (h9 i x hx).len, Rd.mono (fun k hk => (h7 i k hk).1) (fun _ _ => rfl) (h9 i x hx).rd, fun j u hu => ?_⟩⟩⟩
      rw [add_lit, blk_cell h2, ← Nat.add_assoc]
      exact (take_drop_get hu).1
  | .pair a b, _, _, _, h => by
    obtain ⟨c0, c1, φ0, φ1, h1, h2, h3, h4, h5, h6⟩ := h
    exact ⟨c0, c1, h1, Rd.mono h4 (fun _ _ => rfl) h2.rd, Rd.mono h5 (fun _ _ => rfl) h3.rd⟩
theorem Own.nil {w : World} {e : Nat} {t : Ty} {φ : Nat → Prop} : Own w (.sl e t) [] [.slice none 0 0] φ := .inl ⟨rfl, rfl⟩
/-- Flat data leads nowhere. -/
theorem Rd.own {S : Nat → Prop} {w w' : World} : ∀ {t : Ty} {x : t.den} {cs : List Value} {φ : Nat → Prop}, t.flatB = true → Rd S w t x cs → Own w' t x cs φ
  | .int _, _, _, _, _, h => h
  | .bool, _, _, _, _, h => h
  | .str, _, _, _, _, h => h
  | .sl _ _, _, _, _, hf, _ => by cases hf
  | .pair a b, _, _, φ, hf, h => by
    obtain ⟨c0, c1, h1, h2, h3⟩ := h
    simp only [Ty.flatB, Bool.and_eq_true] at hf
    exact ⟨c0, c1, fun _ => False, fun _ => False, h1, Rd.own hf.1 h2, Rd.own hf.2 h3, fun _ h => h.elim, fun _ h => h.elim, fun _ h => h.elim⟩
/-- What a slice that is owned looks like. -/
theorem Own.form {w : World} {e : Nat} {t : Ty} {xs : List t.den} {cs : List Value} {φ : Nat → Prop} (h : Own w (.sl e t) xs cs φ) : ∃ A c, cs = [.slice A xs.length c] ∧ xs.length ≤ c := by
  rcases h with ⟨rfl, rfl⟩ | ⟨g, o, c, cur, f, rfl, _, h3, _⟩
  · exact ⟨none, 0, rfl, Nat.le_refl _⟩
  · exact ⟨_, c, rfl, h3⟩
end Go.Proofs.Ytceffcfnjjlbkaa.E
