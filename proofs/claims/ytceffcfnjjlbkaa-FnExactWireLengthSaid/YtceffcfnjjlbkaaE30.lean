/- The evaluator, 30: a row's input, opened: whatever lies there is data of the evaluator's kinds. -/
import Derived.Test.YtceffcfnjjlbkaaE29
import Derived.WalkKit
import Derived.ProofKit
import Derived.OpenShut
import Derived.ChangeOld
import Derived.Below
import Derived.SizedLaws
import Derived.Deep.Slices
import Derived.Deep.Strs
import Derived.Carry
import Derived.ChangeMaps5
namespace Go.Proofs.Ytceffcfnjjlbkaa.E
open Go.RowKit Go.ChangeShapes Go.WideShapes Go.ChangeAt
set_option linter.unusedVariables false
set_option linter.unusedSimpArgs false
def inW (w : World) (k : Nat) : Prop := k < w.heap.size
theorem cell_block {w : World} {ad : Addr} {u : Value} (h : w.cell? ad = some u) : ad.block < w.heap.size := by
  by_cases hlt : ad.block < w.heap.size
  · exact hlt
  · have : w.heap[ad.block]? = none := Array.getElem?_eq_none (by omega)
    simp [World.cell?, this] at h
def Wf (P : Program) : (t : Ty) → t.den → Prop
  | .int k, n => (Lit.int k n).wf = true
  | .bool, _ => True
  | .str, s => s.size ≤ reachBytes
  | .sl e t, xs => xs.length * P.bytesOf e ≤ reachBytes ∧ ∀ x ∈ xs, Wf P t x
  | .pair a b, x => Wf P a x.1 ∧ Wf P b x.2
section
variable {H : Type} {enc : TypeId × Value → H} {P : Program} {w : World} {base : Nat} {spare : Nat → Bool} {held : Bool}
theorem mem_weightsAll {e : TypeId} {d : DataW H} {q : Nat} (hq : q ∈ d.weights P e) : ∀ {l : List (DataW H)}, d ∈ l → q ∈ DataW.weightsAll P e l
  | [], h => by cases h
  | d' :: l, h => by
    simp only [DataW.weightsAll, List.mem_append]
    rcases List.mem_cons.1 h with rfl | h
    · exact .inl hq
    · exact .inr (mem_weightsAll hq h)
theorem tyFs_ok {rec : TypeId → Option Ty} {n : Nat} (hrec : ∀ {T : TypeId} {t : Ty} {cs : List Value} {x : DataW H × List MemPlace}, rec T = some t → DataW.trod enc P w base spare held n T cs = some x → (∀ q ∈ x.1.weights P T, q ≤ reachBytes) → ∃ y, Rd (inW w) w t y cs ∧ Wf P t y) :
    ∀ {l : List Field} {off : Nat} {t : Ty} {cs : List Value} {xs : List (DataW H × List MemPlace)}, tyFs P rec off l = some t → cs.length = off + t.sz → xs.length = l.length →
      (∀ (i : Nat) (f : Field), l[i]? = some f → DataW.trod enc P w base spare held n f.type ((cs.drop f.offset).take (P.cellsOf f.type)) = xs[i]?) →
      (∀ q ∈ DataW.weightsEach P (l.map (·.type)) (xs.map (·.1)), q ≤ reachBytes) → ∃ y, Rd (inW w) w t y (cs.drop off) ∧ Wf P t y
  | [], off, t, cs, xs, h, hl, hx, hp, hq => by simp [tyFs] at h
  | [f], off, t, cs, xs, h, hl, hx, hp, hq => by
    match xs, hx with
    | [x], _ =>
      simp only [tyFs] at h
      split at h
      · rename_i t' ht'
        split at h
        · rename_i hc
          injection h with h
          subst h
          obtain ⟨ho, hcell⟩ := hc
          have h1 := hp 0 f rfl
          rw [ho, hcell, List.take_of_length_le (by rw [List.length_drop]; omega)] at h1
          exact hrec ht' h1 (fun q hq' => hq q (by simp [DataW.weightsEach, hq']))
        · cases h
      · cases h
  | f :: g :: l, off, t, cs, xs, h, hl, hx, hp, hq => by
    match xs, hx with
    | x :: xs, hx =>
      simp only [tyFs] at h
      split at h
      · rename_i t' ht'
        split at h
        · rename_i u hu
          split at h
          · rename_i hc
            injection h with h
            subst h
            obtain ⟨ho, hcell⟩ := hc
            have h1 := hp 0 f rfl
            rw [ho, hcell] at h1
            have hl' : cs.length = off + t'.sz + u.sz := by
              rw [hl]
              show off + (t'.sz + u.sz) = _
              omega
            obtain ⟨y, k1, k2⟩ := hrec ht' h1 (fun q hq' => hq q (by
              simp only [List.map_cons, DataW.weightsEach, List.mem_append]
              exact .inl hq'))
            obtain ⟨z, m1, m2⟩ := tyFs_ok hrec (xs := xs) hu hl' (by simpa using hx) (fun i f' hf' => by simpa using hp (i + 1) f' (by simpa using hf')) (fun q hq' => hq q (by
              simp only [List.map_cons, DataW.weightsEach, List.mem_append]
              exact .inr (by simpa using hq')))
            have hdd : cs.drop (off + t'.sz) = (cs.drop off).drop t'.sz := by rw [List.drop_drop]
            rw [hdd] at m1
            exact ⟨(y, z), ⟨_, _, (List.take_append_drop _ _).symm, k1, m1⟩, k2, m2⟩
          · cases h
        · cases h
      · cases h
theorem opn : ∀ (n fuel : Nat) {T : TypeId} {t : Ty} {cs : List Value} {x : DataW H × List MemPlace}, tyOf P n T = some t → DataW.trod enc P w base spare held fuel T cs = some x → (∀ q ∈ x.1.weights P T, q ≤ reachBytes) → ∃ y, Rd (inW w) w t y cs ∧ Wf P t y := by
  intro n
  induction n with
  | zero => intro fuel T t cs x h; simp [tyOf] at h
  | succ n ih =>
    intro fuel T t cs x h hd hq
    simp only [tyOf] at h
    split at h
    · rename_i k hu
      injection h with h
      subst h
      obtain ⟨m, rfl, rfl, hw⟩ := DataW.trod_int hu hd
      exact ⟨m, rfl, hw⟩
    · rename_i hu
      injection h with h
      subst h
      obtain ⟨b, rfl, rfl⟩ := DataW.trod_bool hu hd
      exact ⟨b, rfl, trivial⟩
    · rename_i hu
      injection h with h
      subst h
      obtain ⟨s, rfl, rfl, hs⟩ := DataW.trod_string hu hd
      exact ⟨s, rfl, by show s.size ≤ reachBytes; simpa [DataW.weights] using hq⟩
    · rename_i e hu
      split at h
      · rename_i t' ht'
        split at h
        · rename_i hcell
          injection h with h
          subst h
          rcases Go.Deep.open_slice hu hd with ⟨rfl, rfl⟩ | ⟨a, len, cap, m, n', D, Pl, rfl, hb, hl, hm, hmm, rfl, hx⟩
          · exact ⟨[], Rd.nil, by simp, fun x hx => by cases hx⟩
          · have hlm : len ≤ m := by
              rw [hmm]
              split
              · exact hl
              · exact Nat.le_refl _
            simp only [DataW.weights, hu, List.mem_cons, List.mem_append] at hq
            haveI : Inhabited (t'.den × List Value) := ⟨(t'.z, [])⟩
            obtain ⟨f, hf⟩ := Go.Deep.choose_lt (α := t'.den × List Value) (n := len) (p := fun i y => w.cells? base (a.add (i * P.cellsOf e)) (P.cellsOf e) = some y.2 ∧ Rd (inW w) w t' y.1 y.2 ∧ Wf P t' y.1) (fun i hi => by
              obtain ⟨cs', h1, h2⟩ := hx i (by omega)
              obtain ⟨y, k1, k2⟩ := ih n' ht' h2 (fun q hq' => hq q (.inr (.inl (mem_weightsAll hq' (List.mem_map.2 ⟨i, List.mem_range.2 hi, rfl⟩)))))
              exact ⟨(y, cs'), h1, k1, k2⟩)
            have hlen : ((List.range len).map fun i => (f i).1).length = len := by simp
            have hblk : (List.range len).map (fun i => (f i).1) ≠ [] → inW w a.block := fun hne => by
              have h0 : 0 < len := by
                cases len with
                | zero => simp at hne
                | succ n => omega
              obtain ⟨h1, h2, h3⟩ := hf 0 h0
              obtain ⟨_, c1, c2⟩ := World.cells?_some h1
              have hp : 0 < P.cellsOf e := by rw [hcell]; exact sz_pos t'
              have hc := c2 0 hp
              have hq : (f 0).2[0]? = some ((f 0).2[0]'(by omega)) := List.getElem?_eq_getElem _
              rw [hq] at hc
              have := cell_block hc
              show a.block < w.heap.size
              simpa [add_block] using this
            refine ⟨(List.range len).map fun i => (f i).1, ⟨some a, cap, by rw [hlen], by rw [hlen]; exact hl, fun hne => ⟨a, rfl, hblk hne, fun j p hj => ?_⟩⟩, ?_, fun x hx' => ?_⟩
            · have hjl : j < len := by
                have := (List.getElem?_eq_some_iff.1 hj).1
                simpa using this
              have hp : p = (f j).1 := by
                simp [hjl] at hj
                exact hj.symm
              subst hp
              obtain ⟨h1, h2, h3⟩ := hf j hjl
              obtain ⟨_, c1, c2⟩ := World.cells?_some h1
              refine ⟨(f j).2, by rw [c1, hcell], h2, fun i u hiu => ?_⟩
              have hil : i < P.cellsOf e := by
                have := (List.getElem?_eq_some_iff.1 hiu).1
                omega
              rw [← hcell, ← Go.Deep.add_add, c2 i hil]
              exact hiu
            · have h1 := hq _ (.inl rfl)
              simp only [List.length_map, List.length_range] at h1 ⊢
              exact Nat.le_trans (Nat.mul_le_mul_right _ (by omega)) h1
            · obtain ⟨i, hi, rfl⟩ := List.mem_map.1 hx'
              exact (hf i (List.mem_range.1 hi)).2.2
        · cases h
      · cases h
    · rename_i fs hu
      split at h
      · rename_i t' ht'
        split at h
        · rename_i hcell
          injection h with h
          subst h
          obtain ⟨xs, n', _, rfl, hl, hlen, hp⟩ := DataW.trod_struct hu hd
          simp only [DataW.weights, hu] at hq
          obtain ⟨y, k1, k2⟩ := tyFs_ok (n := n') (fun h1 h2 h3 => ih n' h1 h2 h3) ht' (cs := cs) (xs := xs) (by rw [hl, hcell]; omega) (by simpa using hlen) (fun i f hf => hp i f (by simpa using hf)) hq
          exact ⟨y, by simpa using k1, k2⟩
        · cases h
      · cases h
    · cases h

/-! ### all arguments -/
def pkOf (P : Program) (n : Nat) (T : TypeId) : Option PK :=
  match tyOf P n T with
  | some t => match P.underlying T with
    | some (.struct _) => some (.val true t)
    | _ => some (.val false t)
  | none => none
def pksOf (P : Program) (n : Nat) : List TypeId → Option (List PK)
  | [] => some []
  | T :: l =>
    match pkOf P n T, pksOf P n l with
    | some p, some ps => some (p :: ps)
    | _, _ => none
def WfAll (P : Program) : (ps : List PK) → dens ps → Prop
  | [], _ => True
  | .val _ t :: ps, x => Wf P t x.1 ∧ WfAll P ps x.2
  | .mu _ _ :: ps, x => WfAll P ps x.2
  | .mv _ _ :: ps, x => WfAll P ps x.2
  | .ref _ _ _ :: ps, x => WfAll P ps x.2
  | .rdp _ _ :: ps, x => WfAll P ps x.2
  | .fn _ _ :: ps, x => WfAll P ps x.2
  | .arr _ _ :: ps, x => WfAll P ps x.2
theorem pk_ok {n : Nat} {T : TypeId} {p : PK} {r : Reach} {b0 : Nat} {v : Value} {d : DataW H} {ps : List MemPlace} (h : pkOf P n T = some p) (hval : Value.okWide P w r b0 T v) (hd : DataW.Trod enc P w base spare held T v d ps) (hq : ∀ q ∈ d.weights P T, q ≤ reachBytes) :
    ∃ (g : Bool) (t : Ty), p = .val g t ∧ ∃ (x : t.den) (cs : List Value), Pack g cs v ∧ Rd (inW w) w t x cs ∧ Wf P t x := by
  unfold pkOf at h
  split at h
  · rename_i t ht
    obtain ⟨fuel, hf⟩ := hd
    obtain ⟨y, h1, h2⟩ := opn n fuel ht hf hq
    split at h
    · rename_i fs hu
      injection h with h
      obtain ⟨cs, rfl, _⟩ := okWide_struct hu hval
      exact ⟨true, t, h.symm, y, cs.toList, by simp [Pack], h1, h2⟩
    · rename_i hns
      injection h with h
      refine ⟨false, t, h.symm, y, [v], by simp [Pack], ?_, h2⟩
      have hv : v.cells.toList = [v] := by
        cases n with
        | zero => simp [tyOf] at ht
        | succ n =>
          simp only [tyOf] at ht
          split at ht
          · rename_i hu
            obtain ⟨_, rfl⟩ := okWide_int hu hval
            rfl
          · rename_i hu
            obtain ⟨_, rfl⟩ := okWide_bool hu hval
            rfl
          · rename_i hu
            obtain ⟨_, rfl⟩ := okWide_string hu hval
            rfl
          · rename_i hu
            obtain ⟨_, _, _, rfl⟩ := okWide_slice hu hval
            rfl
          · rename_i fs hu
            exact absurd hu (hns fs)
          · cases ht
      rw [hv] at h1
      exact h1
  · cases h
theorem open_all {n : Nat} {r : Reach} {b0 : Nat} : ∀ {ts : List TypeId} {pks : List PK} {vs : List Value} {ds : List (DataW H)} {ps : List MemPlace}, pksOf P n ts = some pks → DataW.TrodAll enc P w base spare held ts vs ds ps →
    (∀ (j : Nat) t v, ts[j]? = some t → vs[j]? = some v → Value.okWide P w r b0 t v) → (∀ q ∈ DataW.weightsEach P ts ds, q ≤ reachBytes) → ∃ xs : dens pks, ArgsOk P (inW w) w pks xs vs (fun _ => False) ∧ WfAll P pks xs
  | [], pks, vs, ds, ps, h, hd, hval, hq => by
    simp only [pksOf] at h
    injection h with h
    subst h
    match vs, ds, hd with
    | [], [], _ => exact ⟨(), rfl, trivial⟩
  | T :: ts, pks, vs, ds, ps, h, hd, hval, hq => by
    simp only [pksOf] at h
    split at h
    · rename_i p pks' hp hps
      injection h with h
      subst h
      match vs, ds, hd with
      | v :: vs, d :: ds, hd =>
        obtain ⟨p1, q1, h1, h2, _⟩ := hd
        simp only [DataW.weightsEach, List.mem_append] at hq
        obtain ⟨g, t, rfl, x, cs, k1, k2, k3⟩ := pk_ok hp (hval 0 T v rfl rfl) h1 (fun q hq' => hq q (.inl hq'))
        obtain ⟨xs, m1, m2⟩ := open_all hps h2 (fun j t v ht hv => hval (j + 1) t v (by simpa using ht) (by simpa using hv)) (fun q hq' => hq q (.inr hq'))
        exact ⟨(x, xs), ⟨v, vs, _, _, rfl, ⟨cs, k1, k2⟩, m1, fun k h => h, fun k h => h, fun k h => h.elim⟩, k3, m2⟩
    · cases h
theorem trodAll_len : ∀ {ts : List TypeId} {vs : List Value} {ds : List (DataW H)} {ps : List MemPlace}, DataW.TrodAll enc P w base spare held ts vs ds ps → ds.length = ts.length
  | [], vs, ds, ps, h => by
    match vs, ds, h with
    | [], [], h => rfl
  | t :: ts, vs, ds, ps, h => by
    match vs, ds, h with
    | v :: vs, d :: ds, h =>
      obtain ⟨p, q, h1, h2, h3⟩ := h
      simp [trodAll_len h2]
/-- A function without in-out parameters that says a bool. -/
theorem post_bool {S M : Nat → Prop} {w w' : World} {ps : List PK} {vs : List Value} {o : outs ps} {b : Bool} {e : Ending} (h : Post S M w ps [.own false .bool] vs o (b, ()) e w') (hM : ∀ k, ¬ M k) : e = .returned (.bool b) ∧ Below w.heap.size w w' := by
  obtain ⟨us, φo, φr, S', _, hr, hret, hf, _⟩ := h
  obtain ⟨v, vs', φ0, φ1, rfl, ⟨cs, h1, h2⟩, h3, _⟩ := hr
  obtain rfl : vs' = [] := h3
  obtain rfl : cs = [.bool b] := h2
  have h1 : [Value.bool b] = [v] := h1
  injection h1 with h1
  subst h1
  refine ⟨?_, hf.os, hf.tape, hf.output, hf.size, fun k hk => hf.kept k hk (hM k)⟩
  rcases hret with ⟨v, hv, rfl⟩ | ⟨hl, _⟩
  · injection hv with hv
    rw [hv]
  · exact absurd rfl hl
theorem trodAll_below (hl : laidOutB P = true) {W W' : World} (hb : Below W.heap.size W W') : ∀ {ts : List TypeId} {vs : List Value} {ds : List (DataW H)} {ps : List MemPlace}, (ts.all fun t => P.readableRec t && decide (t < P.types.size)) = true →
    DataW.TrodAll enc P W 0 (fun _ => true) true ts vs ds ps → DataW.TrodAll enc P W' 0 (fun b => decide (b < W.heap.size)) true ts vs ds ps
  | [], vs, ds, ps, ht, h => by
    match vs, ds, h with
    | [], [], h => exact h
  | t :: ts, vs, ds, ps, ht, h => by
    match vs, ds, h with
    | v :: vs, d :: ds, h =>
      obtain ⟨p, q, h1, h2, h3⟩ := h
      simp only [List.all_cons, Bool.and_eq_true, decide_eq_true_eq] at ht
      exact ⟨p, q, Below.trod hl ht.1.1 ht.1.2 h1 hb (by obtain ⟨m, hm⟩ := h1; exact DataW.trod_lt m _ _ _ hm), trodAll_below hl hb ht.2 h2, h3⟩
end
end Go.Proofs.Ytceffcfnjjlbkaa.E
