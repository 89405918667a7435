/- A typed evaluator for loaded code, 13: a row's input, opened: whatever lies there is data of the evaluator's kinds. -/
import Derived.Test.YtceffcfnjjlbkaaV11
import Derived.WalkKit
import Derived.ProofKit
import Derived.OpenShut
import Derived.ChangeOld
import Derived.Below
import Derived.SizedLaws
import Derived.Deep.Slices
import Derived.Deep.Strs
import Derived.Carry
import Derived.ChangeMaps5
namespace Go.Proofs.Ytceffcfnjjlbkaa.V
open Go.RowKit Go.ChangeShapes Go.WideShapes Go.ChangeAt Go.Proofs.YtceffcfnjjlbkaaW.PrintWords Go.Proofs.YtceffcfnjjlbkaaW.PrintLast Go.Proofs.YtceffcfnjjlbkaaW.PrintMore
set_option linter.unusedVariables false
set_option linter.unusedSimpArgs false
/-- A struct's parts, one behind the other. -/
def tyFs (P : Program) (rec : TypeId → Option Ty) : Nat → List Field → Option Ty
  | _, [] => none
  | off, [f] =>
    match rec f.type with
    | some t => if f.offset = off ∧ P.cellsOf f.type = t.sz then some t else none
    | none => none
  | off, f :: g :: l =>
    match rec f.type with
    | some t =>
      match tyFs P rec (off + t.sz) (g :: l) with
      | some u => if f.offset = off ∧ P.cellsOf f.type = t.sz then some (.pair t u) else none
      | none => none
    | none => none
/-- A type's data, read off the program's table. -/
def tyOf (P : Program) : Nat → TypeId → Option Ty
  | 0, _ => none
  | n + 1, T =>
    match P.underlying T with
    | some (.int k) => some (.int k)
    | some .bool => some .bool
    | some .string => some .str
    | some (.slice e) =>
      match tyOf P n e with
      | some t => if P.cellsOf e = t.sz then some (.sl e t) else none
      | none => none
    | some (.struct fs) =>
      match tyFs P (tyOf P n) 0 fs.toList with
      | some t => if P.cellsOf T = t.sz then some t else none
      | none => none
    | _ => none
def Wf (P : Program) : (t : Ty) → t.den → Prop
  | .int k, n => (Lit.int k n).wf = true
  | .bool, _ => True
  | .str, s => s.size ≤ reachBytes
  | .sl e t, xs => xs.length * P.bytesOf e ≤ reachBytes ∧ ∀ x ∈ xs, Wf P t x
  | .pair a b, x => Wf P a x.1 ∧ Wf P b x.2
section
variable {H : Type} {enc : TypeId × Value → H} {P : Program} {w : World} {base : Nat} {spare : Nat → Bool} {held : Bool}
theorem mem_weightsAll {e : TypeId} {d : DataW H} {q : Nat} (hq : q ∈ d.weights P e) : ∀ {l : List (DataW H)}, d ∈ l → q ∈ DataW.weightsAll P e l
  | [], h => by cases h
  | d' :: l, h => by
    simp only [DataW.weightsAll, List.mem_append]
    rcases List.mem_cons.1 h with rfl | h
    · exact .inl hq
    · exact .inr (mem_weightsAll hq h)
theorem tyFs_ok {rec : TypeId → Option Ty} {n : Nat} (hrec : ∀ {T : TypeId} {t : Ty} {cs : List Value} {x : DataW H × List MemPlace}, rec T = some t → DataW.trod enc P w base spare held n T cs = some x → (∀ q ∈ x.1.weights P T, q ≤ reachBytes) → ∃ y, t.kd.K w y cs ∧ Wf P t y) :
    ∀ {l : List Field} {off : Nat} {t : Ty} {cs : List Value} {xs : List (DataW H × List MemPlace)}, tyFs P rec off l = some t → cs.length = off + t.sz → xs.length = l.length →
      (∀ (i : Nat) (f : Field), l[i]? = some f → DataW.trod enc P w base spare held n f.type ((cs.drop f.offset).take (P.cellsOf f.type)) = xs[i]?) →
      (∀ q ∈ DataW.weightsEach P (l.map (·.type)) (xs.map (·.1)), q ≤ reachBytes) → ∃ y, t.kd.K w y (cs.drop off) ∧ Wf P t y
  | [], off, t, cs, xs, h, hl, hx, hp, hq => by simp [tyFs] at h
  | [f], off, t, cs, xs, h, hl, hx, hp, hq => by
    match xs, hx with
    | [x], _ =>
      simp only [tyFs] at h
      split at h
      · rename_i t' ht'
        split at h
        · rename_i hc
          injection h with h
          subst h
          obtain ⟨ho, hcell⟩ := hc
          have h1 := hp 0 f rfl
          rw [ho, hcell, List.take_of_length_le (by rw [List.length_drop]; omega)] at h1
          exact hrec ht' h1 (fun q hq' => hq q (by simp [DataW.weightsEach, hq']))
        · cases h
      · cases h
  | f :: g :: l, off, t, cs, xs, h, hl, hx, hp, hq => by
    match xs, hx with
    | x :: xs, hx =>
      simp only [tyFs] at h
      split at h
      · rename_i t' ht'
        split at h
        · rename_i u hu
          split at h
          · rename_i hc
            injection h with h
            subst h
            obtain ⟨ho, hcell⟩ := hc
            have h1 := hp 0 f rfl
            rw [ho, hcell] at h1
            have hl' : cs.length = off + t'.sz + u.sz := by
              rw [hl]
              show off + (t'.sz + u.sz) = _
              omega
            obtain ⟨y, k1, k2⟩ := hrec ht' h1 (fun q hq' => hq q (by
              simp only [List.map_cons, DataW.weightsEach, List.mem_append]
              exact .inl hq'))
            obtain ⟨z, m1, m2⟩ := tyFs_ok hrec (xs := xs) hu hl' (by simpa using hx) (fun i f' hf' => by simpa using hp (i + 1) f' (by simpa using hf')) (fun q hq' => hq q (by
              simp only [List.map_cons, DataW.weightsEach, List.mem_append]
              exact .inr (by simpa using hq')))
            have hdd : cs.drop (off + t'.sz) = (cs.drop off).drop t'.sz := by rw [List.drop_drop]
            rw [hdd] at m1
            exact ⟨(y, z), ⟨_, _, (List.take_append_drop _ _).symm, k1, m1⟩, k2, m2⟩
          · cases h
        · cases h
      · cases h
theorem opn : ∀ (n fuel : Nat) {T : TypeId} {t : Ty} {cs : List Value} {x : DataW H × List MemPlace}, tyOf P n T = some t → DataW.trod enc P w base spare held fuel T cs = some x → (∀ q ∈ x.1.weights P T, q ≤ reachBytes) → ∃ y, t.kd.K w y cs ∧ Wf P t y := by
  intro n
  induction n with
  | zero => intro fuel T t cs x h; simp [tyOf] at h
  | succ n ih =>
    intro fuel T t cs x h hd hq
    simp only [tyOf] at h
    split at h
    · rename_i k hu
      injection h with h
      subst h
      obtain ⟨m, rfl, rfl, hw⟩ := DataW.trod_int hu hd
      exact ⟨m, rfl, hw⟩
    · rename_i hu
      injection h with h
      subst h
      obtain ⟨b, rfl, rfl⟩ := DataW.trod_bool hu hd
      exact ⟨b, rfl, trivial⟩
    · rename_i hu
      injection h with h
      subst h
      obtain ⟨s, rfl, rfl, hs⟩ := DataW.trod_string hu hd
      exact ⟨s, rfl, by show s.size ≤ reachBytes; simpa [DataW.weights] using hq⟩
    · rename_i e hu
      split at h
      · rename_i t' ht'
        split at h
        · rename_i hcell
          injection h with h
          subst h
          rcases Go.Deep.open_slice hu hd with ⟨rfl, rfl⟩ | ⟨a, len, cap, m, n', D, Pl, rfl, hb, hl, hm, hmm, rfl, hx⟩
          · exact ⟨[], ⟨none, 0, rfl, Nat.le_refl _, Kd.C_nil _ _⟩, by simp, fun x hx => by cases hx⟩
          · have hlm : len ≤ m := by
              rw [hmm]
              split
              · exact hl
              · exact Nat.le_refl _
            simp only [DataW.weights, hu, List.mem_cons, List.mem_append] at hq
            haveI : Inhabited (t'.den × List Value) := ⟨(t'.z, [])⟩
            obtain ⟨f, hf⟩ := Go.Deep.choose_lt (α := t'.den × List Value) (n := len) (p := fun i y => w.cells? base (a.add (i * P.cellsOf e)) (P.cellsOf e) = some y.2 ∧ t'.kd.K w y.1 y.2 ∧ Wf P t' y.1) (fun i hi => by
              obtain ⟨cs', h1, h2⟩ := hx i (by omega)
              obtain ⟨y, k1, k2⟩ := ih n' ht' h2 (fun q hq' => hq q (.inr (.inl (mem_weightsAll hq' (List.mem_map.2 ⟨i, List.mem_range.2 hi, rfl⟩)))))
              exact ⟨(y, cs'), h1, k1, k2⟩)
            have hlen : ((List.range len).map fun i => (f i).1).length = len := by simp
            refine ⟨(List.range len).map fun i => (f i).1, ⟨some a, cap, by rw [hlen], by rw [hlen]; exact hl, rfl, ?_, fun _ => ⟨a, rfl, fun j p hj => ?_⟩⟩, ?_, fun x hx' => ?_⟩
            · rw [hlen]
              have : maxLen = 9223372036854775807 := by decide
              omega
            · have hjl : j < len := by
                have := (List.getElem?_eq_some_iff.1 hj).1
                simpa using this
              have hp : p = (f j).1 := by
                simp [hjl] at hj
                exact hj.symm
              subst hp
              obtain ⟨h1, h2, h3⟩ := hf j hjl
              obtain ⟨_, c1, c2⟩ := World.cells?_some h1
              refine ⟨(f j).2, by rw [c1, hcell, kd_sz], h2, fun i u hiu => ?_⟩
              have hil : i < P.cellsOf e := by
                have := (List.getElem?_eq_some_iff.1 hiu).1
                omega
              rw [kd_sz, ← hcell, ← Go.Deep.add_add, c2 i hil]
              exact hiu
            · have h1 := hq _ (.inl rfl)
              simp only [List.length_map, List.length_range] at h1 ⊢
              exact Nat.le_trans (Nat.mul_le_mul_right _ (by omega)) h1
            · obtain ⟨i, hi, rfl⟩ := List.mem_map.1 hx'
              exact (hf i (List.mem_range.1 hi)).2.2
        · cases h
      · cases h
    · rename_i fs hu
      split at h
      · rename_i t' ht'
        split at h
        · rename_i hcell
          injection h with h
          subst h
          obtain ⟨xs, n', _, rfl, hl, hlen, hp⟩ := DataW.trod_struct hu hd
          simp only [DataW.weights, hu] at hq
          obtain ⟨y, k1, k2⟩ := tyFs_ok (n := n') (fun h1 h2 h3 => ih n' h1 h2 h3) ht' (cs := cs) (xs := xs) (by rw [hl, hcell]; omega) (by simpa using hlen) (fun i f hf => hp i f (by simpa using hf)) hq
          exact ⟨y, by simpa using k1, k2⟩
        · cases h
      · cases h
    · cases h

/-! ### all arguments -/
def pkOf (P : Program) (n : Nat) (T : TypeId) : Option PK :=
  match tyOf P n T with
  | some t => match P.underlying T with
    | some (.struct _) => some (true, t)
    | _ => some (false, t)
  | none => none
def pksOf (P : Program) (n : Nat) : List TypeId → Option (List PK)
  | [] => some []
  | T :: l =>
    match pkOf P n T, pksOf P n l with
    | some p, some ps => some (p :: ps)
    | _, _ => none
def WfAll (P : Program) : (ps : List PK) → dens ps → Prop
  | [], _ => True
  | p :: ps, x => Wf P p.2 x.1 ∧ WfAll P ps x.2
theorem pk_ok {n : Nat} {T : TypeId} {p : PK} {r : Reach} {b0 : Nat} {v : Value} {d : DataW H} {ps : List MemPlace} (h : pkOf P n T = some p) (hval : Value.okWide P w r b0 T v) (hd : DataW.Trod enc P w base spare held T v d ps) (hq : ∀ q ∈ d.weights P T, q ≤ reachBytes) :
    ∃ (x : p.2.den) (cs : List Value), Pack p.1 cs v ∧ p.2.kd.K w x cs ∧ Wf P p.2 x := by
  unfold pkOf at h
  split at h
  · rename_i t ht
    obtain ⟨fuel, hf⟩ := hd
    obtain ⟨y, h1, h2⟩ := opn n fuel ht hf hq
    split at h
    · rename_i fs hu
      injection h with h
      subst h
      obtain ⟨cs, rfl, _⟩ := okWide_struct hu hval
      exact ⟨y, cs.toList, by simp [Pack], h1, h2⟩
    · rename_i hns
      injection h with h
      subst h
      refine ⟨y, [v], by simp [Pack], ?_, h2⟩
      have hv : v.cells.toList = [v] := by
        cases n with
        | zero => simp [tyOf] at ht
        | succ n =>
          simp only [tyOf] at ht
          split at ht
          · rename_i hu
            obtain ⟨_, rfl⟩ := okWide_int hu hval
            rfl
          · rename_i hu
            obtain ⟨_, rfl⟩ := okWide_bool hu hval
            rfl
          · rename_i hu
            obtain ⟨_, rfl⟩ := okWide_string hu hval
            rfl
          · rename_i hu
            obtain ⟨_, _, _, rfl⟩ := okWide_slice hu hval
            rfl
          · rename_i fs hu
            exact absurd hu (hns fs)
          · cases ht
      rw [hv] at h1
      exact h1
  · cases h
theorem open_all {n : Nat} {r : Reach} {b0 : Nat} : ∀ {ts : List TypeId} {pks : List PK} {vs : List Value} {ds : List (DataW H)} {ps : List MemPlace}, pksOf P n ts = some pks → DataW.TrodAll enc P w base spare held ts vs ds ps →
    (∀ (j : Nat) t v, ts[j]? = some t → vs[j]? = some v → Value.okWide P w r b0 t v) → (∀ q ∈ DataW.weightsEach P ts ds, q ≤ reachBytes) → ∃ xs : dens pks, ArgsK w pks xs vs ∧ WfAll P pks xs
  | [], pks, vs, ds, ps, h, hd, hval, hq => by
    simp only [pksOf] at h
    injection h with h
    subst h
    match vs, ds, hd with
    | [], [], _ => exact ⟨(), rfl, trivial⟩
  | T :: ts, pks, vs, ds, ps, h, hd, hval, hq => by
    simp only [pksOf] at h
    split at h
    · rename_i p pks' hp hps
      injection h with h
      subst h
      match vs, ds, hd with
      | v :: vs, d :: ds, hd =>
        obtain ⟨p1, q1, h1, h2, _⟩ := hd
        simp only [DataW.weightsEach, List.mem_append] at hq
        obtain ⟨x, cs, k1, k2, k3⟩ := pk_ok hp (hval 0 T v rfl rfl) h1 (fun q hq' => hq q (.inl hq'))
        obtain ⟨xs, m1, m2⟩ := open_all hps h2 (fun j t v ht hv => hval (j + 1) t v (by simpa using ht) (by simpa using hv)) (fun q hq' => hq q (.inr hq'))
        exact ⟨(x, xs), ⟨v, vs, cs, rfl, k1, k2, m1⟩, k3, m2⟩
    · cases h
theorem trodAll_len : ∀ {ts : List TypeId} {vs : List Value} {ds : List (DataW H)} {ps : List MemPlace}, DataW.TrodAll enc P w base spare held ts vs ds ps → ds.length = ts.length
  | [], vs, ds, ps, h => by
    match vs, ds, h with
    | [], [], h => rfl
  | t :: ts, vs, ds, ps, h => by
    match vs, ds, h with
    | v :: vs, d :: ds, h =>
      obtain ⟨p, q, h1, h2, h3⟩ := h
      simp [trodAll_len h2]
theorem ret_bool {w : World} {B : Nat} {φ : Nat → Prop} {b : Bool} {us : List Value} {e : Ending} (hf : Freshs w B [(false, .bool)] φ (b, ()) us) (hr : Ret us e) : e = .returned (.bool b) := by
  obtain ⟨v, vs', cs, _, _, rfl, h1, h2, h3, _⟩ := hf
  obtain rfl : vs' = [] := h3
  obtain rfl : cs = [.bool b] := h2
  have h1 : [Value.bool b] = [v] := h1
  injection h1 with h1
  subst h1
  rcases hr with ⟨v, hv, rfl⟩ | ⟨hl, _⟩
  · injection hv with hv
    rw [hv]
  · exact absurd rfl hl
theorem trodAll_below (hl : laidOutB P = true) {W W' : World} (hb : Below W.heap.size W W') : ∀ {ts : List TypeId} {vs : List Value} {ds : List (DataW H)} {ps : List MemPlace}, (ts.all fun t => P.readableRec t && decide (t < P.types.size)) = true →
    DataW.TrodAll enc P W 0 (fun _ => true) true ts vs ds ps → DataW.TrodAll enc P W' 0 (fun b => decide (b < W.heap.size)) true ts vs ds ps
  | [], vs, ds, ps, ht, h => by
    match vs, ds, h with
    | [], [], h => exact h
  | t :: ts, vs, ds, ps, ht, h => by
    match vs, ds, h with
    | v :: vs, d :: ds, h =>
      obtain ⟨p, q, h1, h2, h3⟩ := h
      simp only [List.all_cons, Bool.and_eq_true, decide_eq_true_eq] at ht
      exact ⟨p, q, Below.trod hl ht.1.1 ht.1.2 h1 hb (by obtain ⟨m, hm⟩ := h1; exact DataW.trod_lt m _ _ _ hm), trodAll_below hl hb ht.2 h2, h3⟩
end
end Go.Proofs.Ytceffcfnjjlbkaa.V
