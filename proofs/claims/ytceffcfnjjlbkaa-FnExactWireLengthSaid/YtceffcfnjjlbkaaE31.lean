/- The evaluator, 31: plain laws of the loops that recur. -/
import Derived.Test.YtceffcfnjjlbkaaE30
namespace Go.Proofs.Ytceffcfnjjlbkaa.E
set_option linter.unusedVariables false
set_option linter.unusedSimpArgs false
theorem wrap_small {n : Int} (h0 : -9223372036854775808 ≤ n) (h1 : n < 9223372036854775808) : IntKind.i64.wrap n = n := by
  simp only [IntKind.wrap, IntKind.bits, IntKind.signed]
  simp
  omega
theorem len_of {n b r : Nat} (h : n * b ≤ r) (hb : Nat.ble 1 b = true) : n ≤ r := Nat.le_trans (Nat.le_mul_of_pos_right n (Nat.le_of_ble_eq_true hb)) h
theorem wrap_succ {k : Nat} (h : k < 4611686018427387904) : IntKind.i64.wrap ((k : Int) + 1) = ((k + 1 : Nat) : Int) := by
  rw [wrap_small (by omega) (by omega)]
  omega
theorem getD_at {α : Type} {xs : List α} {k : Nat} {z : α} (h : k < xs.length) : xs.getD k z = xs[k] := by simp [h]
theorem ext_upto {α : Type} {xs ys : List α} (hl : ys.length = xs.length) (h : ∀ n, n < xs.length → ys[n]? = xs[n]?) : ys = xs := by
  apply List.ext_getElem?
  intro n
  by_cases hn : n < xs.length
  · exact h n hn
  · rw [List.getElem?_eq_none (by omega), List.getElem?_eq_none (by omega)]
section
variable {α R : Type}
/-- A row filled element by element. -/
theorem fill_row {H : Int → List α → Option R} {xs : List α} {fin : List α → Option R} (hs : ∀ (k : Nat) (ys : List α) (hk : k < xs.length), ys.length = xs.length → H k ys = H ((k + 1 : Nat) : Int) (ys.set k xs[k])) (he : ∀ ys, ys.length = xs.length → H (xs.length : Nat) ys = fin ys) {ys : List α} (hy : ys.length = xs.length) : H 0 ys = fin xs := by
  have key : ∀ (d k : Nat) (ys : List α), k + d = xs.length → ys.length = xs.length → (∀ n, n < k → ys[n]? = xs[n]?) → H k ys = fin xs := fun d => by
    induction d with
    | zero =>
      intro k ys hk hy hi
      rw [show k = xs.length by omega, he ys hy, ext_upto hy (fun n hn => hi n (by omega))]
    | succ d ih =>
      intro k ys hk hy hi
      have h1 : k < xs.length := by omega
      rw [hs k ys h1 hy]
      refine ih (k + 1) _ (by omega) (by simpa using hy) (fun n hn => ?_)
      by_cases hnk : n = k
      · subst hnk
        rw [List.getElem?_set_self (by omega), List.getElem?_eq_getElem h1]
      · rw [List.getElem?_set_ne (Ne.symm hnk)]
        exact hi n (by omega)
  exact key xs.length 0 ys (by omega) hy (fun n hn => absurd hn (by omega))
/-- A walk over n elements that goes on at each. -/
theorem walk_row {H : Int → Option R} {n : Nat} {r : Option R} (hs : ∀ k : Nat, k < n → H k = H ((k + 1 : Nat) : Int)) (he : H (n : Nat) = r) : H 0 = r := by
  have key : ∀ (d k : Nat), k + d = n → H k = r := fun d => by
    induction d with
    | zero => intro k hk; rw [show k = n by omega]; exact he
    | succ d ih => intro k hk; rw [hs k (by omega)]; exact ih (k + 1) (by omega)
  exact key n 0 (by omega)
/-- A walk that stops at the first element without p. -/
theorem all_row {H : Int → Option R} {xs : List α} {p : α → Bool} {t f : Option R} (hs : ∀ (k : Nat) (hk : k < xs.length), H k = if p xs[k] = true then H ((k + 1 : Nat) : Int) else f) (he : H (xs.length : Nat) = t) : H 0 = if xs.all p = true then t else f := by
  have key : ∀ (d k : Nat), k + d = xs.length → H k = if (xs.drop k).all p = true then t else f := fun d => by
    induction d with
    | zero => intro k hk; rw [show k = xs.length by omega, he, List.drop_length]; simp
    | succ d ih =>
      intro k hk
      have h1 : k < xs.length := by omega
      rw [hs k h1, List.drop_eq_getElem_cons h1, List.all_cons]
      cases hp : p xs[k] with
      | true => rw [if_pos rfl, ih (k + 1) (by omega)]; simp
      | false => simp
  simpa using key xs.length 0 (by omega)
/-- Marks: element k gets f of the running number. -/
def marks (f : Int → α) (n : Nat) (m : Int) : List α := (List.range n).map fun (q : Nat) => f (m + (q : Int))
theorem marks_length (f : Int → α) (n : Nat) (m : Int) : (marks f n m).length = n := by simp [marks]
theorem marks_get (f : Int → α) {n : Nat} {m : Int} {q : Nat} (h : q < (marks f n m).length) : (marks f n m)[q] = f (m + (q : Int)) := by simp [marks]
theorem mark_row {H : Int → Int → List α → Option R} {f : Int → α} {n : Nat} {m : Int} {fin : List α → Int → Option R} (hs : ∀ (k : Nat) (ys : List α), k < n → ys.length = n → H (m + (k : Int)) k ys = H (m + ((k + 1 : Nat) : Int)) ((k + 1 : Nat) : Int) (ys.set k (f (m + (k : Int))))) (he : ∀ ys : List α, ys.length = n → H (m + (n : Int)) (n : Nat) ys = fin ys (m + (n : Int))) {ys : List α} (hy : ys.length = n) :
    H m 0 ys = fin (marks f n m) (m + (n : Int)) := by
  have := fill_row (H := fun i ys => H (m + i) i ys) (xs := marks f n m) (fin := fun ys => fin ys (m + (n : Int))) (fun k ys hk hl => by
    rw [marks_length] at hk hl
    rw [hs k ys hk hl, marks_get]) (fun ys hl => by
    rw [marks_length] at hl
    simpa [marks_length] using he ys hl) (ys := ys) (by rw [marks_length]; exact hy)
  simpa using this
end
end Go.Proofs.Ytceffcfnjjlbkaa.E
