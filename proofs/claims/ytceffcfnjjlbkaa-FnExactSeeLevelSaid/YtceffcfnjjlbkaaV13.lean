/- A typed evaluator for loaded code, 14: this program's small functions. -/
import Derived.Test.YtceffcfnjjlbkaaV12
import Derived.Test.YtceffcfnjjlbkaaProg
namespace Go.Proofs.Ytceffcfnjjlbkaa.V
open Go.RowKit
abbrev i64 : PK := (false, .int .i64)
abbrev boo : PK := (false, .bool)
def allK : Nat → List Nat := fun _ => List.range 300
def noCut : Nat → Bool := fun _ => false
/-- A table of known functions. -/
def tab : List (Nat × Sig) → Nat → Option Sig
  | [], _ => none
  | x :: l, n => if n = x.1 then some x.2 else tab l n
theorem tab_nil {P : Program} : ∀ g s, tab [] g = some s → FnOk P g s := fun g s h => by cases h
theorem tab_cons {P : Program} {n : Nat} {s0 : Sig} {l : List (Nat × Sig)} (h0 : FnOk P n s0) (h : ∀ g s, tab l g = some s → FnOk P g s) : ∀ g s, tab ((n, s0) :: l) g = some s → FnOk P g s := fun g s hg => by
  simp only [tab] at hg
  split at hg
  · rename_i he
    injection hg with hg
    subst he; subst hg
    exact h0
  · exact h g s hg
end Go.Proofs.Ytceffcfnjjlbkaa.V
