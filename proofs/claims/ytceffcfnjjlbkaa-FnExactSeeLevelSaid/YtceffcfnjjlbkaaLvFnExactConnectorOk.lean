/- The law FnExactConnectorOk, by the evaluator. -/
import Derived.Test.YtceffcfnjjlbkaaV13
namespace Go.Proofs.Ytceffcfnjjlbkaa.V
open Go.RowKit
abbrev conn : PK := (true, .pair .bool (.pair .bool (.int .i64)))
def within (a b c : Int) : Bool := decide (b ≤ a) && decide (a ≤ c)
def withinS : Sig := ⟨[i64, i64, i64], [boo], fun x => some (within x.1 x.2.1 x.2.2.1, ())⟩
theorem within_eq (a b c : Int) : whole Try.prog (tab []) Try.f64 noCut allK [i64, i64, i64] [boo] 1 (a, b, c, ()) = if decide (b ≤ a) = true then some (decide (a ≤ c), ()) else some (false, ()) := by kernel_rfl
theorem within_ok : FnOk Try.prog 64 withinS :=
  fnOk tab_nil Try.func64 (by kernel_rfl) rfl noCut allK fun (a, b, c, _) r h => ⟨1, by
    rw [show whole Try.prog (tab []) Try.f64 noCut allK withinS.ps withinS.rs 1 (a, b, c, _) = _ from within_eq a b c, ← h]
    simp only [withinS, within]
    cases decide (b ≤ a) <;> rfl⟩
theorem l01In_eq (a b c : Int) : whole Try.prog (tab []) Try.f63 noCut allK [i64, i64, i64] [boo] 1 (a, b, c, ()) = if decide (b ≤ a) = true then some (decide (a ≤ c), ()) else some (false, ()) := by kernel_rfl
theorem l01In_ok : FnOk Try.prog 63 withinS :=
  fnOk tab_nil Try.func63 (by kernel_rfl) rfl noCut allK fun (a, b, c, _) r h => ⟨1, by
    rw [show whole Try.prog (tab []) Try.f63 noCut allK withinS.ps withinS.rs 1 (a, b, c, _) = _ from l01In_eq a b c, ← h]
    simp only [withinS, within]
    cases decide (b ≤ a) <;> rfl⟩
/-- A connector: On, Level, Count. -/
def connOk (x : Bool × Bool × Int) : Bool := if x.2.1 == x.1 then x.2.2 == 0 else within x.2.2 1 1
def connOkS : Sig := ⟨[conn], [boo], fun x => some (connOk x.1, ())⟩
theorem iConnOk_eq (o l : Bool) (n : Int) : whole Try.prog (tab [(64, withinS)]) Try.f17 noCut allK [conn] [boo] 1 ((o, l, n), ()) = if (l == o) = true then some (n == 0, ()) else some (within n 1 1, ()) := by kernel_rfl
theorem iConnOk_ok : FnOk Try.prog 17 connOkS :=
  fnOk (tab_cons within_ok tab_nil) Try.func17 (by kernel_rfl) rfl noCut allK fun ((o, l, n), _) r h => ⟨1, by
    rw [show whole Try.prog _ Try.f17 noCut allK connOkS.ps connOkS.rs 1 ((o, l, n), _) = _ from iConnOk_eq o l n, ← h]
    simp only [connOkS, connOk]
    split <;> simp_all⟩
theorem sConnOk_eq (o l : Bool) (n : Int) : whole Try.prog (tab [(63, withinS)]) Try.f15 noCut allK [conn] [boo] 1 ((o, l, n), ()) = if (l == o) = true then some (n == 0, ()) else some (within n 1 1, ()) := by kernel_rfl
theorem sConnOk_ok : FnOk Try.prog 15 connOkS :=
  fnOk (tab_cons l01In_ok tab_nil) Try.func15 (by kernel_rfl) rfl noCut allK fun ((o, l, n), _) r h => ⟨1, by
    rw [show whole Try.prog _ Try.f15 noCut allK connOkS.ps connOkS.rs 1 ((o, l, n), _) = _ from sConnOk_eq o l n, ← h]
    simp only [connOkS, connOk]
    split <;> simp_all⟩
def toConnS : Sig := ⟨[conn], [conn], fun x => some x⟩
theorem toConn_eq (o l : Bool) (n : Int) : whole Try.prog (tab []) Try.f16 noCut allK [conn] [conn] 1 ((o, l, n), ()) = some ((o, l, n), ()) := by kernel_rfl
theorem toConn_ok : FnOk Try.prog 16 toConnS :=
  fnOk tab_nil Try.func16 (by kernel_rfl) rfl noCut allK fun ((o, l, n), _) r h => ⟨1, (toConn_eq o l n).trans h⟩
namespace Law.FnExactConnectorOk
abbrev ps : List PK := [conn]
def s : Sig := ⟨ps, [boo], fun x => some (true, ())⟩
theorem eq (o l : Bool) (n : Int) : whole Try.prog (tab [(15, connOkS), (16, toConnS), (17, connOkS)]) Try.f3 noCut allK ps [boo] 1 ((o, l, n), ()) = if (!(connOk (o, l, n) == connOk (o, l, n))) = true then some (false, ()) else some (true, ()) := by kernel_rfl
theorem ok : FnOk Try.prog 3 s :=
  fnOk (tab_cons sConnOk_ok (tab_cons toConn_ok (tab_cons iConnOk_ok tab_nil))) Try.func3 (by kernel_rfl) rfl noCut allK fun ((o, l, n), _) r h => ⟨1, by
    rw [show whole Try.prog _ Try.f3 noCut allK s.ps s.rs 1 ((o, l, n), _) = _ from eq o l n, ← h, beq_self_eq_true]
    rfl⟩
theorem holds (xs : dens ps) (h : WfAll Try.prog ps xs) : s.F xs = some (true, ()) := rfl
end Law.FnExactConnectorOk
end Go.Proofs.Ytceffcfnjjlbkaa.V
