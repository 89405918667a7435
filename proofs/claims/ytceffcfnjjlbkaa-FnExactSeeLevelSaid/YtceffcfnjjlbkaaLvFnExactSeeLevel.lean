/- The law FnExactSeeLevel, by the evaluator. -/
import Derived.Test.YtceffcfnjjlbkaaLvFnExactConnectorOk
namespace Go.Proofs.Ytceffcfnjjlbkaa.V
open Go.RowKit
set_option linter.unusedVariables false
def seeLevel (x : Bool × Bool × Int) (b : Bool) : (Bool × Bool × Int) × Int :=
  if (!connOk x) = true then (x, 0)
  else if (b == x.1) = true then ((x.1, b, 0), 0)
  else if decide (IntKind.i64.wrap (x.2.2 + 1) < 2) = true then ((x.1, b, IntKind.i64.wrap (x.2.2 + 1)), 0)
  else if b = true then ((b, b, 0), 1) else ((b, b, 0), 2)
def seeLevelS : Sig := ⟨[conn, boo], [conn, i64], fun x => some ((seeLevel x.1 x.2.1).1, (seeLevel x.1 x.2.1).2, ())⟩
def seeLevelT (x : Bool × Bool × Int) (b : Bool) : Option (dens [conn, i64]) :=
  if (!connOk x) = true then some (x, 0, ())
  else if (b == x.1) = true then some ((x.1, b, 0), 0, ())
  else if decide (IntKind.i64.wrap (x.2.2 + 1) < 2) = true then some ((x.1, b, IntKind.i64.wrap (x.2.2 + 1)), 0, ())
  else if b = true then some ((b, b, 0), 1, ()) else some ((b, b, 0), 2, ())
theorem seeLevelT_eq (x : Bool × Bool × Int) (b : Bool) : seeLevelT x b = some ((seeLevel x b).1, (seeLevel x b).2, ()) := by
  unfold seeLevelT seeLevel
  repeat' split
  all_goals rfl
theorem iSeeLevel_ok : FnOk Try.prog 27 seeLevelS :=
  fnOk (tab_cons iConnOk_ok tab_nil) Try.func27 (by kernel_rfl) rfl noCut allK fun ((o, l, n), b, _) r h => ⟨1, by
    rw [show whole Try.prog (tab [(17, connOkS)]) Try.f27 noCut allK seeLevelS.ps seeLevelS.rs 1 ((o, l, n), b, _) = seeLevelT (o, l, n) b by kernel_rfl, seeLevelT_eq]
    exact h⟩
theorem sSeeLevel_ok : FnOk Try.prog 26 seeLevelS :=
  fnOk (tab_cons sConnOk_ok tab_nil) Try.func26 (by kernel_rfl) rfl noCut allK fun ((o, l, n), b, _) r h => ⟨1, by
    rw [show whole Try.prog (tab [(15, connOkS)]) Try.f26 noCut allK seeLevelS.ps seeLevelS.rs 1 ((o, l, n), b, _) = seeLevelT (o, l, n) b by kernel_rfl, seeLevelT_eq]
    exact h⟩
def eqConn (x y : Bool × Bool × Int) : Bool := if (!(x.1 == y.1)) = true then false else if (!(x.2.1 == y.2.1)) = true then false else if (x.2.2 != y.2.2) = true then false else true
theorem eqConn_self (x : Bool × Bool × Int) : eqConn x x = true := by simp [eqConn]
def eqConnT (x y : Bool × Bool × Int) : Option (dens [boo]) := if (!(x.1 == y.1)) = true then some (false, ()) else if (!(x.2.1 == y.2.1)) = true then some (false, ()) else if (x.2.2 != y.2.2) = true then some (false, ()) else some (true, ())
theorem eqConnT_eq (x y : Bool × Bool × Int) : eqConnT x y = some (eqConn x y, ()) := by
  unfold eqConnT eqConn
  repeat' split
  all_goals rfl
def eqConnS : Sig := ⟨[conn, conn], [boo], fun x => some (eqConn x.1 x.2.1, ())⟩
theorem eqConn_ok : FnOk Try.prog 28 eqConnS :=
  fnOk tab_nil Try.func28 (by kernel_rfl) rfl noCut allK fun ((o, l, n), (o', l', n'), _) r h => ⟨1, by
    rw [show whole Try.prog (tab []) Try.f28 noCut allK eqConnS.ps eqConnS.rs 1 ((o, l, n), (o', l', n'), _) = eqConnT (o, l, n) (o', l', n') by kernel_rfl, eqConnT_eq]
    exact h⟩
namespace Law.FnExactSeeLevel
abbrev ps : List PK := [conn, boo]
def s : Sig := ⟨ps, [boo], fun x => some (true, ())⟩
theorem eq (o l : Bool) (n : Int) (b : Bool) : whole Try.prog (tab [(28, eqConnS), (27, seeLevelS), (26, seeLevelS), (16, toConnS)]) Try.f6 noCut allK ps [boo] 1 ((o, l, n), b, ()) =
    if (!eqConn (seeLevel (o, l, n) b).1 (seeLevel (o, l, n) b).1) = true then some (false, ())
    else if ((seeLevel (o, l, n) b).2 != (seeLevel (o, l, n) b).2) = true then some (false, ()) else some (true, ()) := by kernel_rfl
theorem ok : FnOk Try.prog 6 s :=
  fnOk (tab_cons eqConn_ok (tab_cons iSeeLevel_ok (tab_cons sSeeLevel_ok (tab_cons toConn_ok tab_nil)))) Try.func6 (by kernel_rfl) rfl noCut allK fun ((o, l, n), b, _) r h => ⟨1, by
    rw [show whole Try.prog _ Try.f6 noCut allK s.ps s.rs 1 ((o, l, n), b, _) = _ from eq o l n b, ← h, eqConn_self]
    simp only [bne_self_eq_false, Bool.not_true, Bool.false_eq_true, if_false]
    rfl⟩
theorem holds (xs : dens ps) (h : WfAll Try.prog ps xs) : s.F xs = some (true, ()) := rfl
end Law.FnExactSeeLevel
end Go.Proofs.Ytceffcfnjjlbkaa.V
