/- The walks of laws.FnExactRefreshCost. -/
import Derived.Test.YtceffcfnjjlbkaaE30
import Derived.Test.YtceffcfnjjlbkaaProg
namespace Go.Proofs.Ytceffcfnjjlbkaa.E
open Go.RowKit
set_option linter.unusedVariables false
set_option linter.unusedSimpArgs false
set_option maxRecDepth 100000
/-! ### laws.szIntS -/
abbrev ps_laws_szIntS : List PK := [(.val false (.sl 3 (.int .i64))), (.val false (.int .i64))]
abbrev rs_laws_szIntS : List RK := [(.own false (.int .i64))]
section
abbrev w_laws_szIntS_keep : Nat → List Nat := kp []
abbrev w_laws_szIntS_cut : Nat → Bool := memC []
abbrev w_laws_szIntS_Γ : Nat → Option Sig := tab []
theorem w_laws_szIntS_0 (j : Nat) (X : dens ps_laws_szIntS) : whole Try.prog w_laws_szIntS_Γ Try.f77 w_laws_szIntS_cut w_laws_szIntS_keep ps_laws_szIntS rs_laws_szIntS (j + 1) X =
    if decide (IntKind.i64.wrap (X.snd.fst - (↑(List.length X.fst) : Int)) < 0) = true then
      some ((), ((Int.negSucc 0), ()))
    else
      some ((), ((IntKind.i64.wrap (X.snd.fst - (↑(List.length X.fst) : Int))), ())) := by kernel_rfl
end
noncomputable def F_laws_szIntS : (List Int) × Int × Unit → Option ((Unit) × Int × Unit) := (sigOf Try.prog (w_laws_szIntS_Γ) Try.f77 w_laws_szIntS_cut w_laws_szIntS_keep ps_laws_szIntS rs_laws_szIntS).F
theorem ok_laws_szIntS : FnOk Try.prog 77 ⟨ps_laws_szIntS, rs_laws_szIntS, F_laws_szIntS⟩ := sigOk (Γ := w_laws_szIntS_Γ) (cut := w_laws_szIntS_cut) (keep := w_laws_szIntS_keep) tab_nil Try.func77 (by kernel_rfl) rfl
theorem F_laws_szIntS_eq (X : (List Int) × Int × Unit) : F_laws_szIntS X =
    if decide (IntKind.i64.wrap (X.snd.fst - (↑(List.length X.fst) : Int)) < 0) = true then
      some ((), ((Int.negSucc 0), ()))
    else
      some ((), ((IntKind.i64.wrap (X.snd.fst - (↑(List.length X.fst) : Int))), ())) := by
  show lim (fun j => whole Try.prog (w_laws_szIntS_Γ) Try.f77 w_laws_szIntS_cut w_laws_szIntS_keep ps_laws_szIntS rs_laws_szIntS j X) = _
  rw [lim_succ (fun j r h => whole_mono j r h)]
  simp only [w_laws_szIntS_0, lim_ite, lim_bind, lim_const]
  all_goals rfl

/-! ### laws.szLinePacket -/
abbrev ps_laws_szLinePacket : List PK := [(.val true (.pair (.int .i64) (.pair (.int .i64) (.pair (.int .i64) (.sl 3 (.int .i64)))))), (.val false (.int .i64))]
abbrev rs_laws_szLinePacket : List RK := [(.own false (.int .i64))]
section
variable (F_laws_szIntS : dens ps_laws_szIntS → Option (outs ps_laws_szIntS × rdens rs_laws_szIntS))
abbrev w_laws_szLinePacket_keep : Nat → List Nat := kp []
abbrev w_laws_szLinePacket_cut : Nat → Bool := memC []
abbrev w_laws_szLinePacket_Γ : Nat → Option Sig := tab [(77, ⟨ps_laws_szIntS, rs_laws_szIntS, F_laws_szIntS⟩)]
theorem w_laws_szLinePacket_0 (j : Nat) (X : dens ps_laws_szLinePacket) : whole Try.prog (w_laws_szLinePacket_Γ F_laws_szIntS) Try.f84 w_laws_szLinePacket_cut w_laws_szLinePacket_keep ps_laws_szLinePacket rs_laws_szLinePacket (j + 1) X =
    (F_laws_szIntS ((X.fst.snd.snd.snd), ((X.snd.fst), ()))).bind fun r0 =>
      if decide (r0.snd.fst < 0) = true then
        some ((), ((Int.negSucc 0), ()))
      else
        some ((), ((r0.snd.fst), ())) := by kernel_rfl
end
noncomputable def F_laws_szLinePacket : (Int × Int × Int × List Int) × Int × Unit → Option ((Unit) × Int × Unit) := (sigOf Try.prog (w_laws_szLinePacket_Γ F_laws_szIntS) Try.f84 w_laws_szLinePacket_cut w_laws_szLinePacket_keep ps_laws_szLinePacket rs_laws_szLinePacket).F
theorem ok_laws_szLinePacket : FnOk Try.prog 84 ⟨ps_laws_szLinePacket, rs_laws_szLinePacket, F_laws_szLinePacket⟩ := sigOk (Γ := w_laws_szLinePacket_Γ F_laws_szIntS) (cut := w_laws_szLinePacket_cut) (keep := w_laws_szLinePacket_keep) (tab_cons ok_laws_szIntS tab_nil) Try.func84 (by kernel_rfl) rfl
theorem F_laws_szLinePacket_eq (X : (Int × Int × Int × List Int) × Int × Unit) : F_laws_szLinePacket X =
    (F_laws_szIntS ((X.fst.snd.snd.snd), ((X.snd.fst), ()))).bind fun r0 =>
      if decide (r0.snd.fst < 0) = true then
        some ((), ((Int.negSucc 0), ()))
      else
        some ((), ((r0.snd.fst), ())) := by
  show lim (fun j => whole Try.prog (w_laws_szLinePacket_Γ F_laws_szIntS) Try.f84 w_laws_szLinePacket_cut w_laws_szLinePacket_keep ps_laws_szLinePacket rs_laws_szLinePacket j X) = _
  rw [lim_succ (fun j r h => whole_mono j r h)]
  simp only [w_laws_szLinePacket_0, lim_ite, lim_bind, lim_const]
  all_goals rfl

/-! ### laws.szLinePacketS -/
abbrev ps_laws_szLinePacketS : List PK := [(.val false (.sl 105 (.pair (.int .i64) (.pair (.int .i64) (.pair (.int .i64) (.sl 3 (.int .i64))))))), (.val false (.int .i64))]
abbrev rs_laws_szLinePacketS : List RK := [(.own false (.int .i64))]
section
variable (F_laws_szLinePacket : dens ps_laws_szLinePacket → Option (outs ps_laws_szLinePacket × rdens rs_laws_szLinePacket))
abbrev w_laws_szLinePacketS_keep : Nat → List Nat := kp [(5, [0, 1, 5])]
abbrev w_laws_szLinePacketS_cut : Nat → Bool := memC []
abbrev w_laws_szLinePacketS_Γ : Nat → Option Sig := tab [(84, ⟨ps_laws_szLinePacket, rs_laws_szLinePacket, F_laws_szLinePacket⟩)]
noncomputable def w_laws_szLinePacketS_5 (j : Nat) (X : dens ps_laws_szLinePacketS) (v0 : List (Ty.den (.pair (.int .i64) (.pair (.int .i64) (.pair (.int .i64) (.sl 3 (.int .i64))))))) (v1 : Int) (v2 : Int) : Option (outs ps_laws_szLinePacketS × rdens rs_laws_szLinePacketS) := run Try.prog (w_laws_szLinePacketS_Γ F_laws_szLinePacket) (fin Try.prog Try.f49 ps_laws_szLinePacketS rs_laws_szLinePacketS X) w_laws_szLinePacketS_cut (resvP ps_laws_szLinePacketS X startN) w_laws_szLinePacketS_keep j (headTodo 5 (bodyOf Try.f49))
  ⟨sparse 27 0 [(0, (.c (.bor 105 (.pair (.int .i64) (.pair (.int .i64) (.pair (.int .i64) (.sl 3 (.int .i64))))) v0))), (1, (.c (.int .i64 v1))), (5, (.c (.int .i64 v2)))], []⟩
theorem w_laws_szLinePacketS_0 (j : Nat) (X : dens ps_laws_szLinePacketS) : whole Try.prog (w_laws_szLinePacketS_Γ F_laws_szLinePacket) Try.f49 w_laws_szLinePacketS_cut w_laws_szLinePacketS_keep ps_laws_szLinePacketS rs_laws_szLinePacketS (j + 1) X =
    if decide (IntKind.i64.wrap (X.snd.fst - (↑(List.length X.fst) : Int)) < 0) = true then
      some ((), ((Int.negSucc 0), ()))
    else
      w_laws_szLinePacketS_5 F_laws_szLinePacket j X (X.fst) (IntKind.i64.wrap (X.snd.fst - (↑(List.length X.fst) : Int))) 0 := by kernel_rfl
theorem w_laws_szLinePacketS_5_step (j : Nat) (X : dens ps_laws_szLinePacketS) (v0 : List (Ty.den (.pair (.int .i64) (.pair (.int .i64) (.pair (.int .i64) (.sl 3 (.int .i64))))))) (v1 : Int) (v2 : Int) : w_laws_szLinePacketS_5 F_laws_szLinePacket (j + 1) X v0 v1 v2 =
    if decide (v2 < (↑v0.length : Int)) = true then
      if 0 ≤ v2 then
        if v2 < (↑v0.length : Int) then
          (F_laws_szLinePacket (((v0.getD v2.toNat (0, 0, 0, []))), (v1, ()))).bind fun r0 =>
            if decide (r0.snd.fst < 0) = true then
              some ((), ((Int.negSucc 0), ()))
            else
              w_laws_szLinePacketS_5 F_laws_szLinePacket j X v0 (r0.snd.fst) (IntKind.i64.wrap (v2 + 1))
        else
          none
      else
        none
    else
      some ((), (v1, ())) := by kernel_rfl
end
noncomputable def F_laws_szLinePacketS : (List (Int × Int × Int × List Int)) × Int × Unit → Option ((Unit) × Int × Unit) := (sigOf Try.prog (w_laws_szLinePacketS_Γ F_laws_szLinePacket) Try.f49 w_laws_szLinePacketS_cut w_laws_szLinePacketS_keep ps_laws_szLinePacketS rs_laws_szLinePacketS).F
theorem ok_laws_szLinePacketS : FnOk Try.prog 49 ⟨ps_laws_szLinePacketS, rs_laws_szLinePacketS, F_laws_szLinePacketS⟩ := sigOk (Γ := w_laws_szLinePacketS_Γ F_laws_szLinePacket) (cut := w_laws_szLinePacketS_cut) (keep := w_laws_szLinePacketS_keep) (tab_cons ok_laws_szLinePacket tab_nil) Try.func49 (by kernel_rfl) rfl
noncomputable def H_laws_szLinePacketS_5 (X : (List (Int × Int × Int × List Int)) × Int × Unit) (v0 : List (Int × Int × Int × List Int)) (v1 : Int) (v2 : Int) : Option ((Unit) × Int × Unit) := lim fun j => w_laws_szLinePacketS_5 F_laws_szLinePacket j X v0 v1 v2
theorem H_laws_szLinePacketS_5_eq (X : (List (Int × Int × Int × List Int)) × Int × Unit) (v0 : List (Int × Int × Int × List Int)) (v1 : Int) (v2 : Int) : H_laws_szLinePacketS_5 X v0 v1 v2 =
    if decide (v2 < (↑v0.length : Int)) = true then
      if 0 ≤ v2 then
        if v2 < (↑v0.length : Int) then
          (F_laws_szLinePacket (((v0.getD v2.toNat (0, 0, 0, []))), (v1, ()))).bind fun r0 =>
            if decide (r0.snd.fst < 0) = true then
              some ((), ((Int.negSucc 0), ()))
            else
              H_laws_szLinePacketS_5 X v0 (r0.snd.fst) (IntKind.i64.wrap (v2 + 1))
        else
          none
      else
        none
    else
      some ((), (v1, ())) := by
  show lim (fun j => w_laws_szLinePacketS_5 F_laws_szLinePacket j X v0 v1 v2) = _
  rw [lim_succ (G := fun j => w_laws_szLinePacketS_5 F_laws_szLinePacket j X v0 v1 v2) (fun j r h => run_mono _ _ _ _ h)]
  simp only [w_laws_szLinePacketS_5_step, lim_ite, lim_bind, lim_const]
  all_goals rfl
theorem F_laws_szLinePacketS_eq (X : (List (Int × Int × Int × List Int)) × Int × Unit) : F_laws_szLinePacketS X =
    if decide (IntKind.i64.wrap (X.snd.fst - (↑(List.length X.fst) : Int)) < 0) = true then
      some ((), ((Int.negSucc 0), ()))
    else
      H_laws_szLinePacketS_5 X (X.fst) (IntKind.i64.wrap (X.snd.fst - (↑(List.length X.fst) : Int))) 0 := by
  show lim (fun j => whole Try.prog (w_laws_szLinePacketS_Γ F_laws_szLinePacket) Try.f49 w_laws_szLinePacketS_cut w_laws_szLinePacketS_keep ps_laws_szLinePacketS rs_laws_szLinePacketS j X) = _
  rw [lim_succ (fun j r h => whole_mono j r h)]
  simp only [w_laws_szLinePacketS_0, lim_ite, lim_bind, lim_const]
  all_goals rfl

/-! ### spec.l01In -/
abbrev ps_spec_l01In : List PK := [(.val false (.int .i64)), (.val false (.int .i64)), (.val false (.int .i64))]
abbrev rs_spec_l01In : List RK := [(.own false .bool)]
section
abbrev w_spec_l01In_keep : Nat → List Nat := kp []
abbrev w_spec_l01In_cut : Nat → Bool := memC []
abbrev w_spec_l01In_Γ : Nat → Option Sig := tab []
theorem w_spec_l01In_0 (j : Nat) (X : dens ps_spec_l01In) : whole Try.prog w_spec_l01In_Γ Try.f63 w_spec_l01In_cut w_spec_l01In_keep ps_spec_l01In rs_spec_l01In (j + 1) X =
    if decide (X.fst ≥ X.snd.fst) = true then
      some ((), ((decide (X.fst ≤ X.snd.snd.fst)), ()))
    else
      some ((), (false, ())) := by kernel_rfl
end
noncomputable def F_spec_l01In : Int × Int × Int × Unit → Option ((Unit) × Bool × Unit) := (sigOf Try.prog (w_spec_l01In_Γ) Try.f63 w_spec_l01In_cut w_spec_l01In_keep ps_spec_l01In rs_spec_l01In).F
theorem ok_spec_l01In : FnOk Try.prog 63 ⟨ps_spec_l01In, rs_spec_l01In, F_spec_l01In⟩ := sigOk (Γ := w_spec_l01In_Γ) (cut := w_spec_l01In_cut) (keep := w_spec_l01In_keep) tab_nil Try.func63 (by kernel_rfl) rfl
theorem F_spec_l01In_eq (X : Int × Int × Int × Unit) : F_spec_l01In X =
    if decide (X.fst ≥ X.snd.fst) = true then
      some ((), ((decide (X.fst ≤ X.snd.snd.fst)), ()))
    else
      some ((), (false, ())) := by
  show lim (fun j => whole Try.prog (w_spec_l01In_Γ) Try.f63 w_spec_l01In_cut w_spec_l01In_keep ps_spec_l01In rs_spec_l01In j X) = _
  rw [lim_succ (fun j r h => whole_mono j r h)]
  simp only [w_spec_l01In_0, lim_ite, lim_bind, lim_const]
  all_goals rfl

/-! ### spec.SymbolsFor -/
abbrev ps_spec_SymbolsFor : List PK := [(.val false (.int .i64))]
abbrev rs_spec_SymbolsFor : List RK := [(.own false (.int .i64))]
section
variable (F_spec_l01In : dens ps_spec_l01In → Option (outs ps_spec_l01In × rdens rs_spec_l01In))
abbrev w_spec_SymbolsFor_keep : Nat → List Nat := kp []
abbrev w_spec_SymbolsFor_cut : Nat → Bool := memC []
abbrev w_spec_SymbolsFor_Γ : Nat → Option Sig := tab [(63, ⟨ps_spec_l01In, rs_spec_l01In, F_spec_l01In⟩)]
theorem w_spec_SymbolsFor_0 (j : Nat) (X : dens ps_spec_SymbolsFor) : whole Try.prog (w_spec_SymbolsFor_Γ F_spec_l01In) Try.f85 w_spec_SymbolsFor_cut w_spec_SymbolsFor_keep ps_spec_SymbolsFor rs_spec_SymbolsFor (j + 1) X =
    (F_spec_l01In ((X.fst), (0, (16, ())))).bind fun r0 =>
      if (!r0.snd.fst) = true then
        some ((), ((Int.negSucc 0), ()))
      else
        some ((), ((IntKind.i64.wrap (IntKind.i64.wrap ((IntKind.i64.wrap (IntKind.i64.wrap (IntKind.i64.wrap (7 + IntKind.i64.wrap (5 * X.fst)) + 13) - 1)).tdiv 13) * 15)), ())) := by kernel_rfl
end
noncomputable def F_spec_SymbolsFor : Int × Unit → Option ((Unit) × Int × Unit) := (sigOf Try.prog (w_spec_SymbolsFor_Γ F_spec_l01In) Try.f85 w_spec_SymbolsFor_cut w_spec_SymbolsFor_keep ps_spec_SymbolsFor rs_spec_SymbolsFor).F
theorem ok_spec_SymbolsFor : FnOk Try.prog 85 ⟨ps_spec_SymbolsFor, rs_spec_SymbolsFor, F_spec_SymbolsFor⟩ := sigOk (Γ := w_spec_SymbolsFor_Γ F_spec_l01In) (cut := w_spec_SymbolsFor_cut) (keep := w_spec_SymbolsFor_keep) (tab_cons ok_spec_l01In tab_nil) Try.func85 (by kernel_rfl) rfl
theorem F_spec_SymbolsFor_eq (X : Int × Unit) : F_spec_SymbolsFor X =
    (F_spec_l01In ((X.fst), (0, (16, ())))).bind fun r0 =>
      if (!r0.snd.fst) = true then
        some ((), ((Int.negSucc 0), ()))
      else
        some ((), ((IntKind.i64.wrap (IntKind.i64.wrap ((IntKind.i64.wrap (IntKind.i64.wrap (IntKind.i64.wrap (7 + IntKind.i64.wrap (5 * X.fst)) + 13) - 1)).tdiv 13) * 15)), ())) := by
  show lim (fun j => whole Try.prog (w_spec_SymbolsFor_Γ F_spec_l01In) Try.f85 w_spec_SymbolsFor_cut w_spec_SymbolsFor_keep ps_spec_SymbolsFor rs_spec_SymbolsFor j X) = _
  rw [lim_succ (fun j r h => whole_mono j r h)]
  simp only [w_spec_SymbolsFor_0, lim_ite, lim_bind, lim_const]
  all_goals rfl

/-! ### spec.RefreshCost -/
abbrev ps_spec_RefreshCost : List PK := [(.val false (.sl 106 (.pair (.int .i64) (.pair (.int .i64) (.pair (.int .i64) (.sl 3 (.int .i64)))))))]
abbrev rs_spec_RefreshCost : List RK := [(.own false (.int .i64))]
section
variable (F_spec_SymbolsFor : dens ps_spec_SymbolsFor → Option (outs ps_spec_SymbolsFor × rdens rs_spec_SymbolsFor))
abbrev w_spec_RefreshCost_keep : Nat → List Nat := kp [(3, [0, 3, 4])]
abbrev w_spec_RefreshCost_cut : Nat → Bool := memC []
abbrev w_spec_RefreshCost_Γ : Nat → Option Sig := tab [(85, ⟨ps_spec_SymbolsFor, rs_spec_SymbolsFor, F_spec_SymbolsFor⟩)]
noncomputable def w_spec_RefreshCost_3 (j : Nat) (X : dens ps_spec_RefreshCost) (v0 : List (Ty.den (.pair (.int .i64) (.pair (.int .i64) (.pair (.int .i64) (.sl 3 (.int .i64))))))) (v1 : Int) (v2 : Int) : Option (outs ps_spec_RefreshCost × rdens rs_spec_RefreshCost) := run Try.prog (w_spec_RefreshCost_Γ F_spec_SymbolsFor) (fin Try.prog Try.f50 ps_spec_RefreshCost rs_spec_RefreshCost X) w_spec_RefreshCost_cut (resvP ps_spec_RefreshCost X startN) w_spec_RefreshCost_keep j (headTodo 3 (bodyOf Try.f50))
  ⟨sparse 22 0 [(0, (.c (.bor 106 (.pair (.int .i64) (.pair (.int .i64) (.pair (.int .i64) (.sl 3 (.int .i64))))) v0))), (3, (.c (.int .i64 v1))), (4, (.c (.int .i64 v2)))], []⟩
theorem w_spec_RefreshCost_0 (j : Nat) (X : dens ps_spec_RefreshCost) : whole Try.prog (w_spec_RefreshCost_Γ F_spec_SymbolsFor) Try.f50 w_spec_RefreshCost_cut w_spec_RefreshCost_keep ps_spec_RefreshCost rs_spec_RefreshCost (j + 1) X =
    w_spec_RefreshCost_3 F_spec_SymbolsFor j X (X.fst) 0 0 := by kernel_rfl
theorem w_spec_RefreshCost_3_step (j : Nat) (X : dens ps_spec_RefreshCost) (v0 : List (Ty.den (.pair (.int .i64) (.pair (.int .i64) (.pair (.int .i64) (.sl 3 (.int .i64))))))) (v1 : Int) (v2 : Int) : w_spec_RefreshCost_3 F_spec_SymbolsFor (j + 1) X v0 v1 v2 =
    if decide (v2 < (↑v0.length : Int)) = true then
      if 0 ≤ v2 then
        if v2 < (↑v0.length : Int) then
          (F_spec_SymbolsFor (((↑(List.length (v0.getD v2.toNat (0, 0, 0, [])).snd.snd.snd) : Int)), ())).bind fun r0 =>
            w_spec_RefreshCost_3 F_spec_SymbolsFor j X v0 (IntKind.i64.wrap (v1 + List.foldl mx2 0 [r0.snd.fst])) (IntKind.i64.wrap (v2 + 1))
        else
          none
      else
        none
    else
      some ((), (v1, ())) := by kernel_rfl
end
noncomputable def F_spec_RefreshCost : (List (Int × Int × Int × List Int)) × Unit → Option ((Unit) × Int × Unit) := (sigOf Try.prog (w_spec_RefreshCost_Γ F_spec_SymbolsFor) Try.f50 w_spec_RefreshCost_cut w_spec_RefreshCost_keep ps_spec_RefreshCost rs_spec_RefreshCost).F
theorem ok_spec_RefreshCost : FnOk Try.prog 50 ⟨ps_spec_RefreshCost, rs_spec_RefreshCost, F_spec_RefreshCost⟩ := sigOk (Γ := w_spec_RefreshCost_Γ F_spec_SymbolsFor) (cut := w_spec_RefreshCost_cut) (keep := w_spec_RefreshCost_keep) (tab_cons ok_spec_SymbolsFor tab_nil) Try.func50 (by kernel_rfl) rfl
noncomputable def H_spec_RefreshCost_3 (X : (List (Int × Int × Int × List Int)) × Unit) (v0 : List (Int × Int × Int × List Int)) (v1 : Int) (v2 : Int) : Option ((Unit) × Int × Unit) := lim fun j => w_spec_RefreshCost_3 F_spec_SymbolsFor j X v0 v1 v2
theorem H_spec_RefreshCost_3_eq (X : (List (Int × Int × Int × List Int)) × Unit) (v0 : List (Int × Int × Int × List Int)) (v1 : Int) (v2 : Int) : H_spec_RefreshCost_3 X v0 v1 v2 =
    if decide (v2 < (↑v0.length : Int)) = true then
      if 0 ≤ v2 then
        if v2 < (↑v0.length : Int) then
          (F_spec_SymbolsFor (((↑(List.length (v0.getD v2.toNat (0, 0, 0, [])).snd.snd.snd) : Int)), ())).bind fun r0 =>
            H_spec_RefreshCost_3 X v0 (IntKind.i64.wrap (v1 + List.foldl mx2 0 [r0.snd.fst])) (IntKind.i64.wrap (v2 + 1))
        else
          none
      else
        none
    else
      some ((), (v1, ())) := by
  show lim (fun j => w_spec_RefreshCost_3 F_spec_SymbolsFor j X v0 v1 v2) = _
  rw [lim_succ (G := fun j => w_spec_RefreshCost_3 F_spec_SymbolsFor j X v0 v1 v2) (fun j r h => run_mono _ _ _ _ h)]
  simp only [w_spec_RefreshCost_3_step, lim_ite, lim_bind, lim_const]
  all_goals rfl
theorem F_spec_RefreshCost_eq (X : (List (Int × Int × Int × List Int)) × Unit) : F_spec_RefreshCost X =
    H_spec_RefreshCost_3 X (X.fst) 0 0 := by
  show lim (fun j => whole Try.prog (w_spec_RefreshCost_Γ F_spec_SymbolsFor) Try.f50 w_spec_RefreshCost_cut w_spec_RefreshCost_keep ps_spec_RefreshCost rs_spec_RefreshCost j X) = _
  rw [lim_succ (fun j r h => whole_mono j r h)]
  simp only [w_spec_RefreshCost_0, lim_ite, lim_bind, lim_const]
  all_goals rfl

/-! ### laws.toIntS -/
abbrev ps_laws_toIntS : List PK := [(.val false (.sl 3 (.int .i64)))]
abbrev rs_laws_toIntS : List RK := [(.own false (.sl 3 (.int .i64)))]
section
abbrev w_laws_toIntS_keep : Nat → List Nat := kp [(3, [0, 3, 4])]
abbrev w_laws_toIntS_cut : Nat → Bool := memC []
abbrev w_laws_toIntS_Γ : Nat → Option Sig := tab []
noncomputable def w_laws_toIntS_3 (j : Nat) (X : dens ps_laws_toIntS) (v0 : List (Ty.den (.int .i64))) (v1 : Int) (v2 : List (Ty.den (.int .i64))) : Option (outs ps_laws_toIntS × rdens rs_laws_toIntS) := run Try.prog w_laws_toIntS_Γ (fin Try.prog Try.f30 ps_laws_toIntS rs_laws_toIntS X) w_laws_toIntS_cut (resvP ps_laws_toIntS X startN) w_laws_toIntS_keep j (headTodo 3 (bodyOf Try.f30))
  ⟨sparse 22 0 [(0, (.c (.bor 3 (.int .i64) v0))), (3, (.c (.own 19300000))), (4, (.c (.int .i64 v1)))], [(19300000, (.row true 0 3 (.int .i64) v2))]⟩
theorem w_laws_toIntS_0 (j : Nat) (X : dens ps_laws_toIntS) : whole Try.prog w_laws_toIntS_Γ Try.f30 w_laws_toIntS_cut w_laws_toIntS_keep ps_laws_toIntS rs_laws_toIntS (j + 1) X =
    if (↑(List.length X.fst) : Int).toNat * 8 ≤ 281474976710656 then
      w_laws_toIntS_3 j X (X.fst) 0 (List.replicate (↑(List.length X.fst) : Int).toNat 0)
    else
      none := by kernel_rfl
theorem w_laws_toIntS_3_step (j : Nat) (X : dens ps_laws_toIntS) (v0 : List (Ty.den (.int .i64))) (v1 : Int) (v2 : List (Ty.den (.int .i64))) : w_laws_toIntS_3 (j + 1) X v0 v1 v2 =
    if decide (v1 < (↑v0.length : Int)) = true then
      if 0 ≤ v1 then
        if v1 < (↑v0.length : Int) then
          if 0 ≤ v1 then
            if v1 < (↑v2.length : Int) then
              w_laws_toIntS_3 j X v0 (IntKind.i64.wrap (v1 + 1)) (v2.set v1.toNat (v0.getD v1.toNat 0))
            else
              none
          else
            none
        else
          none
      else
        none
    else
      some ((), (v2, ())) := by kernel_rfl
end
noncomputable def F_laws_toIntS : (List Int) × Unit → Option ((Unit) × (List Int) × Unit) := (sigOf Try.prog (w_laws_toIntS_Γ) Try.f30 w_laws_toIntS_cut w_laws_toIntS_keep ps_laws_toIntS rs_laws_toIntS).F
theorem ok_laws_toIntS : FnOk Try.prog 30 ⟨ps_laws_toIntS, rs_laws_toIntS, F_laws_toIntS⟩ := sigOk (Γ := w_laws_toIntS_Γ) (cut := w_laws_toIntS_cut) (keep := w_laws_toIntS_keep) tab_nil Try.func30 (by kernel_rfl) rfl
noncomputable def H_laws_toIntS_3 (X : (List Int) × Unit) (v0 : List Int) (v1 : Int) (v2 : List Int) : Option ((Unit) × (List Int) × Unit) := lim fun j => w_laws_toIntS_3 j X v0 v1 v2
theorem H_laws_toIntS_3_eq (X : (List Int) × Unit) (v0 : List Int) (v1 : Int) (v2 : List Int) : H_laws_toIntS_3 X v0 v1 v2 =
    if decide (v1 < (↑v0.length : Int)) = true then
      if 0 ≤ v1 then
        if v1 < (↑v0.length : Int) then
          if 0 ≤ v1 then
            if v1 < (↑v2.length : Int) then
              H_laws_toIntS_3 X v0 (IntKind.i64.wrap (v1 + 1)) (v2.set v1.toNat (v0.getD v1.toNat 0))
            else
              none
          else
            none
        else
          none
      else
        none
    else
      some ((), (v2, ())) := by
  show lim (fun j => w_laws_toIntS_3 j X v0 v1 v2) = _
  rw [lim_succ (G := fun j => w_laws_toIntS_3 j X v0 v1 v2) (fun j r h => run_mono _ _ _ _ h)]
  simp only [w_laws_toIntS_3_step, lim_ite, lim_bind, lim_const]
  all_goals rfl
theorem F_laws_toIntS_eq (X : (List Int) × Unit) : F_laws_toIntS X =
    if (↑(List.length X.fst) : Int).toNat * 8 ≤ 281474976710656 then
      H_laws_toIntS_3 X (X.fst) 0 (List.replicate (↑(List.length X.fst) : Int).toNat 0)
    else
      none := by
  show lim (fun j => whole Try.prog (w_laws_toIntS_Γ) Try.f30 w_laws_toIntS_cut w_laws_toIntS_keep ps_laws_toIntS rs_laws_toIntS j X) = _
  rw [lim_succ (fun j r h => whole_mono j r h)]
  simp only [w_laws_toIntS_0, lim_ite, lim_bind, lim_const]
  all_goals rfl

/-! ### laws.toLinePacket -/
abbrev ps_laws_toLinePacket : List PK := [(.val true (.pair (.int .i64) (.pair (.int .i64) (.pair (.int .i64) (.sl 3 (.int .i64))))))]
abbrev rs_laws_toLinePacket : List RK := [(.own true (.pair (.int .i64) (.pair (.int .i64) (.pair (.int .i64) (.sl 3 (.int .i64))))))]
section
variable (F_laws_toIntS : dens ps_laws_toIntS → Option (outs ps_laws_toIntS × rdens rs_laws_toIntS))
abbrev w_laws_toLinePacket_keep : Nat → List Nat := kp []
abbrev w_laws_toLinePacket_cut : Nat → Bool := memC []
abbrev w_laws_toLinePacket_Γ : Nat → Option Sig := tab [(30, ⟨ps_laws_toIntS, rs_laws_toIntS, F_laws_toIntS⟩)]
theorem w_laws_toLinePacket_0 (j : Nat) (X : dens ps_laws_toLinePacket) : whole Try.prog (w_laws_toLinePacket_Γ F_laws_toIntS) Try.f86 w_laws_toLinePacket_cut w_laws_toLinePacket_keep ps_laws_toLinePacket rs_laws_toLinePacket (j + 1) X =
    (F_laws_toIntS ((X.fst.snd.snd.snd), ())).bind fun r0 =>
      some ((), (((X.fst.fst), ((X.fst.snd.fst), ((X.fst.snd.snd.fst), (r0.snd.fst)))), ())) := by kernel_rfl
end
noncomputable def F_laws_toLinePacket : (Int × Int × Int × List Int) × Unit → Option ((Unit) × (Int × Int × Int × List Int) × Unit) := (sigOf Try.prog (w_laws_toLinePacket_Γ F_laws_toIntS) Try.f86 w_laws_toLinePacket_cut w_laws_toLinePacket_keep ps_laws_toLinePacket rs_laws_toLinePacket).F
theorem ok_laws_toLinePacket : FnOk Try.prog 86 ⟨ps_laws_toLinePacket, rs_laws_toLinePacket, F_laws_toLinePacket⟩ := sigOk (Γ := w_laws_toLinePacket_Γ F_laws_toIntS) (cut := w_laws_toLinePacket_cut) (keep := w_laws_toLinePacket_keep) (tab_cons ok_laws_toIntS tab_nil) Try.func86 (by kernel_rfl) rfl
theorem F_laws_toLinePacket_eq (X : (Int × Int × Int × List Int) × Unit) : F_laws_toLinePacket X =
    (F_laws_toIntS ((X.fst.snd.snd.snd), ())).bind fun r0 =>
      some ((), (((X.fst.fst), ((X.fst.snd.fst), ((X.fst.snd.snd.fst), (r0.snd.fst)))), ())) := by
  show lim (fun j => whole Try.prog (w_laws_toLinePacket_Γ F_laws_toIntS) Try.f86 w_laws_toLinePacket_cut w_laws_toLinePacket_keep ps_laws_toLinePacket rs_laws_toLinePacket j X) = _
  rw [lim_succ (fun j r h => whole_mono j r h)]
  simp only [w_laws_toLinePacket_0, lim_ite, lim_bind, lim_const]
  all_goals rfl

/-! ### laws.toLinePacketS -/
abbrev ps_laws_toLinePacketS : List PK := [(.val false (.sl 105 (.pair (.int .i64) (.pair (.int .i64) (.pair (.int .i64) (.sl 3 (.int .i64)))))))]
abbrev rs_laws_toLinePacketS : List RK := [(.own false (.sl 106 (.pair (.int .i64) (.pair (.int .i64) (.pair (.int .i64) (.sl 3 (.int .i64)))))))]
section
variable (F_laws_toLinePacket : dens ps_laws_toLinePacket → Option (outs ps_laws_toLinePacket × rdens rs_laws_toLinePacket))
abbrev w_laws_toLinePacketS_keep : Nat → List Nat := kp [(3, [0, 3, 4])]
abbrev w_laws_toLinePacketS_cut : Nat → Bool := memC []
abbrev w_laws_toLinePacketS_Γ : Nat → Option Sig := tab [(86, ⟨ps_laws_toLinePacket, rs_laws_toLinePacket, F_laws_toLinePacket⟩)]
noncomputable def w_laws_toLinePacketS_3 (j : Nat) (X : dens ps_laws_toLinePacketS) (v0 : List (Ty.den (.pair (.int .i64) (.pair (.int .i64) (.pair (.int .i64) (.sl 3 (.int .i64))))))) (v1 : Int) (v2 : List (Ty.den (.pair (.int .i64) (.pair (.int .i64) (.pair (.int .i64) (.sl 3 (.int .i64))))))) : Option (outs ps_laws_toLinePacketS × rdens rs_laws_toLinePacketS) := run Try.prog (w_laws_toLinePacketS_Γ F_laws_toLinePacket) (fin Try.prog Try.f51 ps_laws_toLinePacketS rs_laws_toLinePacketS X) w_laws_toLinePacketS_cut (resvP ps_laws_toLinePacketS X startN) w_laws_toLinePacketS_keep j (headTodo 3 (bodyOf Try.f51))
  ⟨sparse 23 0 [(0, (.c (.bor 105 (.pair (.int .i64) (.pair (.int .i64) (.pair (.int .i64) (.sl 3 (.int .i64))))) v0))), (3, (.c (.own 19300000))), (4, (.c (.int .i64 v1)))], [(19300000, (.row true 0 106 (.pair (.int .i64) (.pair (.int .i64) (.pair (.int .i64) (.sl 3 (.int .i64))))) v2))]⟩
theorem w_laws_toLinePacketS_0 (j : Nat) (X : dens ps_laws_toLinePacketS) : whole Try.prog (w_laws_toLinePacketS_Γ F_laws_toLinePacket) Try.f51 w_laws_toLinePacketS_cut w_laws_toLinePacketS_keep ps_laws_toLinePacketS rs_laws_toLinePacketS (j + 1) X =
    if (↑(List.length X.fst) : Int).toNat * 48 ≤ 281474976710656 then
      w_laws_toLinePacketS_3 F_laws_toLinePacket j X (X.fst) 0 (List.replicate (↑(List.length X.fst) : Int).toNat (0, 0, 0, []))
    else
      none := by kernel_rfl
theorem w_laws_toLinePacketS_3_step (j : Nat) (X : dens ps_laws_toLinePacketS) (v0 : List (Ty.den (.pair (.int .i64) (.pair (.int .i64) (.pair (.int .i64) (.sl 3 (.int .i64))))))) (v1 : Int) (v2 : List (Ty.den (.pair (.int .i64) (.pair (.int .i64) (.pair (.int .i64) (.sl 3 (.int .i64))))))) : w_laws_toLinePacketS_3 F_laws_toLinePacket (j + 1) X v0 v1 v2 =
    if decide (v1 < (↑v0.length : Int)) = true then
      if 0 ≤ v1 then
        if v1 < (↑v0.length : Int) then
          (F_laws_toLinePacket (((v0.getD v1.toNat (0, 0, 0, []))), ())).bind fun r0 =>
            if 0 ≤ v1 then
              if v1 < (↑v2.length : Int) then
                w_laws_toLinePacketS_3 F_laws_toLinePacket j X v0 (IntKind.i64.wrap (v1 + 1)) (v2.set v1.toNat (r0.snd.fst.fst, r0.snd.fst.snd.fst, r0.snd.fst.snd.snd.fst, r0.snd.fst.snd.snd.snd))
              else
                none
            else
              none
        else
          none
      else
        none
    else
      some ((), (v2, ())) := by kernel_rfl
end
noncomputable def F_laws_toLinePacketS : (List (Int × Int × Int × List Int)) × Unit → Option ((Unit) × (List (Int × Int × Int × List Int)) × Unit) := (sigOf Try.prog (w_laws_toLinePacketS_Γ F_laws_toLinePacket) Try.f51 w_laws_toLinePacketS_cut w_laws_toLinePacketS_keep ps_laws_toLinePacketS rs_laws_toLinePacketS).F
theorem ok_laws_toLinePacketS : FnOk Try.prog 51 ⟨ps_laws_toLinePacketS, rs_laws_toLinePacketS, F_laws_toLinePacketS⟩ := sigOk (Γ := w_laws_toLinePacketS_Γ F_laws_toLinePacket) (cut := w_laws_toLinePacketS_cut) (keep := w_laws_toLinePacketS_keep) (tab_cons ok_laws_toLinePacket tab_nil) Try.func51 (by kernel_rfl) rfl
noncomputable def H_laws_toLinePacketS_3 (X : (List (Int × Int × Int × List Int)) × Unit) (v0 : List (Int × Int × Int × List Int)) (v1 : Int) (v2 : List (Int × Int × Int × List Int)) : Option ((Unit) × (List (Int × Int × Int × List Int)) × Unit) := lim fun j => w_laws_toLinePacketS_3 F_laws_toLinePacket j X v0 v1 v2
theorem H_laws_toLinePacketS_3_eq (X : (List (Int × Int × Int × List Int)) × Unit) (v0 : List (Int × Int × Int × List Int)) (v1 : Int) (v2 : List (Int × Int × Int × List Int)) : H_laws_toLinePacketS_3 X v0 v1 v2 =
    if decide (v1 < (↑v0.length : Int)) = true then
      if 0 ≤ v1 then
        if v1 < (↑v0.length : Int) then
          (F_laws_toLinePacket (((v0.getD v1.toNat (0, 0, 0, []))), ())).bind fun r0 =>
            if 0 ≤ v1 then
              if v1 < (↑v2.length : Int) then
                H_laws_toLinePacketS_3 X v0 (IntKind.i64.wrap (v1 + 1)) (v2.set v1.toNat (r0.snd.fst.fst, r0.snd.fst.snd.fst, r0.snd.fst.snd.snd.fst, r0.snd.fst.snd.snd.snd))
              else
                none
            else
              none
        else
          none
      else
        none
    else
      some ((), (v2, ())) := by
  show lim (fun j => w_laws_toLinePacketS_3 F_laws_toLinePacket j X v0 v1 v2) = _
  rw [lim_succ (G := fun j => w_laws_toLinePacketS_3 F_laws_toLinePacket j X v0 v1 v2) (fun j r h => run_mono _ _ _ _ h)]
  simp only [w_laws_toLinePacketS_3_step, lim_ite, lim_bind, lim_const]
  all_goals rfl
theorem F_laws_toLinePacketS_eq (X : (List (Int × Int × Int × List Int)) × Unit) : F_laws_toLinePacketS X =
    if (↑(List.length X.fst) : Int).toNat * 48 ≤ 281474976710656 then
      H_laws_toLinePacketS_3 X (X.fst) 0 (List.replicate (↑(List.length X.fst) : Int).toNat (0, 0, 0, []))
    else
      none := by
  show lim (fun j => whole Try.prog (w_laws_toLinePacketS_Γ F_laws_toLinePacket) Try.f51 w_laws_toLinePacketS_cut w_laws_toLinePacketS_keep ps_laws_toLinePacketS rs_laws_toLinePacketS j X) = _
  rw [lim_succ (fun j r h => whole_mono j r h)]
  simp only [w_laws_toLinePacketS_0, lim_ite, lim_bind, lim_const]
  all_goals rfl

/-! ### impl.ceilDiv -/
abbrev ps_impl_ceilDiv : List PK := [(.val false (.int .i64)), (.val false (.int .i64))]
abbrev rs_impl_ceilDiv : List RK := [(.own false (.int .i64))]
section
abbrev w_impl_ceilDiv_keep : Nat → List Nat := kp []
abbrev w_impl_ceilDiv_cut : Nat → Bool := memC []
abbrev w_impl_ceilDiv_Γ : Nat → Option Sig := tab []
theorem w_impl_ceilDiv_0 (j : Nat) (X : dens ps_impl_ceilDiv) : whole Try.prog w_impl_ceilDiv_Γ Try.f92 w_impl_ceilDiv_cut w_impl_ceilDiv_keep ps_impl_ceilDiv rs_impl_ceilDiv (j + 1) X =
    if X.snd.fst = 0 then
      none
    else
      some ((), ((IntKind.i64.wrap ((IntKind.i64.wrap (IntKind.i64.wrap (X.fst + X.snd.fst) - 1)).tdiv X.snd.fst)), ())) := by kernel_rfl
end
noncomputable def F_impl_ceilDiv : Int × Int × Unit → Option ((Unit) × Int × Unit) := (sigOf Try.prog (w_impl_ceilDiv_Γ) Try.f92 w_impl_ceilDiv_cut w_impl_ceilDiv_keep ps_impl_ceilDiv rs_impl_ceilDiv).F
theorem ok_impl_ceilDiv : FnOk Try.prog 92 ⟨ps_impl_ceilDiv, rs_impl_ceilDiv, F_impl_ceilDiv⟩ := sigOk (Γ := w_impl_ceilDiv_Γ) (cut := w_impl_ceilDiv_cut) (keep := w_impl_ceilDiv_keep) tab_nil Try.func92 (by kernel_rfl) rfl
theorem F_impl_ceilDiv_eq (X : Int × Int × Unit) : F_impl_ceilDiv X =
    if X.snd.fst = 0 then
      none
    else
      some ((), ((IntKind.i64.wrap ((IntKind.i64.wrap (IntKind.i64.wrap (X.fst + X.snd.fst) - 1)).tdiv X.snd.fst)), ())) := by
  show lim (fun j => whole Try.prog (w_impl_ceilDiv_Γ) Try.f92 w_impl_ceilDiv_cut w_impl_ceilDiv_keep ps_impl_ceilDiv rs_impl_ceilDiv j X) = _
  rw [lim_succ (fun j r h => whole_mono j r h)]
  simp only [w_impl_ceilDiv_0, lim_ite, lim_bind, lim_const]
  all_goals rfl

/-! ### impl.within -/
abbrev ps_impl_within : List PK := [(.val false (.int .i64)), (.val false (.int .i64)), (.val false (.int .i64))]
abbrev rs_impl_within : List RK := [(.own false .bool)]
section
abbrev w_impl_within_keep : Nat → List Nat := kp []
abbrev w_impl_within_cut : Nat → Bool := memC []
abbrev w_impl_within_Γ : Nat → Option Sig := tab []
theorem w_impl_within_0 (j : Nat) (X : dens ps_impl_within) : whole Try.prog w_impl_within_Γ Try.f64 w_impl_within_cut w_impl_within_keep ps_impl_within rs_impl_within (j + 1) X =
    if decide (X.snd.fst ≤ X.fst) = true then
      some ((), ((decide (X.fst ≤ X.snd.snd.fst)), ()))
    else
      some ((), (false, ())) := by kernel_rfl
end
noncomputable def F_impl_within : Int × Int × Int × Unit → Option ((Unit) × Bool × Unit) := (sigOf Try.prog (w_impl_within_Γ) Try.f64 w_impl_within_cut w_impl_within_keep ps_impl_within rs_impl_within).F
theorem ok_impl_within : FnOk Try.prog 64 ⟨ps_impl_within, rs_impl_within, F_impl_within⟩ := sigOk (Γ := w_impl_within_Γ) (cut := w_impl_within_cut) (keep := w_impl_within_keep) tab_nil Try.func64 (by kernel_rfl) rfl
theorem F_impl_within_eq (X : Int × Int × Int × Unit) : F_impl_within X =
    if decide (X.snd.fst ≤ X.fst) = true then
      some ((), ((decide (X.fst ≤ X.snd.snd.fst)), ()))
    else
      some ((), (false, ())) := by
  show lim (fun j => whole Try.prog (w_impl_within_Γ) Try.f64 w_impl_within_cut w_impl_within_keep ps_impl_within rs_impl_within j X) = _
  rw [lim_succ (fun j r h => whole_mono j r h)]
  simp only [w_impl_within_0, lim_ite, lim_bind, lim_const]
  all_goals rfl

/-! ### impl.isSide -/
abbrev ps_impl_isSide : List PK := [(.val false (.int .i64))]
abbrev rs_impl_isSide : List RK := [(.own false .bool)]
section
variable (F_impl_within : dens ps_impl_within → Option (outs ps_impl_within × rdens rs_impl_within))
abbrev w_impl_isSide_keep : Nat → List Nat := kp []
abbrev w_impl_isSide_cut : Nat → Bool := memC []
abbrev w_impl_isSide_Γ : Nat → Option Sig := tab [(64, ⟨ps_impl_within, rs_impl_within, F_impl_within⟩)]
theorem w_impl_isSide_0 (j : Nat) (X : dens ps_impl_isSide) : whole Try.prog (w_impl_isSide_Γ F_impl_within) Try.f93 w_impl_isSide_cut w_impl_isSide_keep ps_impl_isSide rs_impl_isSide (j + 1) X =
    (F_impl_within ((X.fst), (1, (16, ())))).bind fun r0 =>
      some ((), ((r0.snd.fst), ())) := by kernel_rfl
end
noncomputable def F_impl_isSide : Int × Unit → Option ((Unit) × Bool × Unit) := (sigOf Try.prog (w_impl_isSide_Γ F_impl_within) Try.f93 w_impl_isSide_cut w_impl_isSide_keep ps_impl_isSide rs_impl_isSide).F
theorem ok_impl_isSide : FnOk Try.prog 93 ⟨ps_impl_isSide, rs_impl_isSide, F_impl_isSide⟩ := sigOk (Γ := w_impl_isSide_Γ F_impl_within) (cut := w_impl_isSide_cut) (keep := w_impl_isSide_keep) (tab_cons ok_impl_within tab_nil) Try.func93 (by kernel_rfl) rfl
theorem F_impl_isSide_eq (X : Int × Unit) : F_impl_isSide X =
    (F_impl_within ((X.fst), (1, (16, ())))).bind fun r0 =>
      some ((), ((r0.snd.fst), ())) := by
  show lim (fun j => whole Try.prog (w_impl_isSide_Γ F_impl_within) Try.f93 w_impl_isSide_cut w_impl_isSide_keep ps_impl_isSide rs_impl_isSide j X) = _
  rw [lim_succ (fun j r h => whole_mono j r h)]
  simp only [w_impl_isSide_0, lim_ite, lim_bind, lim_const]
  all_goals rfl

/-! ### impl.PacketLength -/
abbrev ps_impl_PacketLength : List PK := [(.val false (.int .i64)), (.val false (.int .i64))]
abbrev rs_impl_PacketLength : List RK := [(.own false (.int .i64))]
section
variable (F_impl_isSide : dens ps_impl_isSide → Option (outs ps_impl_isSide × rdens rs_impl_isSide))
abbrev w_impl_PacketLength_keep : Nat → List Nat := kp []
abbrev w_impl_PacketLength_cut : Nat → Bool := memC []
abbrev w_impl_PacketLength_Γ : Nat → Option Sig := tab [(93, ⟨ps_impl_isSide, rs_impl_isSide, F_impl_isSide⟩)]
theorem w_impl_PacketLength_0 (j : Nat) (X : dens ps_impl_PacketLength) : whole Try.prog (w_impl_PacketLength_Γ F_impl_isSide) Try.f101 w_impl_PacketLength_cut w_impl_PacketLength_keep ps_impl_PacketLength rs_impl_PacketLength (j + 1) X =
    if (X.fst == 0) = true then
      (F_impl_isSide ((X.snd.fst), ())).bind fun r0 =>
        if r0.snd.fst = true then
          some ((), ((IntKind.i64.wrap (7 + IntKind.i64.wrap (5 * X.snd.fst))), ()))
        else
          if (X.fst == 1) = true then
            if (X.snd.fst == 0) = true then
              some ((), (7, ()))
            else
              some ((), ((Int.negSucc 0), ()))
          else
            if (X.fst == 2) = true then
              if (X.snd.fst == 0) = true then
                some ((), (7, ()))
              else
                some ((), ((Int.negSucc 0), ()))
            else
              some ((), ((Int.negSucc 0), ()))
    else
      if (X.fst == 1) = true then
        if (X.snd.fst == 0) = true then
          some ((), (7, ()))
        else
          some ((), ((Int.negSucc 0), ()))
      else
        if (X.fst == 2) = true then
          if (X.snd.fst == 0) = true then
            some ((), (7, ()))
          else
            some ((), ((Int.negSucc 0), ()))
        else
          some ((), ((Int.negSucc 0), ())) := by kernel_rfl
end
noncomputable def F_impl_PacketLength : Int × Int × Unit → Option ((Unit) × Int × Unit) := (sigOf Try.prog (w_impl_PacketLength_Γ F_impl_isSide) Try.f101 w_impl_PacketLength_cut w_impl_PacketLength_keep ps_impl_PacketLength rs_impl_PacketLength).F
theorem ok_impl_PacketLength : FnOk Try.prog 101 ⟨ps_impl_PacketLength, rs_impl_PacketLength, F_impl_PacketLength⟩ := sigOk (Γ := w_impl_PacketLength_Γ F_impl_isSide) (cut := w_impl_PacketLength_cut) (keep := w_impl_PacketLength_keep) (tab_cons ok_impl_isSide tab_nil) Try.func101 (by kernel_rfl) rfl
theorem F_impl_PacketLength_eq (X : Int × Int × Unit) : F_impl_PacketLength X =
    if (X.fst == 0) = true then
      (F_impl_isSide ((X.snd.fst), ())).bind fun r0 =>
        if r0.snd.fst = true then
          some ((), ((IntKind.i64.wrap (7 + IntKind.i64.wrap (5 * X.snd.fst))), ()))
        else
          if (X.fst == 1) = true then
            if (X.snd.fst == 0) = true then
              some ((), (7, ()))
            else
              some ((), ((Int.negSucc 0), ()))
          else
            if (X.fst == 2) = true then
              if (X.snd.fst == 0) = true then
                some ((), (7, ()))
              else
                some ((), ((Int.negSucc 0), ()))
            else
              some ((), ((Int.negSucc 0), ()))
    else
      if (X.fst == 1) = true then
        if (X.snd.fst == 0) = true then
          some ((), (7, ()))
        else
          some ((), ((Int.negSucc 0), ()))
      else
        if (X.fst == 2) = true then
          if (X.snd.fst == 0) = true then
            some ((), (7, ()))
          else
            some ((), ((Int.negSucc 0), ()))
        else
          some ((), ((Int.negSucc 0), ())) := by
  show lim (fun j => whole Try.prog (w_impl_PacketLength_Γ F_impl_isSide) Try.f101 w_impl_PacketLength_cut w_impl_PacketLength_keep ps_impl_PacketLength rs_impl_PacketLength j X) = _
  rw [lim_succ (fun j r h => whole_mono j r h)]
  simp only [w_impl_PacketLength_0, lim_ite, lim_bind, lim_const]
  all_goals rfl

/-! ### impl.SymbolsFor -/
abbrev ps_impl_SymbolsFor : List PK := [(.val false (.int .i64))]
abbrev rs_impl_SymbolsFor : List RK := [(.own false (.int .i64))]
section
variable (F_impl_ceilDiv : dens ps_impl_ceilDiv → Option (outs ps_impl_ceilDiv × rdens rs_impl_ceilDiv))
variable (F_impl_PacketLength : dens ps_impl_PacketLength → Option (outs ps_impl_PacketLength × rdens rs_impl_PacketLength))
abbrev w_impl_SymbolsFor_keep : Nat → List Nat := kp []
abbrev w_impl_SymbolsFor_cut : Nat → Bool := memC []
abbrev w_impl_SymbolsFor_Γ : Nat → Option Sig := tab [(92, ⟨ps_impl_ceilDiv, rs_impl_ceilDiv, F_impl_ceilDiv⟩), (101, ⟨ps_impl_PacketLength, rs_impl_PacketLength, F_impl_PacketLength⟩)]
theorem w_impl_SymbolsFor_0 (j : Nat) (X : dens ps_impl_SymbolsFor) : whole Try.prog (w_impl_SymbolsFor_Γ F_impl_ceilDiv F_impl_PacketLength) Try.f87 w_impl_SymbolsFor_cut w_impl_SymbolsFor_keep ps_impl_SymbolsFor rs_impl_SymbolsFor (j + 1) X =
    if (X.fst == 0) = true then
      (F_impl_PacketLength (1, ((X.fst), ()))).bind fun r0 =>
        if decide (r0.snd.fst < 0) = true then
          some ((), ((Int.negSucc 0), ()))
        else
          (F_impl_ceilDiv ((r0.snd.fst), (13, ()))).bind fun r1 =>
            some ((), ((IntKind.i64.wrap (r1.snd.fst * 15)), ()))
    else
      (F_impl_PacketLength (0, ((X.fst), ()))).bind fun r2 =>
        if decide (r2.snd.fst < 0) = true then
          some ((), ((Int.negSucc 0), ()))
        else
          (F_impl_ceilDiv ((r2.snd.fst), (13, ()))).bind fun r3 =>
            some ((), ((IntKind.i64.wrap (r3.snd.fst * 15)), ())) := by kernel_rfl
end
noncomputable def F_impl_SymbolsFor : Int × Unit → Option ((Unit) × Int × Unit) := (sigOf Try.prog (w_impl_SymbolsFor_Γ F_impl_ceilDiv F_impl_PacketLength) Try.f87 w_impl_SymbolsFor_cut w_impl_SymbolsFor_keep ps_impl_SymbolsFor rs_impl_SymbolsFor).F
theorem ok_impl_SymbolsFor : FnOk Try.prog 87 ⟨ps_impl_SymbolsFor, rs_impl_SymbolsFor, F_impl_SymbolsFor⟩ := sigOk (Γ := w_impl_SymbolsFor_Γ F_impl_ceilDiv F_impl_PacketLength) (cut := w_impl_SymbolsFor_cut) (keep := w_impl_SymbolsFor_keep) (tab_cons ok_impl_ceilDiv (tab_cons ok_impl_PacketLength tab_nil)) Try.func87 (by kernel_rfl) rfl
theorem F_impl_SymbolsFor_eq (X : Int × Unit) : F_impl_SymbolsFor X =
    if (X.fst == 0) = true then
      (F_impl_PacketLength (1, ((X.fst), ()))).bind fun r0 =>
        if decide (r0.snd.fst < 0) = true then
          some ((), ((Int.negSucc 0), ()))
        else
          (F_impl_ceilDiv ((r0.snd.fst), (13, ()))).bind fun r1 =>
            some ((), ((IntKind.i64.wrap (r1.snd.fst * 15)), ()))
    else
      (F_impl_PacketLength (0, ((X.fst), ()))).bind fun r2 =>
        if decide (r2.snd.fst < 0) = true then
          some ((), ((Int.negSucc 0), ()))
        else
          (F_impl_ceilDiv ((r2.snd.fst), (13, ()))).bind fun r3 =>
            some ((), ((IntKind.i64.wrap (r3.snd.fst * 15)), ())) := by
  show lim (fun j => whole Try.prog (w_impl_SymbolsFor_Γ F_impl_ceilDiv F_impl_PacketLength) Try.f87 w_impl_SymbolsFor_cut w_impl_SymbolsFor_keep ps_impl_SymbolsFor rs_impl_SymbolsFor j X) = _
  rw [lim_succ (fun j r h => whole_mono j r h)]
  simp only [w_impl_SymbolsFor_0, lim_ite, lim_bind, lim_const]
  all_goals rfl

/-! ### impl.RefreshCost -/
abbrev ps_impl_RefreshCost : List PK := [(.val false (.sl 106 (.pair (.int .i64) (.pair (.int .i64) (.pair (.int .i64) (.sl 3 (.int .i64)))))))]
abbrev rs_impl_RefreshCost : List RK := [(.own false (.int .i64))]
section
variable (F_impl_SymbolsFor : dens ps_impl_SymbolsFor → Option (outs ps_impl_SymbolsFor × rdens rs_impl_SymbolsFor))
abbrev w_impl_RefreshCost_keep : Nat → List Nat := kp [(3, [3, 6, 7, 8])]
abbrev w_impl_RefreshCost_cut : Nat → Bool := memC []
abbrev w_impl_RefreshCost_Γ : Nat → Option Sig := tab [(87, ⟨ps_impl_SymbolsFor, rs_impl_SymbolsFor, F_impl_SymbolsFor⟩)]
noncomputable def w_impl_RefreshCost_3 (j : Nat) (X : dens ps_impl_RefreshCost) (v0 : Int) (v1 : List (Ty.den (.pair (.int .i64) (.pair (.int .i64) (.pair (.int .i64) (.sl 3 (.int .i64))))))) (v2 : Int) (v3 : Int) : Option (outs ps_impl_RefreshCost × rdens rs_impl_RefreshCost) := run Try.prog (w_impl_RefreshCost_Γ F_impl_SymbolsFor) (fin Try.prog Try.f52 ps_impl_RefreshCost rs_impl_RefreshCost X) w_impl_RefreshCost_cut (resvP ps_impl_RefreshCost X startN) w_impl_RefreshCost_keep j (headTodo 3 (bodyOf Try.f52))
  ⟨sparse 21 0 [(3, (.c (.int .i64 v0))), (6, (.c (.bor 106 (.pair (.int .i64) (.pair (.int .i64) (.pair (.int .i64) (.sl 3 (.int .i64))))) v1))), (7, (.c (.int .i64 v2))), (8, (.c (.int .i64 v3)))], []⟩
theorem w_impl_RefreshCost_0 (j : Nat) (X : dens ps_impl_RefreshCost) : whole Try.prog (w_impl_RefreshCost_Γ F_impl_SymbolsFor) Try.f52 w_impl_RefreshCost_cut w_impl_RefreshCost_keep ps_impl_RefreshCost rs_impl_RefreshCost (j + 1) X =
    w_impl_RefreshCost_3 F_impl_SymbolsFor j X 0 (X.fst) ((↑(List.length X.fst) : Int)) 0 := by kernel_rfl
theorem w_impl_RefreshCost_3_step (j : Nat) (X : dens ps_impl_RefreshCost) (v0 : Int) (v1 : List (Ty.den (.pair (.int .i64) (.pair (.int .i64) (.pair (.int .i64) (.sl 3 (.int .i64))))))) (v2 : Int) (v3 : Int) : w_impl_RefreshCost_3 F_impl_SymbolsFor (j + 1) X v0 v1 v2 v3 =
    if decide (v3 < v2) = true then
      if 0 ≤ v3 then
        if v3 < (↑v1.length : Int) then
          (F_impl_SymbolsFor (((↑(List.length (v1.getD v3.toNat (0, 0, 0, [])).snd.snd.snd) : Int)), ())).bind fun r0 =>
            w_impl_RefreshCost_3 F_impl_SymbolsFor j X (IntKind.i64.wrap (v0 + List.foldl mx2 0 [r0.snd.fst])) v1 v2 (IntKind.i64.wrap (v3 + 1))
        else
          none
      else
        none
    else
      some ((), (v0, ())) := by kernel_rfl
end
noncomputable def F_impl_RefreshCost : (List (Int × Int × Int × List Int)) × Unit → Option ((Unit) × Int × Unit) := (sigOf Try.prog (w_impl_RefreshCost_Γ F_impl_SymbolsFor) Try.f52 w_impl_RefreshCost_cut w_impl_RefreshCost_keep ps_impl_RefreshCost rs_impl_RefreshCost).F
theorem ok_impl_RefreshCost : FnOk Try.prog 52 ⟨ps_impl_RefreshCost, rs_impl_RefreshCost, F_impl_RefreshCost⟩ := sigOk (Γ := w_impl_RefreshCost_Γ F_impl_SymbolsFor) (cut := w_impl_RefreshCost_cut) (keep := w_impl_RefreshCost_keep) (tab_cons ok_impl_SymbolsFor tab_nil) Try.func52 (by kernel_rfl) rfl
noncomputable def H_impl_RefreshCost_3 (X : (List (Int × Int × Int × List Int)) × Unit) (v0 : Int) (v1 : List (Int × Int × Int × List Int)) (v2 : Int) (v3 : Int) : Option ((Unit) × Int × Unit) := lim fun j => w_impl_RefreshCost_3 F_impl_SymbolsFor j X v0 v1 v2 v3
theorem H_impl_RefreshCost_3_eq (X : (List (Int × Int × Int × List Int)) × Unit) (v0 : Int) (v1 : List (Int × Int × Int × List Int)) (v2 : Int) (v3 : Int) : H_impl_RefreshCost_3 X v0 v1 v2 v3 =
    if decide (v3 < v2) = true then
      if 0 ≤ v3 then
        if v3 < (↑v1.length : Int) then
          (F_impl_SymbolsFor (((↑(List.length (v1.getD v3.toNat (0, 0, 0, [])).snd.snd.snd) : Int)), ())).bind fun r0 =>
            H_impl_RefreshCost_3 X (IntKind.i64.wrap (v0 + List.foldl mx2 0 [r0.snd.fst])) v1 v2 (IntKind.i64.wrap (v3 + 1))
        else
          none
      else
        none
    else
      some ((), (v0, ())) := by
  show lim (fun j => w_impl_RefreshCost_3 F_impl_SymbolsFor j X v0 v1 v2 v3) = _
  rw [lim_succ (G := fun j => w_impl_RefreshCost_3 F_impl_SymbolsFor j X v0 v1 v2 v3) (fun j r h => run_mono _ _ _ _ h)]
  simp only [w_impl_RefreshCost_3_step, lim_ite, lim_bind, lim_const]
  all_goals rfl
theorem F_impl_RefreshCost_eq (X : (List (Int × Int × Int × List Int)) × Unit) : F_impl_RefreshCost X =
    H_impl_RefreshCost_3 X 0 (X.fst) ((↑(List.length X.fst) : Int)) 0 := by
  show lim (fun j => whole Try.prog (w_impl_RefreshCost_Γ F_impl_SymbolsFor) Try.f52 w_impl_RefreshCost_cut w_impl_RefreshCost_keep ps_impl_RefreshCost rs_impl_RefreshCost j X) = _
  rw [lim_succ (fun j r h => whole_mono j r h)]
  simp only [w_impl_RefreshCost_0, lim_ite, lim_bind, lim_const]
  all_goals rfl

/-! ### laws.eqIntS -/
abbrev ps_laws_eqIntS : List PK := [(.val false (.sl 3 (.int .i64))), (.val false (.sl 3 (.int .i64)))]
abbrev rs_laws_eqIntS : List RK := [(.own false .bool)]
section
abbrev w_laws_eqIntS_keep : Nat → List Nat := kp [(4, [0, 1, 5])]
abbrev w_laws_eqIntS_cut : Nat → Bool := memC []
abbrev w_laws_eqIntS_Γ : Nat → Option Sig := tab []
noncomputable def w_laws_eqIntS_4 (j : Nat) (X : dens ps_laws_eqIntS) (v0 : List (Ty.den (.int .i64))) (v1 : List (Ty.den (.int .i64))) (v2 : Int) : Option (outs ps_laws_eqIntS × rdens rs_laws_eqIntS) := run Try.prog w_laws_eqIntS_Γ (fin Try.prog Try.f32 ps_laws_eqIntS rs_laws_eqIntS X) w_laws_eqIntS_cut (resvP ps_laws_eqIntS X startN) w_laws_eqIntS_keep j (headTodo 4 (bodyOf Try.f32))
  ⟨sparse 26 0 [(0, (.c (.bor 3 (.int .i64) v0))), (1, (.c (.bor 3 (.int .i64) v1))), (5, (.c (.int .i64 v2)))], []⟩
theorem w_laws_eqIntS_0 (j : Nat) (X : dens ps_laws_eqIntS) : whole Try.prog w_laws_eqIntS_Γ Try.f32 w_laws_eqIntS_cut w_laws_eqIntS_keep ps_laws_eqIntS rs_laws_eqIntS (j + 1) X =
    if ((↑(List.length X.fst) : Int) != (↑(List.length X.snd.fst) : Int)) = true then
      some ((), (false, ()))
    else
      w_laws_eqIntS_4 j X (X.fst) (X.snd.fst) 0 := by kernel_rfl
theorem w_laws_eqIntS_4_step (j : Nat) (X : dens ps_laws_eqIntS) (v0 : List (Ty.den (.int .i64))) (v1 : List (Ty.den (.int .i64))) (v2 : Int) : w_laws_eqIntS_4 (j + 1) X v0 v1 v2 =
    if decide (v2 < (↑v0.length : Int)) = true then
      if 0 ≤ v2 then
        if v2 < (↑v0.length : Int) then
          if 0 ≤ v2 then
            if v2 < (↑v1.length : Int) then
              if (v0.getD v2.toNat 0 != v1.getD v2.toNat 0) = true then
                some ((), (false, ()))
              else
                w_laws_eqIntS_4 j X v0 v1 (IntKind.i64.wrap (v2 + 1))
            else
              none
          else
            none
        else
          none
      else
        none
    else
      some ((), (true, ())) := by kernel_rfl
end
noncomputable def F_laws_eqIntS : (List Int) × (List Int) × Unit → Option ((Unit) × Bool × Unit) := (sigOf Try.prog (w_laws_eqIntS_Γ) Try.f32 w_laws_eqIntS_cut w_laws_eqIntS_keep ps_laws_eqIntS rs_laws_eqIntS).F
theorem ok_laws_eqIntS : FnOk Try.prog 32 ⟨ps_laws_eqIntS, rs_laws_eqIntS, F_laws_eqIntS⟩ := sigOk (Γ := w_laws_eqIntS_Γ) (cut := w_laws_eqIntS_cut) (keep := w_laws_eqIntS_keep) tab_nil Try.func32 (by kernel_rfl) rfl
noncomputable def H_laws_eqIntS_4 (X : (List Int) × (List Int) × Unit) (v0 : List Int) (v1 : List Int) (v2 : Int) : Option ((Unit) × Bool × Unit) := lim fun j => w_laws_eqIntS_4 j X v0 v1 v2
theorem H_laws_eqIntS_4_eq (X : (List Int) × (List Int) × Unit) (v0 : List Int) (v1 : List Int) (v2 : Int) : H_laws_eqIntS_4 X v0 v1 v2 =
    if decide (v2 < (↑v0.length : Int)) = true then
      if 0 ≤ v2 then
        if v2 < (↑v0.length : Int) then
          if 0 ≤ v2 then
            if v2 < (↑v1.length : Int) then
              if (v0.getD v2.toNat 0 != v1.getD v2.toNat 0) = true then
                some ((), (false, ()))
              else
                H_laws_eqIntS_4 X v0 v1 (IntKind.i64.wrap (v2 + 1))
            else
              none
          else
            none
        else
          none
      else
        none
    else
      some ((), (true, ())) := by
  show lim (fun j => w_laws_eqIntS_4 j X v0 v1 v2) = _
  rw [lim_succ (G := fun j => w_laws_eqIntS_4 j X v0 v1 v2) (fun j r h => run_mono _ _ _ _ h)]
  simp only [w_laws_eqIntS_4_step, lim_ite, lim_bind, lim_const]
  all_goals rfl
theorem F_laws_eqIntS_eq (X : (List Int) × (List Int) × Unit) : F_laws_eqIntS X =
    if ((↑(List.length X.fst) : Int) != (↑(List.length X.snd.fst) : Int)) = true then
      some ((), (false, ()))
    else
      H_laws_eqIntS_4 X (X.fst) (X.snd.fst) 0 := by
  show lim (fun j => whole Try.prog (w_laws_eqIntS_Γ) Try.f32 w_laws_eqIntS_cut w_laws_eqIntS_keep ps_laws_eqIntS rs_laws_eqIntS j X) = _
  rw [lim_succ (fun j r h => whole_mono j r h)]
  simp only [w_laws_eqIntS_0, lim_ite, lim_bind, lim_const]
  all_goals rfl

/-! ### laws.eqLinePacket -/
abbrev ps_laws_eqLinePacket : List PK := [(.val true (.pair (.int .i64) (.pair (.int .i64) (.pair (.int .i64) (.sl 3 (.int .i64)))))), (.val true (.pair (.int .i64) (.pair (.int .i64) (.pair (.int .i64) (.sl 3 (.int .i64))))))]
abbrev rs_laws_eqLinePacket : List RK := [(.own false .bool)]
section
variable (F_laws_eqIntS : dens ps_laws_eqIntS → Option (outs ps_laws_eqIntS × rdens rs_laws_eqIntS))
abbrev w_laws_eqLinePacket_keep : Nat → List Nat := kp []
abbrev w_laws_eqLinePacket_cut : Nat → Bool := memC []
abbrev w_laws_eqLinePacket_Γ : Nat → Option Sig := tab [(32, ⟨ps_laws_eqIntS, rs_laws_eqIntS, F_laws_eqIntS⟩)]
theorem w_laws_eqLinePacket_0 (j : Nat) (X : dens ps_laws_eqLinePacket) : whole Try.prog (w_laws_eqLinePacket_Γ F_laws_eqIntS) Try.f88 w_laws_eqLinePacket_cut w_laws_eqLinePacket_keep ps_laws_eqLinePacket rs_laws_eqLinePacket (j + 1) X =
    if (X.fst.fst != X.snd.fst.fst) = true then
      some ((), (false, ()))
    else
      if (X.fst.snd.fst != X.snd.fst.snd.fst) = true then
        some ((), (false, ()))
      else
        if (X.fst.snd.snd.fst != X.snd.fst.snd.snd.fst) = true then
          some ((), (false, ()))
        else
          (F_laws_eqIntS ((X.fst.snd.snd.snd), ((X.snd.fst.snd.snd.snd), ()))).bind fun r0 =>
            if (!r0.snd.fst) = true then
              some ((), (false, ()))
            else
              some ((), (true, ())) := by kernel_rfl
end
noncomputable def F_laws_eqLinePacket : (Int × Int × Int × List Int) × (Int × Int × Int × List Int) × Unit → Option ((Unit) × Bool × Unit) := (sigOf Try.prog (w_laws_eqLinePacket_Γ F_laws_eqIntS) Try.f88 w_laws_eqLinePacket_cut w_laws_eqLinePacket_keep ps_laws_eqLinePacket rs_laws_eqLinePacket).F
theorem ok_laws_eqLinePacket : FnOk Try.prog 88 ⟨ps_laws_eqLinePacket, rs_laws_eqLinePacket, F_laws_eqLinePacket⟩ := sigOk (Γ := w_laws_eqLinePacket_Γ F_laws_eqIntS) (cut := w_laws_eqLinePacket_cut) (keep := w_laws_eqLinePacket_keep) (tab_cons ok_laws_eqIntS tab_nil) Try.func88 (by kernel_rfl) rfl
theorem F_laws_eqLinePacket_eq (X : (Int × Int × Int × List Int) × (Int × Int × Int × List Int) × Unit) : F_laws_eqLinePacket X =
    if (X.fst.fst != X.snd.fst.fst) = true then
      some ((), (false, ()))
    else
      if (X.fst.snd.fst != X.snd.fst.snd.fst) = true then
        some ((), (false, ()))
      else
        if (X.fst.snd.snd.fst != X.snd.fst.snd.snd.fst) = true then
          some ((), (false, ()))
        else
          (F_laws_eqIntS ((X.fst.snd.snd.snd), ((X.snd.fst.snd.snd.snd), ()))).bind fun r0 =>
            if (!r0.snd.fst) = true then
              some ((), (false, ()))
            else
              some ((), (true, ())) := by
  show lim (fun j => whole Try.prog (w_laws_eqLinePacket_Γ F_laws_eqIntS) Try.f88 w_laws_eqLinePacket_cut w_laws_eqLinePacket_keep ps_laws_eqLinePacket rs_laws_eqLinePacket j X) = _
  rw [lim_succ (fun j r h => whole_mono j r h)]
  simp only [w_laws_eqLinePacket_0, lim_ite, lim_bind, lim_const]
  all_goals rfl

/-! ### laws.eqLinePacketS -/
abbrev ps_laws_eqLinePacketS : List PK := [(.val false (.sl 106 (.pair (.int .i64) (.pair (.int .i64) (.pair (.int .i64) (.sl 3 (.int .i64))))))), (.val false (.sl 106 (.pair (.int .i64) (.pair (.int .i64) (.pair (.int .i64) (.sl 3 (.int .i64)))))))]
abbrev rs_laws_eqLinePacketS : List RK := [(.own false .bool)]
section
variable (F_laws_eqLinePacket : dens ps_laws_eqLinePacket → Option (outs ps_laws_eqLinePacket × rdens rs_laws_eqLinePacket))
abbrev w_laws_eqLinePacketS_keep : Nat → List Nat := kp [(4, [0, 1, 5])]
abbrev w_laws_eqLinePacketS_cut : Nat → Bool := memC []
abbrev w_laws_eqLinePacketS_Γ : Nat → Option Sig := tab [(88, ⟨ps_laws_eqLinePacket, rs_laws_eqLinePacket, F_laws_eqLinePacket⟩)]
noncomputable def w_laws_eqLinePacketS_4 (j : Nat) (X : dens ps_laws_eqLinePacketS) (v0 : List (Ty.den (.pair (.int .i64) (.pair (.int .i64) (.pair (.int .i64) (.sl 3 (.int .i64))))))) (v1 : List (Ty.den (.pair (.int .i64) (.pair (.int .i64) (.pair (.int .i64) (.sl 3 (.int .i64))))))) (v2 : Int) : Option (outs ps_laws_eqLinePacketS × rdens rs_laws_eqLinePacketS) := run Try.prog (w_laws_eqLinePacketS_Γ F_laws_eqLinePacket) (fin Try.prog Try.f53 ps_laws_eqLinePacketS rs_laws_eqLinePacketS X) w_laws_eqLinePacketS_cut (resvP ps_laws_eqLinePacketS X startN) w_laws_eqLinePacketS_keep j (headTodo 4 (bodyOf Try.f53))
  ⟨sparse 27 0 [(0, (.c (.bor 106 (.pair (.int .i64) (.pair (.int .i64) (.pair (.int .i64) (.sl 3 (.int .i64))))) v0))), (1, (.c (.bor 106 (.pair (.int .i64) (.pair (.int .i64) (.pair (.int .i64) (.sl 3 (.int .i64))))) v1))), (5, (.c (.int .i64 v2)))], []⟩
theorem w_laws_eqLinePacketS_0 (j : Nat) (X : dens ps_laws_eqLinePacketS) : whole Try.prog (w_laws_eqLinePacketS_Γ F_laws_eqLinePacket) Try.f53 w_laws_eqLinePacketS_cut w_laws_eqLinePacketS_keep ps_laws_eqLinePacketS rs_laws_eqLinePacketS (j + 1) X =
    if ((↑(List.length X.fst) : Int) != (↑(List.length X.snd.fst) : Int)) = true then
      some ((), (false, ()))
    else
      w_laws_eqLinePacketS_4 F_laws_eqLinePacket j X (X.fst) (X.snd.fst) 0 := by kernel_rfl
theorem w_laws_eqLinePacketS_4_step (j : Nat) (X : dens ps_laws_eqLinePacketS) (v0 : List (Ty.den (.pair (.int .i64) (.pair (.int .i64) (.pair (.int .i64) (.sl 3 (.int .i64))))))) (v1 : List (Ty.den (.pair (.int .i64) (.pair (.int .i64) (.pair (.int .i64) (.sl 3 (.int .i64))))))) (v2 : Int) : w_laws_eqLinePacketS_4 F_laws_eqLinePacket (j + 1) X v0 v1 v2 =
    if decide (v2 < (↑v0.length : Int)) = true then
      if 0 ≤ v2 then
        if v2 < (↑v0.length : Int) then
          if 0 ≤ v2 then
            if v2 < (↑v1.length : Int) then
              (F_laws_eqLinePacket (((v0.getD v2.toNat (0, 0, 0, []))), (((v1.getD v2.toNat (0, 0, 0, []))), ()))).bind fun r0 =>
                if (!r0.snd.fst) = true then
                  some ((), (false, ()))
                else
                  w_laws_eqLinePacketS_4 F_laws_eqLinePacket j X v0 v1 (IntKind.i64.wrap (v2 + 1))
            else
              none
          else
            none
        else
          none
      else
        none
    else
      some ((), (true, ())) := by kernel_rfl
end
noncomputable def F_laws_eqLinePacketS : (List (Int × Int × Int × List Int)) × (List (Int × Int × Int × List Int)) × Unit → Option ((Unit) × Bool × Unit) := (sigOf Try.prog (w_laws_eqLinePacketS_Γ F_laws_eqLinePacket) Try.f53 w_laws_eqLinePacketS_cut w_laws_eqLinePacketS_keep ps_laws_eqLinePacketS rs_laws_eqLinePacketS).F
theorem ok_laws_eqLinePacketS : FnOk Try.prog 53 ⟨ps_laws_eqLinePacketS, rs_laws_eqLinePacketS, F_laws_eqLinePacketS⟩ := sigOk (Γ := w_laws_eqLinePacketS_Γ F_laws_eqLinePacket) (cut := w_laws_eqLinePacketS_cut) (keep := w_laws_eqLinePacketS_keep) (tab_cons ok_laws_eqLinePacket tab_nil) Try.func53 (by kernel_rfl) rfl
noncomputable def H_laws_eqLinePacketS_4 (X : (List (Int × Int × Int × List Int)) × (List (Int × Int × Int × List Int)) × Unit) (v0 : List (Int × Int × Int × List Int)) (v1 : List (Int × Int × Int × List Int)) (v2 : Int) : Option ((Unit) × Bool × Unit) := lim fun j => w_laws_eqLinePacketS_4 F_laws_eqLinePacket j X v0 v1 v2
theorem H_laws_eqLinePacketS_4_eq (X : (List (Int × Int × Int × List Int)) × (List (Int × Int × Int × List Int)) × Unit) (v0 : List (Int × Int × Int × List Int)) (v1 : List (Int × Int × Int × List Int)) (v2 : Int) : H_laws_eqLinePacketS_4 X v0 v1 v2 =
    if decide (v2 < (↑v0.length : Int)) = true then
      if 0 ≤ v2 then
        if v2 < (↑v0.length : Int) then
          if 0 ≤ v2 then
            if v2 < (↑v1.length : Int) then
              (F_laws_eqLinePacket (((v0.getD v2.toNat (0, 0, 0, []))), (((v1.getD v2.toNat (0, 0, 0, []))), ()))).bind fun r0 =>
                if (!r0.snd.fst) = true then
                  some ((), (false, ()))
                else
                  H_laws_eqLinePacketS_4 X v0 v1 (IntKind.i64.wrap (v2 + 1))
            else
              none
          else
            none
        else
          none
      else
        none
    else
      some ((), (true, ())) := by
  show lim (fun j => w_laws_eqLinePacketS_4 F_laws_eqLinePacket j X v0 v1 v2) = _
  rw [lim_succ (G := fun j => w_laws_eqLinePacketS_4 F_laws_eqLinePacket j X v0 v1 v2) (fun j r h => run_mono _ _ _ _ h)]
  simp only [w_laws_eqLinePacketS_4_step, lim_ite, lim_bind, lim_const]
  all_goals rfl
theorem F_laws_eqLinePacketS_eq (X : (List (Int × Int × Int × List Int)) × (List (Int × Int × Int × List Int)) × Unit) : F_laws_eqLinePacketS X =
    if ((↑(List.length X.fst) : Int) != (↑(List.length X.snd.fst) : Int)) = true then
      some ((), (false, ()))
    else
      H_laws_eqLinePacketS_4 X (X.fst) (X.snd.fst) 0 := by
  show lim (fun j => whole Try.prog (w_laws_eqLinePacketS_Γ F_laws_eqLinePacket) Try.f53 w_laws_eqLinePacketS_cut w_laws_eqLinePacketS_keep ps_laws_eqLinePacketS rs_laws_eqLinePacketS j X) = _
  rw [lim_succ (fun j r h => whole_mono j r h)]
  simp only [w_laws_eqLinePacketS_0, lim_ite, lim_bind, lim_const]
  all_goals rfl

/-! ### laws.FnExactRefreshCost -/
abbrev ps_laws_FnExactRefreshCost : List PK := [(.val false (.sl 105 (.pair (.int .i64) (.pair (.int .i64) (.pair (.int .i64) (.sl 3 (.int .i64)))))))]
abbrev rs_laws_FnExactRefreshCost : List RK := [(.own false .bool)]
section
variable (F_laws_szLinePacketS : dens ps_laws_szLinePacketS → Option (outs ps_laws_szLinePacketS × rdens rs_laws_szLinePacketS))
variable (F_spec_RefreshCost : dens ps_spec_RefreshCost → Option (outs ps_spec_RefreshCost × rdens rs_spec_RefreshCost))
variable (F_laws_toLinePacketS : dens ps_laws_toLinePacketS → Option (outs ps_laws_toLinePacketS × rdens rs_laws_toLinePacketS))
variable (F_impl_RefreshCost : dens ps_impl_RefreshCost → Option (outs ps_impl_RefreshCost × rdens rs_impl_RefreshCost))
variable (F_laws_eqLinePacketS : dens ps_laws_eqLinePacketS → Option (outs ps_laws_eqLinePacketS × rdens rs_laws_eqLinePacketS))
abbrev w_laws_FnExactRefreshCost_keep : Nat → List Nat := kp []
abbrev w_laws_FnExactRefreshCost_cut : Nat → Bool := memC []
abbrev w_laws_FnExactRefreshCost_Γ : Nat → Option Sig := tab [(49, ⟨ps_laws_szLinePacketS, rs_laws_szLinePacketS, F_laws_szLinePacketS⟩), (50, ⟨ps_spec_RefreshCost, rs_spec_RefreshCost, F_spec_RefreshCost⟩), (51, ⟨ps_laws_toLinePacketS, rs_laws_toLinePacketS, F_laws_toLinePacketS⟩), (52, ⟨ps_impl_RefreshCost, rs_impl_RefreshCost, F_impl_RefreshCost⟩), (53, ⟨ps_laws_eqLinePacketS, rs_laws_eqLinePacketS, F_laws_eqLinePacketS⟩)]
theorem w_laws_FnExactRefreshCost_0 (j : Nat) (X : dens ps_laws_FnExactRefreshCost) : whole Try.prog (w_laws_FnExactRefreshCost_Γ F_laws_szLinePacketS F_spec_RefreshCost F_laws_toLinePacketS F_impl_RefreshCost F_laws_eqLinePacketS) Try.f11 w_laws_FnExactRefreshCost_cut w_laws_FnExactRefreshCost_keep ps_laws_FnExactRefreshCost rs_laws_FnExactRefreshCost (j + 1) X =
    (F_laws_szLinePacketS ((X.fst), (1048576, ()))).bind fun r0 =>
      if decide (r0.snd.fst < 0) = true then
        some ((), (true, ()))
      else
        (F_laws_toLinePacketS ((X.fst), ())).bind fun r1 =>
          (F_spec_RefreshCost ((r1.snd.fst), ())).bind fun r2 =>
            (F_laws_toLinePacketS ((X.fst), ())).bind fun r3 =>
              (F_impl_RefreshCost ((r3.snd.fst), ())).bind fun r4 =>
                if (r4.snd.fst != r2.snd.fst) = true then
                  some ((), (false, ()))
                else
                  (F_laws_toLinePacketS ((X.fst), ())).bind fun r5 =>
                    (F_laws_eqLinePacketS ((r3.snd.fst), ((r5.snd.fst), ()))).bind fun r6 =>
                      if (!r6.snd.fst) = true then
                        some ((), (false, ()))
                      else
                        some ((), (true, ())) := by kernel_rfl
end
noncomputable def F_laws_FnExactRefreshCost : (List (Int × Int × Int × List Int)) × Unit → Option ((Unit) × Bool × Unit) := (sigOf Try.prog (w_laws_FnExactRefreshCost_Γ F_laws_szLinePacketS F_spec_RefreshCost F_laws_toLinePacketS F_impl_RefreshCost F_laws_eqLinePacketS) Try.f11 w_laws_FnExactRefreshCost_cut w_laws_FnExactRefreshCost_keep ps_laws_FnExactRefreshCost rs_laws_FnExactRefreshCost).F
theorem ok_laws_FnExactRefreshCost : FnOk Try.prog 11 ⟨ps_laws_FnExactRefreshCost, rs_laws_FnExactRefreshCost, F_laws_FnExactRefreshCost⟩ := sigOk (Γ := w_laws_FnExactRefreshCost_Γ F_laws_szLinePacketS F_spec_RefreshCost F_laws_toLinePacketS F_impl_RefreshCost F_laws_eqLinePacketS) (cut := w_laws_FnExactRefreshCost_cut) (keep := w_laws_FnExactRefreshCost_keep) (tab_cons ok_laws_szLinePacketS (tab_cons ok_spec_RefreshCost (tab_cons ok_laws_toLinePacketS (tab_cons ok_impl_RefreshCost (tab_cons ok_laws_eqLinePacketS tab_nil))))) Try.func11 (by kernel_rfl) rfl
theorem F_laws_FnExactRefreshCost_eq (X : (List (Int × Int × Int × List Int)) × Unit) : F_laws_FnExactRefreshCost X =
    (F_laws_szLinePacketS ((X.fst), (1048576, ()))).bind fun r0 =>
      if decide (r0.snd.fst < 0) = true then
        some ((), (true, ()))
      else
        (F_laws_toLinePacketS ((X.fst), ())).bind fun r1 =>
          (F_spec_RefreshCost ((r1.snd.fst), ())).bind fun r2 =>
            (F_laws_toLinePacketS ((X.fst), ())).bind fun r3 =>
              (F_impl_RefreshCost ((r3.snd.fst), ())).bind fun r4 =>
                if (r4.snd.fst != r2.snd.fst) = true then
                  some ((), (false, ()))
                else
                  (F_laws_toLinePacketS ((X.fst), ())).bind fun r5 =>
                    (F_laws_eqLinePacketS ((r3.snd.fst), ((r5.snd.fst), ()))).bind fun r6 =>
                      if (!r6.snd.fst) = true then
                        some ((), (false, ()))
                      else
                        some ((), (true, ())) := by
  show lim (fun j => whole Try.prog (w_laws_FnExactRefreshCost_Γ F_laws_szLinePacketS F_spec_RefreshCost F_laws_toLinePacketS F_impl_RefreshCost F_laws_eqLinePacketS) Try.f11 w_laws_FnExactRefreshCost_cut w_laws_FnExactRefreshCost_keep ps_laws_FnExactRefreshCost rs_laws_FnExactRefreshCost j X) = _
  rw [lim_succ (fun j r h => whole_mono j r h)]
  simp only [w_laws_FnExactRefreshCost_0, lim_ite, lim_bind, lim_const]
  all_goals rfl
end Go.Proofs.Ytceffcfnjjlbkaa.E
